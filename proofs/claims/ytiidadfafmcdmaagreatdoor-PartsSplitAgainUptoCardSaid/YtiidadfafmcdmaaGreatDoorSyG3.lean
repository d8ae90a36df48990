/- What the claim rests on, part 3: gathered texts. -/
import Derived.RangeFuncRecord
import Derived.Lib.ItoaNum
import Derived.Lib.Index
import Derived.Lib.AtoiAll
import Derived.Shelf.SlSortCmp.Insertion
import Derived.Lib.Replace
import Derived.Lib.Repeat
import Derived.Lib.MapLaws
import Derived.Lib.ValidLaws
import Derived.Lib.BytesEntry
import Derived.Laws.Externs
import Derived.Shelf.LaysC
import Derived.Shelf.LaysM
import Derived.Shelf.SlGeneric
import Derived.Shelf.SlLaysF0
import Derived.Ground.NamesProg
import Derived.Test.YtiidadfafmcdmaaGreatDoorProg
import Derived.Below
import Derived.Tactics
import Derived.Tactics2
import Derived.Laws.AppendOwn
import Derived.Shelf.Strconv.Itoa4
import Derived.Shelf.Bytes.SlIndexWhole
import Derived.Shelf.Strconv.AtoiAll
import Derived.Shelf.Strconv.ErrVarAll
import Derived.Shelf.SlicesE.Clone
import Derived.Shelf.SlSortCmp.NoneTotal
import Derived.Shelf.Strings.BuilderCap
import Derived.Shelf.Unicode.DecodeAny
import Derived.Laws.DeepStrings4
import Derived.Deep.LoopGhost
import Derived.Deep.DeepCutAuto
import Derived.Deep.DeepFit
import Derived.Deep.DeepMust
import Derived.Shelf.Unicode.ValidAny
import Derived.Test.YtiidadfafmcdmaaGreatDoorSyG2
set_option maxRecDepth 100000
set_option linter.defProp false
namespace Go.Sym
open Go.RowKit
variable[LC]
def ll(i:Nat)(c:Code):Code:=match c with
 |.seq a b=>match i with|0=>a|_=>b
 |.cond _ a b=>match i with|0=>a|_=>b
 |.block _ a=>a|.loop a=>a|.scope a=>a|.rangeFunc _ _ a b=>match i with|0=>a|_=>b
 |c=>c
def sub(body:Code):List Nat->Code|[]=>body|i::p=>ll i (sub body p)
structure dx where
 kd:Nat
 path:List Nat
 it:Item
def ug(body:Code)(kd:Nat)(p:List Nat):Item:=match kd with
 |0 => .code (sub body p)|1=>match sub body p with|.block id _ => .inBlock id|c => .code c
 |2=>match sub body p with|.loop x => .inLoop x|c => .code c
 |3=>match sub body p with|.scope x => .inScope x|c => .code c
 |_ => .beginRound
def dx.Ok(body:Code)(i:dx):Prop:=i.it=ug body i.kd i.path
abbrev yt:=List (Nat×List Nat)
def mn(body:Code):yt->List dx|[]=>[]|(kd,p)::r=>⟨kd,p,ug body kd p⟩::mn body r
def d8:List dx->List Item|[]=>[]|i::r=>i.it::d8 r
def qat:yt->List dx->Bool|[],[]=>true|(kd,p)::r,i::k=>Nat.beq kd i.kd&&ol p i.path&&qat r k|_,_=>false
def q6v{body:Code}:∀{key:yt}{k:List dx},qat key k=true->(∀i∈k,i.Ok body)->d8 (mn body key)=d8 k
 |[],[],_,_=>rfl|(kd,p)::r,⟨kd',p',it⟩::k,h,hk=>by
  simp only[qat,qA]at h;obtain⟨⟨h1,h2⟩,h3⟩:=h;have h1:=qN h1;have h2:=qif h2;subst h1 h2;have ho:it=ug body kd p:=hk _ qH;simp only[mn,d8];rw[q6v h3 (fun i hi=>hk i (qE _ hi)),ho]
 |[],_::_,h,_=>by cases h
 |_::_,[],h,_=>by cases h
def qtz{body:Code}:∀{key:yt},∀i∈mn body key,i.Ok body
 |[],i,h=>by cases h
 |(kd,p)::r,i,h=>by
  rcases List.mem_cons.1 h with rfl|h
  ·rfl
  ·exact qtz i h
def zzf{body:Code}{kd:Nat}{p:List Nat}{c:Code}(h:Item.code c=ug body kd p):sub body p=c:=by
 unfold ug at h;split at h
 ·injection h with h;exact h.symm
 ·split at h
  ·cases h
  ·injection h with h;exact h.symm
 ·split at h
  ·cases h
  ·injection h with h;exact h.symm
 ·split at h
  ·cases h
  ·injection h with h;exact h.symm
 ·cases h
def zu3{body:Code}{kd:Nat}{p:List Nat}{c:Code}(h:Item.inLoop c=ug body kd p):sub body p = .loop c:=by
 unfold ug at h;split at h
 ·cases h
 ·split at h<;>cases h
 ·split at h
  ·rename_i e;injection h with h;subst h;exact e
  ·cases h
 ·split at h<;>cases h
 ·cases h
def ot(id:Nat):List dx->Option (List dx)
 |[]=>none|i::k=>match i.it with|.inBlock id'=>if id'==id then some k else ot id k|_=>ot id k
def qyn{id:Nat}:∀{k k':List dx},ot id k=some k'->exitTo id (d8 k)=some (d8 k')/\∀i∈k',i∈k
 |[],_,h=>by cases h
 |⟨kd,p,it⟩::k,k',h=>by
  simp only[ot]at h;split at h
  ·rename_i id';split at h
   ·rename_i he;simp only[qI]at h;subst h;exact⟨by simp only[d8,exitTo];rw[qX he],fun i hi=>qE _ hi⟩
   ·rename_i he;obtain⟨h1,h2⟩:=qyn h;exact⟨by simp only[d8,exitTo];rw[qW he];exact h1,fun i hi=>qE _ (h2 i hi)⟩
  ·rename_i hne;obtain⟨h1,h2⟩:=qyn h;refine⟨?_,fun i hi=>qE _ (h2 i hi)⟩
   (try simp only at hne)
   simp only[d8];cases it<;>first
    |(exfalso;exact hne _ rfl)
    |(simp only[exitTo];exact h1)
def qwc(P:Program)(s:St):ResultVar->Option AV
 |.tmp t=>ae s.fr t|.cell t T=>match ae s.fr t with
  |some (.ptr b off)=>match ae s.hp b with|some (.cells cs _)=>ni P T cs off|_=>none
  |some (.oel k sz 0 0)=>match ae s.hp k,uh P T,dz P T with|some (.row τ l _),some true,some _=>bif τ.is1&&Nat.beq sz 1 then some (.arr τ l) else none|_,_,_=>none
  |_=>none
def qxi(P:Program)(s:St):ResultVar->Bool
 |.tmp _=>true|.cell t T=>match ae s.fr t with
  |some (.oel k _ 0 0)=>match ae s.hp k,dz P T with|some (.row _ l _),some n=>decide (l.length=n)|_,_=>true
  |_=>true
def qgv(P:Program)(s:St):List ResultVar->Bool|[]=>true|x::xs=>qxi P s x&&qgv P s xs
def qa2(P:Program)(s:St):List ResultVar->Option (List AV)
 |[]=>some []|x::xs=>match qwc P s x with
  |some v=>match qa2 P s xs with|some vs=>some (v::vs)|none=>none
  |none=>none
def qtr(P:Program)(fn:Func)(s:St):Option AV:=
 match qa2 P s fn.results.toList with
 |some vs=>match vs with|[v]=>some v|vs=>some (.tup vs)
 |none=>none
def frzC(p:Pt)(b off:Nat)(s:St):St:=match ae s.hp b with|some (.cells cs _)=>frzL (qjk p (.agg (cs.drop off))) s|_=>s
def coR(bs:List (Nat×az)):List ResultVar->List Pt->St->St
 |[],_,s=>s|x::xs,ps,s=>match ps with
  |[]=>s|p::ps=>match x with
   |.tmp t=>coR bs xs ps (coF bs [(t,p)] s)|.cell t _=>match ae s.fr t with|some (.ptr b off)=>coR bs xs ps (frzC p b off (coB1 bs b [p] off s))|_=>coR bs xs ps s
def qm1:Pt->List Pt|.tup ps=>ps|p=>[p]
def qnm(v:AV)(ids:NM)(p:Pt)(hp:List (Nat×az))(s:St):Option (p.den×fy hp):=
 match p.get v ids with
 |some (d,nm)=>match qw s.hp hp nm with|some (d',nm')=>bif dv nm'&&rz nm' hp then some (d,d') else none|none=>none
 |none=>none
def qp1(P:Program)(fn:Func)(ids:NM)(rv:Option AV)(p:Pt)(hp:List (Nat×az))(s:St):Option (p.den×fy hp):=
 match rv with
 |some v=>qnm v ids p hp (coB hp ids hp s)|none=>match qtr P fn (coR hp fn.results.toList (qm1 p) (coB hp ids hp s)) with|some v=>qnm v ids p hp (coR hp fn.results.toList (qm1 p) (coB hp ids hp s))|none=>none
def qs8(P:Program)(fn:Func)(ids:NM)(rv:Option AV)(p:Pt)(hp:List (Nat×az))(s:St):Bool:=
 match rv with|some _=>true|none=>qgv P (coR hp fn.results.toList (qm1 p) (coB hp ids hp s)) fn.results.toList
def RS.fin(P:Program)(fn:Func)(ids:NM)(rv:Option AV)(s:St):{α:Type}->RS α->Option α
 | _,.one p hp _ fro _=>bif qs8 P fn ids rv p hp s then(match qp1 P fn ids rv p hp s with
  |some y=>some (fro y)| none=>none) else none
 |_,.two l r=>match l.fin P fn ids rv s with
  |some a=>some (.inl a)|none=>match r.fin P fn ids rv s with|some b=>some (.inr b)|none=>none
structure fb(R:Type) where
 key:yt
 ls:LS
 F:ls.den->Option R
def yd{R:Type}(ids:NM)(s:St)(k:List dx):List (fb R)->Option (fb R)
 |[]=>none| l::ls=>bif qat l.key k then(match yd ids s k ls with
   |none=>some l|some l'=>match l.ls.get ids (l.ls.co ids s) with
    |some _=>some l| none=>some l') else yd ids s k ls
structure Cx:Type 1 where
 P:Program
 tb:Tb
 fn:Func
 f:FuncId
 ids:NM
 rd:Option Nat
 tags:List (List Nat×Nat)
def St.noDf(s:St):Bool:=match s.df with|[]=>true|_=>false
def qft:List Nat->St->Option St
 |[],s=>some { s with df:=[] }|n::ns,s=>match ae s.hp n with|some .dfr=>qft ns { s with hp:=(n,.dead)::s.hp,df:=ns }|_=>none
def si:Option dm->Bool|none=>true|some _=>false
def nk(cx:Cx){R:Type}(enc:RS R)(j:Option dm)(s:St):Option R:=
 match cx.rd with
 |none=>match qft s.df s with|some s'=>enc.fin cx.P cx.fn cx.ids none s'|none=>none
 |some m=>bif s.noDf then
   (match ae s.hp m with
   |some (.loop _ _ f n fr ps tag D)=>enc.fin cx.P cx.fn cx.ids (some (.val (.bool (si j)))) { s with hp:=(m,.loop (bif si j then .ready else .done) j f n fr ps tag D)::s.hp }| _=>none)
  else none
def St.enterRF(s:St)(f:FuncId)(ps:List Tmp)(tag:Nat)(around:Option Nat):Option St:=
 bif ax s.nx s.hp then
  (match around with
  |none=>some { s with hp:=(s.nx,.loop .ready none f s.n s.fr ps tag (s.nx+1))::(s.nx+1,.dfr)::s.hp,df:=(s.nx+1)::s.df,nx:=s.nx+32 }|some m=>match ae s.hp m with
   |some (.loop _ _ _ _ _ _ _ D)=>some { s with hp:=(s.nx,.loop .ready none f s.n s.fr ps tag D)::s.hp,nx:=s.nx+32 }| _=>none)
 else none
def q1c(s:St)(ys:List AV)(d:D):Option St:=match d with
 |.mem names xs hp _ hp'=>
  bif dv names&&pq names&&ax s.nx s.hp then
   (match ib (ar names) s.hp names,bf false [] (AV.rens (ar names) ys) xs with
   |some hpv,some _=>match jo hpv hp with|some _=>some { s with hp:=lu (jy names hp' s.nx) hp'++(mf names++s.hp),nx:=s.nx+32 }|none=>none
   | _,_=>none)
  else none
 |_=>none
def qk(p:List Nat):List (List Nat×Nat)->Option Nat|[]=>none|(q,t)::r=>bif ol q p then some t else qk p r
def qzd:LoopState->Bool|.busy=>false|_=>true
def qnj(cx:Cx)(p:List Nat)(g:Operand)(ps:List Tmp)(s:St):Option (Rq×St×List AV):=
 match qk p cx.tags,s.ev g with
 |some tag,some (.fn (.func h) [] cap)=>match s.enterRF cx.f ps tag cx.rd with
  |some s1=>match vo (qeg s1 h (.yld s.nx::cap)) cx.tb.ents with|some q=>some (q,s1,.yld s.nx::cap)|none=>none
  |none=>none
 |_,_=>none
def q0g(cx:Cx)(p:List Nat)(g:Operand)(ps:List Tmp)(s:St):Option St:=
 match qk p cx.tags,s.ev g with
 |some tag,some (.fn (.func h) [] cap)=>match s.enterRF cx.f ps tag cx.rd with
  |some s1=>match qjj (fun e=>qy h e.key) cx.tb.ents with|some e=>some (coB e.hp (r8 s1 e.hp (vg e.args (.yld s.nx::cap))) e.hp (frzL (wz e.args (.yld s.nx::cap)) s))|none=>none
  |none=>none
 |_,_=>none
def qm9{R:Type}(nl:Nat)(a:Rq×St×List AV)(K:Option dm->St->Option R):Option R:=
 a.1.K fun d=>match q1c a.2.1 a.2.2 d with
  |some s3=>match ae s3.hp nl with|some (.loop st pe _ _ _ _ _ _)=>bif qzd st then K pe { s3 with hp:=(nl,.dead)::s3.hp } else none|_=>none
  |none=>none
def rfR(cx:Cx){R:Type}(p:List Nat)(g:Operand)(ps:List Tmp)(s:St)(K:Option dm->St->Option R):Option R:=
 match qnj cx p g ps s with
 |some a=>qm9 s.nx a K|none=>match q0g cx p g ps s with
  |some s'=>match qnj cx p g ps s' with|some a=>qm9 s'.nx a K|none=>none
  |none=>none
def run(cx:Cx){R:Type}(enc:RS R)(labs:List (fb R)):Nat->Bool->List dx->St->Option R
 |0,_,_,_=>none|n+1,chk,k,s=>match(bif chk then yd cx.ids s k labs else none) with
  |some lab=>match lab.ls.get cx.ids (lab.ls.co cx.ids s) with|some d=>lab.F d|none=>none
  |none=>match k with
   |[]=>nk cx enc none s|⟨_,p,it⟩::k'=>match it with
    |.code c=>match c with
     |.skip=>run cx enc labs n true k' s|.label _=>run cx enc labs n true k' s|.seq x y=>run cx enc labs n true (⟨0,0::p,.code x⟩::⟨0,1::p,.code y⟩::k') s|.cond c x y=>match s.ev c with|some (.bool b)=>bif b then run cx enc labs n true (⟨0,0::p,.code x⟩::k') (s.know c true) else run cx enc labs n true (⟨0,1::p,.code y⟩::k') (s.know c false)|some (.val (.bool b))=>bif b then run cx enc labs n true (⟨0,0::p,.code x⟩::k') s else run cx enc labs n true (⟨0,1::p,.code y⟩::k') s|_=>none
     |.block id x=>run cx enc labs n true (⟨0,0::p,.code x⟩::⟨1,p,.inBlock id⟩::k') s|.loop x=>run cx enc labs n true (⟨0,0::p,.code x⟩::⟨2,p,.inLoop x⟩::k') s|.scope x=>run cx enc labs n true (⟨0,0::p,.code x⟩::⟨3,p,.inScope x⟩::k') s|.exit id=>match ot id k' with
      |some k''=>run cx enc labs n true k'' s|none=>match cx.rd with|some _=>nk cx enc (some (.exit id)) s|none=>none
     |.region _ ops d=>bif d then qpj cx.P cx.tb ops s (fun s'=>run cx enc labs n true k' s'.bump) else ya cx.P cx.tb ops ops.toList s (fun s'=>run cx enc labs n true k' s'.bump)
     |.ret=>nk cx enc (some .ret) s|.rangeFunc g ps _ _=>rfR cx p g ps.toList s fun j s'=>match j with
      |none=>run cx enc labs n true k' s'|some .ret=>nk cx enc (some .ret) s'|some (.exit id)=>match ot id k' with
       |some k''=>run cx enc labs n true k'' s'|none=>match cx.rd with|some _=>nk cx enc (some (.exit id)) s'|none=>none
     |_=>none
    |.inBlock _=>run cx enc labs n true k' s|.inScope _=>run cx enc labs n true k' s|.inLoop x=>run cx enc labs n true (⟨0,0::p,.code x⟩::⟨2,p,.inLoop x⟩::k') s|.beginRound=>match cx.rd with
     |some m=>match ae s.hp m with|some (.loop .ready pe f n' fr ps tag D)=>run cx enc labs n true k' { s with hp:=(m,.loop .busy pe f n' fr ps tag D)::s.hp }|_=>none
     |none=>none
    |_=>none
def w6(P:Program)(ro:Option Nat)(f:FuncId)(x:Machine)(cs:List Frame)(Q:Value->World->Prop):Prop:=
 match ro with|none=>∃v w' fr,Q v w'/\Steps P x (lone fr cs w')/\fr.fn=f/\fr.leaving P w' (.returned v)|some _=>∀c cs',cs=c::cs'->∃v w',Q v w'/\Steps P x (lone (c.finish v) cs' w')
def w6.head{P:Program}{ro:Option Nat}{f:FuncId}{x y:Machine}{cs:List Frame}{Q:Value->World->Prop}(h:Steps P x y)(k:w6 P ro f y cs Q):w6 P ro f x cs Q:=by
 cases ro with
 |none=>obtain⟨v,w',fr,h1,h2,h3⟩:=k;exact⟨v,w',fr,h1,h.trans h2,h3⟩
 |some l=>exact fun c cs' e=>by obtain⟨v,w',h1,h2⟩:=k c cs' e;exact⟨v,w',h1,h.trans h2⟩
section
variable{P:Program}{z2m:World}{z2h:Gh}{z2j:List (Nat×ag)}{G:Gh}{s:St}{a:Act}{w:World}
def zj(tmps:Array Value)(x:ResultVar):Sem Value:=match x with|.tmp t=>pure (tmps.getD t undef)|.cell a t=>do loadVar t (← asAddr (tmps.getD a undef))
def ztv(fn:Func)(tmps:Array Value):results fn tmps=(do let vs ← fn.results.mapM (zj tmps);pure (if h:vs.size=1 then vs[0] else .tuple vs)):=rfl
def zz5(hr:ah z2m z2h z2j G s a w){x:ResultVar}{v:AV}(hq:qxi P s x=true)(h:qwc P s x=some v):∃u,(zj a.tmps x).run P w = .ok u w/\ai v G u:=by
 cases x with
 |tmp t=>
  obtain⟨u,h1,h2⟩:=hr.frame t v h;exact⟨u,by simp[zj,Array.getD_eq_getD_getElem?,h1],h2⟩
 |cell t T=>
  simp only[qwc]at h;split at h
  ·rename_i b off hb;split at h
   ·rename_i cs T' hc;obtain⟨u,h1,B,hB,rfl⟩:=hr.frame _ _ hb;obtain⟨B',vs,k1,k2,k3,_⟩:=hr.fin.mem.holds _ _ hc;rw[k1]at hB;injection hB with hB;subst hB
    obtain⟨z,hz,hrz⟩:=zb (P:=P) (w:=w) h (o:=0) k3 (fun j u hu=>by rw[wO];exact cell_of_heap k2 hu)
    rw[wO]at hz;exact⟨z,by simp[zj,Array.getD_eq_getD_getElem?,h1,asAddr,hz],hrz⟩
   ·cases h
  ·rename_i k sz hb;split at h
   ·rename_i τ l E n hl hagg hn;simp only[qxi,hb,hl,hn,decide_eq_true_eq]at hq;cases hbb:τ.is1&&Nat.beq sz 1<;>rw[hbb]at h<;>simp only[qT,qF,reduceCtorEq,qI]at h
    subst h;simp only[qA]at hbb;have hsz:τ.sz=1:=yy hbb.1;obtain⟨u,h1,B,n0,c0,ho,rfl⟩:=hr.frame _ _ hb;obtain⟨ad,c',q1,q2⟩:=hr.fin.mem.holds _ _ hl;rw[ho]at q1;simp only[qI,qP]at q1;obtain⟨rfl,rfl,rfl⟩:=q1;rcases q2 with⟨q2,_⟩|⟨g,vs,fz,k1,k2,k3,k4,k5,k6,k7,k8,k9⟩
    ·cases q2
    ·simp only[qI,Addr.mk.injEq,and_true]at k1;subst k1;have hfl:(l.flatMap τ.enc).length=n:=by rw[lg,hsz,hq,Nat.mul_one]
     have hload:ni P T (l.flatMap τ.enc) 0=some (.agg (l.flatMap τ.enc)):=by
      unfold ni;rw[hagg,hn];have:Nat.ble (0+n) (l.flatMap τ.enc).length=true:=by rw[hfl,wO];simp
      simp only[this,qT,List.drop_zero];rw[List.take_of_length_le (by rw[hfl];exact wF _)]
     obtain⟨u,hu,us,rfl,hru⟩:=zb (P:=P) (w:=w) hload (B:=B) (o:=0) k7 (fun j u hu=>by
      rw[List.getElem?_take]at hu;split at hu
      ·rw[wO];exact cell_of_heap k2 hu
      ·cases hu)
     simp only[Nat.add_zero]at hu;refine⟨.agg us,by simp[zj,Array.getD_eq_getD_getElem?,h1,asAddr,hu],?_⟩
     have:=qpx (G:=G) hbb.1 hru;simpa using this
   ·cases h
  ·cases h
def q81(hr:ah z2m z2h z2j G s a w):∀{xs:List ResultVar}{vs:List AV},qgv P s xs=true->qa2 P s xs=some vs ->
  ∃us:List Value,(xs.mapM (zj a.tmps)).run P w = .ok us w/\ak vs G us
 |[],vs,_,h=>by simp only[qa2,qI]at h;subst h;exact⟨[],by simp,trivial⟩|x::xs,vs,hq,h=>by
  simp only[qgv,qA]at hq;simp only[qa2]at h;split at h
  ·rename_i v hv;split at h
   ·rename_i us hus;simp only[qI]at h;subst h;obtain⟨u,hu,hru⟩:=zz5 hr hq.1 hv;obtain⟨us',hu',hru'⟩:=q81 hr hq.2 hus;refine⟨u::us',?_,hru,hru'⟩;rw[List.mapM_cons];simp only[Sem.run_bind,hu,Result.andThen_ok,hu',Sem.run_pure]
   ·cases h
  ·cases h
def zj1(hr:ah z2m z2h z2j G s a w){fn:Func}{v:AV}(hq:qgv P s fn.results.toList=true)(h:qtr P fn s=some v):∃u,(results fn a.tmps).run P w = .ok u w/\ai v G u:=by
 unfold qtr at h;have key:∀vs,qa2 P s fn.results.toList=some vs->∃us:List Value,(results fn a.tmps).run P w = .ok (if h:us.toArray.size=1 then us.toArray[0] else .tuple us.toArray) w/\ak vs G us:=fun vs hv=>by
  obtain⟨us,h1,h2⟩:=q81 hr hq hv;refine⟨us,?_,h2⟩;rw[ztv,Array.mapM_eq_mapM_toList];simp only[Sem.run_bind,Sem.run_map,h1,Result.andThen_ok,Sem.run_pure]
 split at h
 ·rename_i vs hv;obtain⟨us,h1,h2⟩:=key _ hv;split at h
  ·simp only[qI]at h;subst h
   match us,h2 with|[u],h2=>exact⟨u,by rw[h1];rfl,h2.1⟩|[],h2=>exact h2.elim|_::_::_,h2=>exact h2.2.elim
  ·rename_i hne;simp only[qI]at h;subst h;refine⟨.tuple us.toArray,?_,us.toArray,rfl,by simpa using h2⟩
   rw[h1,dif_neg];intro he;have hl:=h2.length;simp at he;rw[he]at hl
   match vs,hl,hne with|[x],_,hne=>exact hne x rfl
 ·cases h
def ah.frzC{p:Pt}{b off:Nat}{s:St}{G:Gh}(hr:ah z2m z2h z2j G s a w):∃G',ah z2m z2h z2j G' (frzC p b off s) a w:=by
 unfold Sym.frzC;split
 ·exact hr.frzL
 ·exact⟨G,hr⟩
def ah.coR{bs:List (Nat×az)}:∀{xs:List ResultVar}{ps:List Pt}{s:St}{G:Gh},ah z2m z2h z2j G s a w->∃G',ah z2m z2h z2j G' (coR bs xs ps s) a w
 |[],_,s,G,hr=>⟨G,hr⟩|x::xs,ps,s,G,hr=>by
  unfold Sym.coR;split
  ·exact⟨G,hr⟩
  ·split
   ·obtain⟨G',hr'⟩:=hr.coF (bs:=bs) (l:=[(_,_)]);exact ah.coR hr'
   ·split
    ·obtain⟨G',hr'⟩:=hr.coB1 (bs:=bs);obtain⟨G2,hr2⟩:=hr'.frzC;exact ah.coR hr2
    ·exact ah.coR hr
def qlf(hr:ah z2m z2h z2j G s a w){ids:NM}(hid:∀n bx,ae z2j n=some bx->aw ids n=some n){v:AV}{p:Pt}{hp:List (Nat×az)}{y:p.den×fy hp}(h:qnm v ids p hp s=some y) :
  ∃G',Fin z2m z2h z2j G' (cg hp y.2) w/\∀u,ai v G u->ai (p.put y.1) G' u:=by
 unfold qnm at h;split at h
 ·rename_i d nm h1;split at h
  ·rename_i d' nm' h2;cases hq:dv nm'&&rz nm' hp<;>rw[hq]at h<;>simp only[qT,qF,reduceCtorEq]at h
   have h:=qJ h;subst h;simp only[qA]at hq;obtain⟨g1,g2⟩:=Pt.get_seen h1;obtain⟨b1,b2⟩:=w3 h2;obtain⟨b3,_⟩:=b2 nm' hq.1 (cn.refl _);exact⟨G.view nm',hr.fin.fit hq.1 (fun n bx hb=>b1 _ _ (g1 _ _ (hid n bx hb))) b3,fun u hu=>(g2 nm' hq.1 b1).rep hu⟩
  ·cases h
 ·cases h
def qe1(P:Program)(fn:Func)(rv:Option AV)(a:Act)(w:World)(Q:Value->Prop):Prop:=
 match rv with|none=>∃u,(results fn a.tmps).run P w = .ok u w/\Q u|some x=>∀b,x = .val (.bool b)->Q (.bool b)
def zb6(hr:ah z2m z2h z2j G s a w){ids:NM}(hid:∀n bx,ae z2j n=some bx->aw ids n=some n){fn:Func}{rv:Option AV}{p:Pt}{hp:List (Nat×az)}{y:p.den×fy hp}(hq:qs8 P fn ids rv p hp s=true)(h:qp1 P fn ids rv p hp s=some y) :
  qe1 P fn rv a w fun u=>∃G',Fin z2m z2h z2j G' (cg hp y.2) w/\ai (p.put y.1) G' u:=by
 unfold qp1 at h;split at h
 ·rename_i x;obtain⟨G1,hr1⟩:=hr.coB (bs:=hp) (nm:=ids) (l:=hp);obtain⟨G',h1,h2⟩:=qlf hr1 hid h;exact fun b e=>⟨G',h1,h2 _ (by subst e;rfl)⟩
 ·split at h
  ·rename_i v hv;obtain⟨G1,hr1⟩:=hr.coB (bs:=hp) (nm:=ids) (l:=hp);obtain⟨G2,hr2⟩:=hr1.coR (bs:=hp) (xs:=fn.results.toList) (ps:=qm1 p);obtain⟨G',h1,h2⟩:=qlf hr2 hid h;obtain⟨u,hu,hru⟩:=zj1 hr2 hq hv;exact⟨u,hu,G',h1,h2 _ hru⟩
  ·cases h
def qe1.mono{fn:Func}{rv:Option AV}{Q Q':Value->Prop}(h:qe1 P fn rv a w Q)(k:∀v,Q v->Q' v):qe1 P fn rv a w Q':=by
 cases rv with
 |none=>obtain⟨u,h1,h2⟩:=h;exact⟨u,h1,k _ h2⟩
 |some x=>exact fun b e=>k _ (h b e)
def qiv(hr:ah z2m z2h z2j G s a w){ids:NM}(hid:∀n bx,ae z2j n=some bx->aw ids n=some n){fn:Func}{rv:Option AV}:∀{α:Type}{enc:RS α}{x:α},enc.fin P fn ids rv s=some x ->
  qe1 P fn rv a w fun u=>∃G',Fin z2m z2h z2j G' (enc.res x).2 w/\ai (enc.res x).1 G' u
 |_,.one p hp tq fro ok,x,h=>by
  simp only[RS.fin]at h;cases hq:qs8 P fn ids rv p hp s<;>rw[hq]at h<;>simp only[qT,qF,reduceCtorEq]at h
  split at h
  ·rename_i y hy;have h:=qJ h;subst h;have:=zb6 (P:=P) hr hid hq hy;simp only[RS.res,ok];exact this
  ·cases h
 |_,.two l r,x,h=>by
  simp only[RS.fin]at h;split at h
  ·rename_i y hy;have h:=qJ h;subst h;have:=qiv (enc:=l) hr hid hy;exact this
  ·split at h
   ·rename_i y hy;have h:=qJ h;subst h;have:=qiv (enc:=r) hr hid hy;exact this
   ·cases h
def q5n:∀{ns:List Nat}{s s':St}{G:Gh}{a:Act}{w:World},s.df=ns->qft ns s=some s'->ah z2m z2h z2j G s a w->∀(fr:Frame)(cs:List Frame),fr.mode = .returning->fr.defers=a.defers ->
  ∃w',ah z2m z2h z2j G s' { a with defers:=[] } w'/\Steps P (lone fr cs w) (lone { fr with defers:=[] } cs w')
 |[],s,s',G,a,w,hd,h,hr,fr,cs,hm,hfd=>by
  simp only[qft,qI]at h;subst h;obtain⟨bs,h1,h2⟩:=hr.defers;rw[hd]at h2;have:bs=[]:=by cases bs with|nil=>rfl|cons _ _=>simp at h2
  subst this;refine⟨w,⟨⟨[],rfl,rfl⟩,hr.size,hr.frame,hr.fresh,hr.fin⟩,?_⟩;have e:({ fr with defers:=[] }:Frame)=fr:=by rw[← show fr.defers=[] by rw[hfd,h1];rfl]
  rw[e];exact .refl _ _
 |n::ns,s,s',G,a,w,hd,h,hr,fr,cs,hm,hfd=>by
  simp only[qft]at h;split at h
  ·rename_i hl;obtain⟨bs,h1,h2⟩:=hr.defers;rw[hd]at h2
   cases bs with
   |nil=>simp at h2|cons b bs=>
    simp only[List.map_cons,List.cons.injEq]at h2;obtain⟨B,k1,k2,k3⟩:=hr.fin.mem.holds n _ hl;rw[k1]at h2;obtain⟨e,h2⟩:=h2;injection e with e;subst e
    have hr1:=hr.setBox (bx' := .dead) (o := .deferred none) hl (show G.at n .dfr=some b from k1) (fun c hc=>by cases hc) trivial k3
    have hr2:ah z2m z2h z2j G { s with hp:=(n,.dead)::s.hp,df:=ns } { a with defers:=bs.map (fun b=>{ target := .collected b,args:=#[] }) } (w.putObj b (.deferred none)):=
     ⟨⟨bs,rfl,h2⟩,hr1.size,hr1.frame,hr1.fresh,hr1.fin⟩
    have hs:=step_collected (P:=P) (cs:=cs) (fr:=fr) (by rw[hm];simp) (by rw[hfd,h1];rfl) rfl (run_takeDeferred k2)
    obtain⟨w',i1,i2⟩:=q5n (a:={ a with defers:=bs.map (fun b=>{ target := .collected b,args:=#[] }) }) rfl h hr2 { fr with defers:=[]++bs.map (fun b=>{ target := .collected b,args:=#[] }) } cs hm rfl
    exact⟨w',i1,(Steps.one hs).trans i2⟩
  ·cases h
end
structure Cx.Ok(cx:Cx)(body:Code):Prop where
 ents:∀e∈cx.tb.ents,e.Sound cx.P
 mixed:cx.P.follows .mixedOrders=true
 func:cx.P.funcs[cx.f]? = some cx.fn
 tags:∀p t,qk p cx.tags=some t->∀g ps x y,sub body p = .rangeFunc g ps x y->LC.lc t=some (x,y)
def qb(cx:Cx)(z2h:Gh)(z2j:List (Nat×ag))(b:Frame):Prop:=match cx.rd with|none=>b.roundOf=none|some m=>∃B bx,z2h.box m=some B/\ae z2j m=some bx/\b.roundOf=some B
section
variable{z2m:World}{z2h:Gh}{z2j:List (Nat×ag)}{G:Gh}{s:St}{a:Act}{w:World}
def zhs{P:Program}(fn:FuncId)(tmps:Array Value)(ps:Array Tmp)(asn bo:Code){l:Nat}{r:Loop}(h:w.heap[l]? = some (.loop r)) :
  (Instr.enterLoop fn tmps ps asn bo (some l)).run P w = .ok (w.heap.size,[]) (w.alloc (.loop { state := .ready,pending:=none,fn,tmps,params:=ps,assign:=asn,body:=bo,defers:=r.defers })):=by
 unfold Instr.enterLoop;simp only[Sem.run_bind,run_getLoop h,run_newObj_alloc,Result.andThen,Sem.run_pure]
def q3p(hr:ah z2m z2h z2j G s a w){k D DB:Nat}{f:FuncId}{ps:Array Tmp}{tag:Nat}{asn bo:Code}(htag:LC.lc tag=some (asn,bo))(hk:ae s.hp k=none)(hkx:s.nx<=k)(hD:G.box D=some DB)(hne:D≠k) :
  ah z2m z2h z2j (G.addBox k w.heap.size) { s with hp:=(k,.loop .ready none f s.n s.fr ps.toList tag D)::s.hp } a (w.alloc (.loop { state := .ready,pending:=none,fn:=f,tmps:=a.tmps,params:=ps,assign:=asn,body:=bo,defers:=DB })):=by
 have hle:G.le (G.addBox k w.heap.size):=Gh.addBox_le (hr.fresh k hkx hk).1;refine hr.newBox hk hkx (fun b hb => ?_) ⟨w.heap.size,a.tmps,DB,Gh.addBox_self,by rw[Gh.addBox_ne hne];exact hD,⟨asn,bo,htag,?_⟩,hr.size,fun i x hx => ?_,fun o => ?_⟩
 ·have hb:(G.addBox k w.heap.size).box k=some b:=hb;rw[Gh.addBox_self]at hb;injection hb with hb;exact hb.symm
 ·rw[ob];simp
 ·obtain⟨v,h1,h2⟩:=hr.frame i x hx;exact⟨v,h1,h2.le hle⟩
 ·cases hq:(G.addBox k w.heap.size).imm w.heap.size o with
  |none=>rfl|some v=>
   have:=World.block_lt_of_cell? _ _ (hr.fin.mem.agree _ _ _ hq);simp at this
def ah.nx(hr:ah z2m z2h z2j G s a w){k:Nat}(h:s.nx<=k):ah z2m z2h z2j G { s with nx:=k } a w:=⟨hr.defers,hr.size,hr.frame,fun m hm hl=>hr.fresh m (Nat.le_trans h hm) hl,hr.fin⟩
def z2d(hr:ah z2m z2h z2j G s a w){cx:Cx}{ps:Array Tmp}{tag:Nat}{asn bo:Code}(htag:LC.lc tag=some (asn,bo)){s1:St}(h:s.enterRF cx.f ps.toList tag cx.rd=some s1){b:Frame}(hb:b.fn=cx.f)(hrd:qb cx z2h z2j b) :
  ∃G1 l mark w1,(Instr.enterLoop b.fn a.tmps ps asn bo b.roundOf).run cx.P w = .ok (l,mark) w1/\G1.box s.nx=some l/\G.le G1/\ah z2m z2h z2j G1 s1 { a with defers:=mark++a.defers } w1/\s1.nx=s.nx+32:=by
 unfold St.enterRF at h;cases hn:ax s.nx s.hp<;>rw[hn]at h<;>simp only[qT,qF,reduceCtorEq]at h
 have hk0:=lw hn s.nx (wF _) (by omega)
 have hk1:=lw hn (s.nx+1) (by omega) (by omega)
 unfold qb at hrd;split at h
 ·rename_i hc;rw[hc]at hrd;simp only at hrd;simp only[qI]at h;subst h;have hr1:=hr.newBox (k:=s.nx+1) (bx := .dfr) (o := .deferred (some [])) hk1 (by omega) (fun b hb=>by
   have hb:(G.addBox (s.nx+1) w.heap.size).box (s.nx+1)=some b:=hb;rw[Gh.addBox_self]at hb;injection hb with hb;exact hb.symm)
   ⟨w.heap.size,Gh.addBox_self,ob _ _,fun o=>by
    cases hq:(G.addBox (s.nx+1) w.heap.size).imm w.heap.size o with
    |none=>rfl|some v=>
     have:=World.block_lt_of_cell? _ _ (hr.fin.mem.agree _ _ _ hq);simp at this⟩
  have hk0':ae ((s.nx+1,ag.dfr)::s.hp) s.nx=none:=by
   simp only[ae];have:Nat.beq (s.nx+1) s.nx=false:=by
    cases hq:Nat.beq (s.nx+1) s.nx
    ·rfl
    ·have:=qN hq;omega
   rw[this];exact hk0
  have hr2:=q3p hr1 (k:=s.nx) (D:=s.nx+1) (f:=cx.f) (ps:=ps) htag hk0' (wF _) Gh.addBox_self (by omega)
  have hle1:G.le (G.addBox (s.nx+1) w.heap.size):=Gh.addBox_le (hr.fresh (s.nx+1) (by omega) hk1).1
  have hle2:(G.addBox (s.nx+1) w.heap.size).le ((G.addBox (s.nx+1) w.heap.size).addBox s.nx (w.alloc (.deferred (some []))).heap.size):=Gh.addBox_le (hr1.fresh s.nx (wF _) hk0').1;refine⟨_,w.heap.size+1,[{ target := .collected w.heap.size,args:=#[] }],_,by rw[hrd,hb];exact run_enterLoop_outer _ _ _ _ _,?_,hle1.trans hle2,?_,rfl⟩
  ·rw[Gh.addBox_self,World.size_alloc]
  ·have hr3:=hr2.nx (k:=s.nx+32) (by show s.nx<=_;omega)
   refine⟨?_,hr3.size,hr3.frame,hr3.fresh,hr3.fin⟩;obtain⟨bs,h1,h2⟩:=hr3.defers;refine⟨w.heap.size::bs,by rw[h1];rfl,?_⟩
   simp only[List.map_cons,List.cons.injEq];refine⟨?_,h2⟩;rw[Gh.addBox_ne (by omega),Gh.addBox_self]
 ·rename_i m hc;rw[hc]at hrd;simp only at hrd;obtain⟨B,bx0,e1,e2,e3⟩:=hrd;split at h
  ·rename_i D hm;simp only[qI]at h;subst h;obtain⟨B',tmps,DB,k1,k2,⟨asn',bo',_,k3⟩,_⟩:=hr.fin.mem.holds _ _ hm;have:=hr.fin.keep m bx0 B e2 e1;rw[this]at k1;injection k1 with k1;subst k1
   have hne:D≠s.nx:=fun e=>by subst e;rw[(hr.fresh _ (wF _) hk0).1]at k2;cases k2
   have hr2:=q3p hr (k:=s.nx) (D:=D) (f:=cx.f) (ps:=ps) htag hk0 (wF _) k2 hne;have hle2:G.le (G.addBox s.nx w.heap.size):=Gh.addBox_le (hr.fresh s.nx (wF _) hk0).1;refine⟨_,w.heap.size,[],_,by rw[e3,hb];exact zhs _ _ _ _ _ k3,Gh.addBox_self,hle2,?_,rfl⟩
   exact hr2.nx (k:=s.nx+32) (by show s.nx<=_;omega)
  ·cases h
end
def qov:Option dm->List Item|none=>[]|some j=>[.code j.code]
section
variable{z2m:World}{z2h:Gh}{z2j:List (Nat×ag)}{G:Gh}{s:St}{a:Act}{w:World}{cx:Cx}{body:Code}{R:Type}
def q20(ok:cx.Ok body)(hr:ah z2m z2h z2j G s a w){p:List Nat}{g:Operand}{ps:Array Tmp}{asn bo:Code}(hsub:sub body p = .rangeFunc g ps asn bo){q:Rq×St×List AV}(hq:qnj cx p g ps.toList s=some q)
  {K:Option dm->St->Option R} {x:R} (h:qm9 s.nx q K=some x) {b:Frame} (cs:List Frame) (hb:b.fn=cx.f) (_hkind:b.kind = .normal) (hrd:qb cx z2h z2j b) (k:List Item) :
  ∃j s' G' a' w',K j s'=some x/\ah z2m z2h z2j G' s' a' w'/\Steps cx.P (lone (b.atR a (.code (.rangeFunc g ps asn bo)::k)) cs w) (lone (b.atR a' (qov j++k)) cs w'):=by
 unfold qnj at hq;split at hq
 ·rename_i tag h0 cap ht hg;split at hq
  ·rename_i s1 hs1;split at hq
   ·rename_i q1 hq1;have hq:=qJ hq;subst hq;obtain⟨G1,l,mark,w1,he,hl,hle,hr1,hnx⟩:=z2d hr (ok.tags p tag ht g ps asn bo hsub) hs1 hb hrd;unfold qm9 at h;obtain⟨d,hd,h⟩:=Rq.K_some h;simp only at h hd;obtain⟨e,hemem,hc⟩:=we hq1;unfold qeg at hc;cases hkk:qy h0 e.key<;>rw[hkk]at hc<;>simp only[qT,qF,reduceCtorEq]at hc
    obtain⟨N,x1,x1',y,k1,k2,k3,k4,k5,k6⟩:=qll hc hd;subst k2;have hs:=ok.ents e hemem x1 x1' y k1;rw[qqg hkk]at hs;obtain⟨hpl,hct⟩:=hs;unfold q1c at h;simp only at h;cases hbb:dv N&&pq N&&ax s1.nx s1.hp<;>rw[hbb]at h<;>simp only[qT,qF,reduceCtorEq]at h
    simp only[qA]at hbb;obtain⟨⟨hb1,_⟩,hb2⟩:=hbb
    cases hv:ib (ar N) s1.hp N with
    |none=>rw[hv]at h;simp only[reduceCtorEq]at h|some hpv=>
    cases hvs:bf false [] (AV.rens (ar N) (.yld s.nx::cap)) (Pts.put e.args x1) with
    |none=>rw[hv,hvs]at h;simp only[reduceCtorEq]at h|some ps1=>
    rw[hv,hvs]at h;simp only at h
    cases hvw:jo hpv (cg e.hp x1') with
    |none=>rw[hvw]at h;simp only[reduceCtorEq]at h|some ps2=>
    rw[hvw]at h;simp only at h;have p1:=k5 _ hvs;have p2:=k6 _ _ hv hvw;obtain⟨fs,cps,hge,hfs,hcs⟩:=bj hr hg;have hfs0:fs=#[]:=Array.eq_empty_of_size_eq_zero (by simpa using hfs.length.symm)
    subst hfs0;have hge':({ a with defers:=mark++a.defers }:Act).eval g = .func (.func h0) #[] cps:=hge
    have hres:(resolve a.eval (rangeCall g l) 0).run cx.P w1 = .ok { target := .fn (.func h0) cps,args:=#[.func (.yield l) #[] #[]] } w1:=by
     have hy:a.eval (.const (.func (.yield l) #[] #[])) = .func (.yield l) #[] #[]:=rfl;simp[resolve,hge,Deferred.ofValue,hy]
    have hinv:(invoke (.fn (.func h0) cps) #[.func (.yield l) #[] #[]]).run cx.P w1 = .ok (.enter h0 (#[.func (.yield l) #[] #[]]++cps)) w1:=by
     simp[invoke,hpl _ w1]
    have henter:=stepR_rangeFunc (P:=cx.P) (b:=b) (a:=a) (k:=k) (cs:=cs) he hres hinv;have hreps:ak (.yld s.nx::cap) G1 (.func (.yield l) #[] #[]::cps.toList):=⟨⟨l,hl,rfl⟩,hcs.le hle⟩;have hm:ci (G1.view N) (cg e.hp x1') w1:=(hr1.fin.mem.view hv (qbb hb1)).vw hvw p2;have hreps2:=kj (Gh.le.refl _) (fun e=>by cases e) hvs p1 (ak.ren (G:=G1) (G':=G1.view N) (fun _ _ _ h=>h) (qd N) (rf N) hreps)
    have hcalls:=hct w1 (G1.view N) _ hm hreps2;have e1:(Value.func (.yield l) #[] #[]::cps.toList).toArray=#[.func (.yield l) #[] #[]]++cps:=by simp
    rw[e1]at hcalls;obtain⟨en,w2,fr,hpost,hcomes,hfrfn,hleave⟩:=hcalls (b.atR { a with defers:=mark++a.defers } (.inRangeFunc l::k)::cs)
    obtain⟨G2,v,rfl,_,hle2,hr2⟩:=q92 hr1 hb1 hb2 (wF _) hv hvw p2 hpost;have hsteps:Steps cx.P (lone (b.atR a (.code (.rangeFunc g ps asn bo)::k)) cs w) (lone (b.atR { a with defers:=mark++a.defers } (.endRangeFunc l::k)) cs w2):=by
     refine(Steps.one henter).trans (Steps.trans hcomes (.one ?_));rw[← finish_atR_inRangeFunc l v];exact step_leave_returned hleave
    split at h
    ·rename_i st pe f' n' fr' ps' tag' D' hlk;cases hnb:qzd st<;>rw[hnb]at h<;>simp only[qT,qF,reduceCtorEq]at h
     obtain⟨B,tmps,DB,i1,i2,⟨asn',bo',_,i3⟩,i4,i5,i6⟩:=hr2.fin.mem.holds _ _ hlk;have:=hle2.box _ _ hl;rw[this]at i1;injection i1 with i1;subst i1
     have hend:=run_endLoop (P:=cx.P) i3 (by intro e;simp only at e;subst e;cases hnb)
     have hst:=stepR_endRangeFunc (b:=b) (a:={ a with defers:=mark++a.defers }) (k:=k) (cs:=cs) hend
     have e2:(Option.map Item.code (Option.map dm.code pe)).toList=qov pe:=by cases pe<;>rfl
     rw[e2]at hst;exact⟨pe,_,G2,{ a with defers:=mark++a.defers },_,h,(hr2.nx (k:=s1.nx+32) (Nat.le_add_right _ _)).setBox (bx' := .dead) hlk (show G2.at s.nx (.loop st pe f' n' fr' ps' tag' D')=some l from this) (fun c hc=>by cases hc) trivial i6,hsteps.trans (.one hst)⟩
    ·cases h
   ·cases hq
  ·cases hq
 ·cases hq
def z1t(ok:cx.Ok body)(hr:ah z2m z2h z2j G s a w){p:List Nat}{g:Operand}{ps:Array Tmp}{asn bo:Code}(hsub:sub body p = .rangeFunc g ps asn bo)
  {K:Option dm->St->Option R} {x:R} (h:rfR cx p g ps.toList s K=some x) {b:Frame} (cs:List Frame) (hb:b.fn=cx.f) (hkind:b.kind = .normal) (hrd:qb cx z2h z2j b) (k:List Item) :
  ∃j s' G' a' w',K j s'=some x/\ah z2m z2h z2j G' s' a' w'/\Steps cx.P (lone (b.atR a (.code (.rangeFunc g ps asn bo)::k)) cs w) (lone (b.atR a' (qov j++k)) cs w'):=by
 unfold rfR at h;split at h
 ·rename_i q hq;exact q20 ok hr hsub hq h cs hb hkind hrd k
 ·split at h
  ·rename_i s' hs';have:∃G',ah z2m z2h z2j G' s' a w:=by
    unfold q0g at hs';split at hs'
    ·split at hs'
     ·split at hs'
      ·have hs':=qJ hs';subst hs';obtain⟨G1,hr1⟩:=hr.frzL;exact hr1.coB
      ·cases hs'
     ·cases hs'
    ·cases hs'
   obtain⟨G',hr'⟩:=this;split at h
   ·rename_i q hq;exact q20 ok hr' hsub hq h cs hb hkind hrd k
   ·cases h
  ·cases h
def jq(cx:Cx)(z2j:List (Nat×ag)){R:Type}(enc:RS R)(k:List Item)(s:St)(r:R):Prop:=
 ∀(z2m:World)(z2h G:Gh)(a:Act)(w:World),ah z2m z2h z2j G s a w->∀(b:Frame)(cs:List Frame),b.fn=cx.f->b.kind = .normal->qb cx z2h z2j b ->
  w6 cx.P b.roundOf cx.f (lone (b.atR a k) cs w) cs fun v w'=>∃G',Fin z2m z2h z2j G' (enc.res r).2 w'/\ai (enc.res r).1 G' v
def qxk(cx:Cx)(j:Option dm)(k:List Item):Prop:=match j with|none=>k=[]|some .ret=>∃k',k = .code .ret::k'|some (.exit id)=>cx.rd≠none/\∃k',k = .code (.exit id)::k'/\exitTo id k'=none
def qj2(ok:cx.Ok body)(hid:∀n bx,ae z2j n=some bx->aw cx.ids n=some n){enc:RS R}{j:Option dm}{r:R}{k:List Item}(hk:qxk cx j k)(h:nk cx enc j s=some r):jq cx z2j enc k s r:=by
 intro z2m z2h G a w hr b cs hb hkind hrd;unfold nk at h;unfold qb at hrd;split at h
 ·rename_i hrdn;rw[hrdn]at hrd;simp only at hrd;split at h
  ·rename_i s' hs';have h1:Steps cx.P (lone (b.atR a k) cs w) (lone { b.atR a k with mode := .returning } cs w):=by
    cases j with
    |none=>simp only[qxk]at hk;subst hk;exact .one (stepR_end hrd)|some j=>cases j with
     |ret=>obtain⟨k',rfl⟩:=hk;exact .one (stepR_ret hrd)
     |exit id=>exact absurd hrdn hk.1
   obtain⟨w',i1,i2⟩:=q5n (P:=cx.P) rfl hs' hr { b.atR a k with mode := .returning } cs rfl rfl
   obtain⟨u,u1,u2⟩:=qiv (P:=cx.P) i1 hid h;rw[hrd];exact⟨u,w',_,u2,h1.trans i2,hb,rfl,rfl,hkind,cx.fn,by rw[← ok.func,← hb];rfl,u1⟩
  ·cases h
 ·rename_i m hrdm;rw[hrdm]at hrd;simp only at hrd;obtain⟨B,bx0,e1,e2,e3⟩:=hrd;cases hd:s.noDf<;>rw[hd]at h<;>simp only[qT,qF,reduceCtorEq]at h
  split at h
  ·rename_i st pe f n fr ps tag D hl;obtain⟨B',tmps,DB,i1,i2,⟨asn,bo,i3,i4⟩,i5,i6,i7⟩:=hr.fin.mem.holds _ _ hl;have:=hr.fin.keep m bx0 B e2 e1;rw[this]at i1;injection i1 with i1;subst i1
   have hend:=run_endRound (P:=cx.P) (j.map dm.code) i4;have hiso:(j.map dm.code).isNone=si j:=by cases j<;>rfl
   rw[hiso]at hend;have hst:(if si j=true then LoopState.ready else LoopState.done)=(bif si j then LoopState.ready else LoopState.done):=by cases si j<;>rfl
   rw[hst]at hend;have hr2:=hr.setBox (bx' := .loop (bif si j then .ready else .done) j f n fr ps tag D) (o := .loop { state:=bif si j then .ready else .done,pending:=j.map dm.code,fn:=f,tmps:=tmps,params:=ps.toArray,assign:=asn,body:=bo,defers:=DB }) hl (show G.box m=some B from this)
    (fun c hc=>by have hc:G.box m=some c:=hc;rw[this]at hc;injection hc with hc;exact hc.symm)
    ⟨B,tmps,DB,this,i2,⟨asn,bo,i3,by rw[World.putObj_heap_same (Array.getElem?_eq_some_iff.1 i4).1]⟩,i5,i6,i7⟩ i7
   have hfin:=qiv (P:=cx.P) hr2 hid h;rw[e3];intro c cs' hcs;subst hcs;refine⟨.bool (si j),_,hfin _ rfl,.one ?_⟩
   cases j with
   |none=>simp only[qxk]at hk;subst hk;exact stepR_round_end e3 hkind hend|some j=>cases j with
    |ret=>obtain⟨k',rfl⟩:=hk;exact stepR_round_ret e3 hkind hend
    |exit id=>obtain⟨_,k',rfl,hx⟩:=hk;exact stepR_round_exit e3 hkind hx hend
  ·cases h
end
section
variable{z2j:List (Nat×ag)}{s:St}{cx:Cx}{body:Code}{R:Type}{enc:RS R}
def jq.via{k k':List Item}{s':St}{r:R}(h:jq cx z2j enc k' s' r)(hs:∀z2m z2h G a w,ah z2m z2h z2j G s a w->∀(b:Frame)(cs:List Frame),b.fn=cx.f->b.kind = .normal->qb cx z2h z2j b ->
  ∃G' a' w',ah z2m z2h z2j G' s' a' w'/\Steps cx.P (lone (b.atR a k) cs w) (lone (b.atR a' k') cs w')):jq cx z2j enc k s r:=by
 intro z2m z2h G a w hr b cs hb hk hrd;obtain⟨G',a',w',h1,h2⟩:=hs z2m z2h G a w hr b cs hb hk hrd;exact(h z2m z2h G' a' w' h1 b cs hb hk hrd).head h2
def jq.one{k k':List Item}{r:R}(h:jq cx z2j enc k' s r)(hs:∀(a:Act)(w:World)(b:Frame)(cs:List Frame),step cx.P (lone (b.atR a k) cs w) = .next (lone (b.atR a k') cs w)):jq cx z2j enc k s r:=
 h.via fun _ _ G a w hr b cs _ _ _=>⟨G,a,w,hr,.one (hs a w b cs)⟩
def ql(cx:Cx)(z2j:List (Nat×ag)){R:Type}(enc:RS R)(body:Code)(l:fb R):Prop:=∀d r,l.F d=some r->jq cx z2j enc (d8 (mn body l.key)) (l.ls.st d) r
def qop{ids:NM}{s:St}{k:List dx}:∀{ls:List (fb R)}{l:fb R},yd ids s k ls=some l->l∈ls/\qat l.key k=true
 |[],_,h=>by cases h
 |x::xs,l,h=>by
  simp only[yd]at h;cases hb:qat x.key k<;>rw[hb]at h<;>simp only[qT,qF]at h
  ·obtain⟨h1,h2⟩:=qop h;exact⟨qE _ h1,h2⟩
  ·split at h
   ·simp only[qI]at h;subst h;exact⟨qH,hb⟩
   ·rename_i l' hl;split at h
    ·simp only[qI]at h;subst h;exact⟨qH,hb⟩
    ·simp only[qI]at h;subst h;obtain⟨h1,h2⟩:=qop hl;exact⟨qE _ h1,h2⟩
def q51{i:dx}{k:List dx}(h:∀x∈i::k,x.Ok body):i.Ok body/\∀x∈k,x.Ok body:=⟨h _ qH,fun x hx=>h x (qE _ hx)⟩
def la{i:dx}{k:List dx}(h:i.Ok body)(k':∀x∈k,x.Ok body):∀x∈i::k,x.Ok body:=fun x hx=>by
 rcases List.mem_cons.1 hx with rfl|hx
 ·exact h
 ·exact k' x hx
def zet{kd:Nat}{p:List Nat}{c:Code}(h:(dx.mk kd p (.code c)).Ok body):sub body p=c:=zzf h
def pz{p:List Nat}{c:Code}(i:Nat){x:Code}(h:sub body p=c)(hc:ll i c=x):(dx.mk 0 (i::p) (.code x)).Ok body:=by
 show Item.code x = .code (ll i (sub body p));rw[h,hc]
def zmk{p:List Nat}{id:Nat}{x:Code}(h:sub body p = .block id x):(dx.mk 1 p (.inBlock id)).Ok body:=by
 show Item.inBlock id=(match sub body p with | .block id _ => .inBlock id|c => .code c)
 rw[h]
def q8o{p:List Nat}{x:Code}(h:sub body p = .loop x):(dx.mk 2 p (.inLoop x)).Ok body:=by
 show Item.inLoop x=(match sub body p with | .loop x => .inLoop x|c => .code c)
 rw[h]
def zhq{P:Program}{b:Frame}{a:Act}{k:List Item}{cs:List Frame}{w:World}{x:Code}:step P (lone (b.atR a (.inScope x::k)) cs w) = .next (lone (b.atR a k) cs w):=
 step_lone_go (by simp[stepG,stepG.exec,Frame.atR])
def zqn{P:Program}{b:Frame}{a:Act}{k:List Item}{cs:List Frame}{w:World}{c:Code} :
  step P (lone (b.atR a (.code (.scope c)::k)) cs w) = .next (lone (b.atR a (.code c :: .inScope c::k)) cs w):=
 step_lone_go (by simp[stepG,stepG.exec,Frame.atR])
def zqe{p:List Nat}{x:Code}(h:sub body p = .scope x):(dx.mk 3 p (.inScope x)).Ok body:=by
 show Item.inScope x=(match sub body p with | .scope x => .inScope x|c => .code c)
 rw[h]
def qvh{id:Nat}:∀{k:List dx},ot id k=none->(∀i∈k,i.Ok body)->exitTo id (d8 k)=none
 |[],_,_=>rfl|⟨kd,p,it⟩::k,h,hk=>by
  simp only[ot]at h;have hk':=(q51 hk).2;split at h
  ·rename_i id';split at h
   ·cases h
   ·rename_i he;simp only[d8,exitTo];rw[qW he];exact qvh h hk'
  ·rename_i hne;have:=qvh h hk';simp only[d8];cases it<;>first
    |(exfalso;exact hne _ rfl)
    |(simp only[exitTo];exact this)
abbrev IH(cx:Cx)(z2j:List (Nat×ag)){R:Type}(enc:RS R)(body:Code)(labs:List (fb R))(n:Nat):Prop:=
 ∀(chk:Bool)(k:List dx)(s:St)(r:R),(∀i∈k,i.Ok body)->run cx enc labs n chk k s=some r->jq cx z2j enc (d8 k) s r
def xc(cx:Cx){R:Type}(enc:RS R)(labs:List (fb R))(n:Nat)(p:List Nat)(k':List dx)(s:St)(c:Code):Option R:=match c with
 |.skip=>run cx enc labs n true k' s|.label _=>run cx enc labs n true k' s|.seq x y=>run cx enc labs n true (⟨0,0::p,.code x⟩::⟨0,1::p,.code y⟩::k') s|.cond c x y=>match s.ev c with|some (.bool b)=>bif b then run cx enc labs n true (⟨0,0::p,.code x⟩::k') (s.know c true) else run cx enc labs n true (⟨0,1::p,.code y⟩::k') (s.know c false)|some (.val (.bool b))=>bif b then run cx enc labs n true (⟨0,0::p,.code x⟩::k') s else run cx enc labs n true (⟨0,1::p,.code y⟩::k') s|_=>none
 |.block id x=>run cx enc labs n true (⟨0,0::p,.code x⟩::⟨1,p,.inBlock id⟩::k') s|.loop x=>run cx enc labs n true (⟨0,0::p,.code x⟩::⟨2,p,.inLoop x⟩::k') s|.scope x=>run cx enc labs n true (⟨0,0::p,.code x⟩::⟨3,p,.inScope x⟩::k') s|.exit id=>match ot id k' with
  |some k''=>run cx enc labs n true k'' s|none=>match cx.rd with|some _=>nk cx enc (some (.exit id)) s|none=>none
 |.region _ ops d=>bif d then qpj cx.P cx.tb ops s (fun s'=>run cx enc labs n true k' s'.bump) else ya cx.P cx.tb ops ops.toList s (fun s'=>run cx enc labs n true k' s'.bump)
 |.ret=>nk cx enc (some .ret) s|.rangeFunc g ps _ _=>rfR cx p g ps.toList s fun j s'=>match j with
  |none=>run cx enc labs n true k' s'|some .ret=>nk cx enc (some .ret) s'|some (.exit id)=>match ot id k' with
   |some k''=>run cx enc labs n true k'' s'|none=>match cx.rd with|some _=>nk cx enc (some (.exit id)) s'|none=>none
 |_=>none
def zg7{labs:List (fb R)}{n:Nat}(ih:IH cx z2j enc body labs n){p:List Nat}{k':List dx}{c:Operand}{x y:Code}{r:R}(hsub:sub body p = .cond c x y)(hk':∀i∈k',i.Ok body)(h:xc cx enc labs n p k' s (.cond c x y)=some r):jq cx z2j enc (.code (.cond c x y)::d8 k') s r:=by
 unfold xc at h;simp only at h;split at h
 ·rename_i t ht;cases t<;>simp only[qT,qF]at h
  ·refine(ih true _ _ r (la (pz 1 hsub rfl) hk') h).via fun z2m z2h G a w hr b cs _ _ _ => ?_
   have he:a.eval c = .bool false:=bj hr ht;exact⟨G,a,w,hr.know he,.one (stepR_cond he)⟩
  ·refine(ih true _ _ r (la (pz 0 hsub rfl) hk') h).via fun z2m z2h G a w hr b cs _ _ _ => ?_
   have he:a.eval c = .bool true:=bj hr ht;exact⟨G,a,w,hr.know he,.one (stepR_cond he)⟩
 ·rename_i t ht;cases t<;>simp only[qT,qF]at h
  ·refine(ih true _ _ r (la (pz 1 hsub rfl) hk') h).via fun z2m z2h G a w hr b cs _ _ _ => ?_
   have he:a.eval c = .bool false:=bj hr ht;exact⟨G,a,w,hr,.one (stepR_cond he)⟩
  ·refine(ih true _ _ r (la (pz 0 hsub rfl) hk') h).via fun z2m z2h G a w hr b cs _ _ _ => ?_
   have he:a.eval c = .bool true:=bj hr ht;exact⟨G,a,w,hr,.one (stepR_cond he)⟩
 ·cases h
def zxo(ok:cx.Ok body){labs:List (fb R)}{n:Nat}(ih:IH cx z2j enc body labs n){p:List Nat}{k':List dx}{id:Nat}{ops:Array Oper}{d:Bool}{r:R}(hk':∀i∈k',i.Ok body)(h:xc cx enc labs n p k' s (.region id ops d)=some r):jq cx z2j enc (.code (.region id ops d)::d8 k') s r:=by
 unfold xc at h;simp only at h;cases d<;>simp only[qT,qF]at h
 ·intro z2m z2h G a w hr b cs hb hkd hrd;have hops:=q7s (P:=cx.P) (ops:=ops) ok.ents (N:=fun a' w'=>w6 cx.P b.roundOf cx.f (lone (b.atR a' (d8 k')) cs w') cs fun v w'=>∃G',Fin z2m z2h z2j G' (enc.res r).2 w'/\ai (enc.res r).1 G' v)
   (fun s' h' G' a' w' hr'=>ih true k' s'.bump r hk' h' z2m z2h G' a' w' hr'.bump b cs hb hkd hrd) ops.toList 0 s G a w (fun j hj=>by simp) h hr
  have e:List.range' 0 ops.toList.length=List.range ops.size:=by simp[List.range_eq_range']
  rw[e]at hops;obtain⟨a',w',h1,h2⟩:=zot (id:=id) hops b (d8 k') cs hkd;exact h1.head h2
 ·intro z2m z2h G a w hr b cs hb hkd hrd;obtain⟨a',w',h1,h2⟩:=zch (P:=cx.P) ok.ents ok.mixed h (N:=fun a' w'=>w6 cx.P b.roundOf cx.f (lone (b.atR a' (d8 k')) cs w') cs fun v w'=>∃G',Fin z2m z2h z2j G' (enc.res r).2 w'/\ai (enc.res r).1 G' v)
   (fun s' h' G' a' w' hr'=>ih true k' s'.bump r hk' h' z2m z2h G' a' w' hr'.bump b cs hb hkd hrd) hr id b (d8 k') cs hkd
  exact h1.head h2
def q65(ok:cx.Ok body)(hid:∀n bx,ae z2j n=some bx->aw cx.ids n=some n){labs:List (fb R)}{n:Nat}(ih:IH cx z2j enc body labs n){k':List dx}{id:Nat}{r:R}(hk':∀i∈k',i.Ok body)
  (h:(match ot id k' with
   |some k''=>run cx enc labs n true k'' s|none=>match cx.rd with
    |some _=>nk cx enc (some (.exit id)) s| none=>none)=some r):jq cx z2j enc (.code (.exit id)::d8 k') s r:=by
 split at h
 ·rename_i k'' hx;obtain⟨h1,h2⟩:=qyn hx;exact(ih true k'' s r (fun i hi=>hk' i (h2 i hi)) h).one fun a w b cs=>stepR_exit h1
 ·rename_i hx;split at h
  ·rename_i m hm;exact qj2 ok hid (j:=some (.exit id)) ⟨by rw[hm];simp,_,rfl,qvh hx hk'⟩ h
  ·cases h
def zp5(ok:cx.Ok body)(hid:∀n bx,ae z2j n=some bx->aw cx.ids n=some n){labs:List (fb R)}{n:Nat}(ih:IH cx z2j enc body labs n){p:List Nat}{k':List dx}{g:Operand}{ps:Array Tmp}{asn bo:Code}{r:R}(hsub:sub body p = .rangeFunc g ps asn bo)(hk':∀i∈k',i.Ok body)
  (h:xc cx enc labs n p k' s (.rangeFunc g ps asn bo)=some r):jq cx z2j enc (.code (.rangeFunc g ps asn bo)::d8 k') s r:=by
 unfold xc at h;simp only at h;intro z2m z2h G a w hr b cs hb hkd hrd;obtain⟨j,s',G',a',w',h1,h2,h3⟩:=z1t ok hr hsub h cs hb hkd hrd (d8 k');refine w6.head h3 ?_
 cases j with
 |none=>exact ih true k' s' r hk' h1 z2m z2h G' a' w' h2 b cs hb hkd hrd|some j=>cases j with|ret=>exact qj2 ok hid (j:=some .ret) (k := .code .ret::d8 k') ⟨_,rfl⟩ h1 z2m z2h G' a' w' h2 b cs hb hkd hrd|exit id=>exact q65 ok hid ih hk' h1 z2m z2h G' a' w' h2 b cs hb hkd hrd
def zg6(ok:cx.Ok body)(hid:∀n bx,ae z2j n=some bx->aw cx.ids n=some n){labs:List (fb R)}{n:Nat}(ih:IH cx z2j enc body labs n){kd:Nat}{p:List Nat}{k':List dx}{c:Code}{r:R}(hi:(dx.mk kd p (.code c)).Ok body)(hk':∀i∈k',i.Ok body)
  (h:xc cx enc labs n p k' s c=some r):jq cx z2j enc (.code c::d8 k') s r:=by
 have hsub:=zet hi
 cases c with
 |skip=>exact(ih true k' s r hk' h).one fun a w b cs=>stepR_skip
 |label l=>exact(ih true k' s r hk' h).one fun a w b cs=>stepR_label
 |seq x y=>exact(ih true _ s r (la (pz 0 hsub rfl) (la (pz 1 hsub rfl) hk')) h).one fun a w b cs=>stepR_seq
 |cond c x y=>exact zg7 ih hsub hk' h|block id x=>exact(ih true _ s r (la (pz 0 hsub rfl) (la (zmk hsub) hk')) h).one fun a w b cs=>stepR_block
 |loop x=>exact(ih true _ s r (la (pz 0 hsub rfl) (la (q8o hsub) hk')) h).one fun a w b cs=>stepR_loop
 |scope x=>exact(ih true _ s r (la (pz 0 hsub rfl) (la (zqe hsub) hk')) h).one fun a w b cs=>zqn
 |exit id=>exact q65 ok hid ih hk' h|region id ops d=>exact zxo ok ih hk' h|ret=>exact qj2 ok hid (j:=some .ret) ⟨_,rfl⟩ h|rangeFunc g ps asn bo=>exact zp5 ok hid ih hsub hk' h|_=>cases h
def z1c{labs:List (fb R)}{n:Nat}(ih:IH cx z2j enc body labs n){k':List dx}{r:R}(hk':∀i∈k',i.Ok body)
  (h:(match cx.rd with
   |some m=>match ae s.hp m with|some (.loop .ready pe f n' fr ps tag D)=>run cx enc labs n true k' { s with hp:=(m,.loop .busy pe f n' fr ps tag D)::s.hp }|_=>none
   | none=>none)=some r):jq cx z2j enc (.beginRound::d8 k') s r:=by
 split at h
 ·rename_i m hm;split at h
  ·rename_i pe f n' fr ps tag D hl;refine(ih true k' _ r hk' h).via fun z2m z2h G a w hr b cs _ _ hrd => ?_
   unfold qb at hrd;rw[hm]at hrd;simp only at hrd;obtain⟨B,bx0,e1,e2,e3⟩:=hrd;obtain⟨B',tmps,DB,i1,i2,⟨asn,bo,i3,i4⟩,i5,i6,i7⟩:=hr.fin.mem.holds _ _ hl;have:=hr.fin.keep m bx0 B e2 e1;rw[this]at i1;injection i1 with i1;subst i1
   have hbr:=run_beginRound (P:=cx.P) i4 rfl;exact⟨G,a,_,hr.setBox (bx' := .loop .busy pe f n' fr ps tag D) hl (show G.box m=some B from this)
    (fun c hc=>by have hc:G.box m=some c:=hc;rw[this]at hc;injection hc with hc;exact hc.symm)
    ⟨B,tmps,DB,this,i2,⟨asn,bo,i3,by rw[World.putObj_heap_same (Array.getElem?_eq_some_iff.1 i4).1]⟩,i5,i6,i7⟩ i7,.one (stepR_beginRound e3 hbr)⟩
  ·cases h
 ·cases h
def qsk(ok:cx.Ok body)(hid:∀n bx,ae z2j n=some bx->aw cx.ids n=some n){labs:List (fb R)}(hlab:∀l∈labs,ql cx z2j enc body l) :
  ∀(n:Nat)(chk:Bool)(k:List dx)(s:St)(r:R),(∀i∈k,i.Ok body)->run cx enc labs n chk k s=some r->jq cx z2j enc (d8 k) s r:=by
 intro n
 induction n with
 |zero=>intro chk k s r _ h;cases h
 |succ n ih=>
  intro chk k s r hk h;unfold run at h
  cases hl:(bif chk then yd cx.ids s k labs else none) with
  |some lab=>
   rw[hl]at h;have hl:yd cx.ids s k labs=some lab:=by cases chk<;>simp only[qT,qF,reduceCtorEq]at hl;exact hl
   obtain⟨hm,hkey⟩:=qop hl;simp only at h;split at h
   ·rename_i d hd;have hg:=hlab lab hm d r h;rw[q6v hkey hk]at hg;refine hg.via fun z2m z2h G a w hr b cs _ _ _ => ?_
    obtain⟨G1,hr1⟩:=hr.co lab.ls cx.ids;obtain⟨G2,hr2⟩:=hr1.fit hid hd;exact⟨G2,a,w,hr2,.refl _ _⟩
   ·cases h
  |none=>
   rw[hl]at h;simp only at h;clear hl
   cases k with
   |nil=>exact qj2 ok hid (by rfl) h|cons i k'=>
    obtain⟨kd,p,it⟩:=i;obtain⟨hi,hk'⟩:=q51 hk;clear hk
    cases it with
    |code c=>exact zg6 ok hid ih hi hk' h|inBlock id=>exact(ih true k' s r hk' h).one fun a w b cs=>stepR_inBlock
    |inScope id=>exact(ih true k' s r hk' h).one fun a w b cs=>zhq
    |inLoop x=>
     have hsub:sub body p = .loop x:=zu3 hi;exact(ih true _ s r (la (pz 0 hsub rfl) (la (q8o hsub) hk')) h).one fun a w b cs=>stepR_inLoop
    |beginRound=>exact z1c ih hk' h|_=>cases h
end
def St.reCell(s:St)(b off:Nat):St:=
 match ae s.hp b with
 |some (.cells cs T)=>match cs[off]? with
  |some (.own k)=>match ae s.hp k with|some (.row τ l E)=>bif ax s.nx s.hp then{ s with hp:=(b,.cells (cs.set off (.own s.nx)) T)::(s.nx,.row τ l E)::(k,.dead)::s.hp,nx:=s.nx+32 } else s|_=>s
  |_=>s
 |_=>s
def qhn:Pt->Bool|.own _=>true|_=>false
def reB1(b:Nat):List Pt->Nat->St->St|[],_,s=>s|p::ps,off,s=>reB1 b ps (off+1) (bif qhn p then s.reCell b off else s)
def reB:List (Nat×az)->St->St
 |[],s=>s|(n,p)::r,s=>match p with|.cells ps _=>reB r (reB1 n ps 0 s)|_=>reB r s
def St.reSlot(s:St)(i:Nat):St:=
 match ae s.fr i with
 |some (.own k)=>match ae s.hp k with|some (.row τ l E)=>bif ax s.nx s.hp&&Nat.blt i s.n then{ s with fr:=(i,.own s.nx)::s.fr,hp:=(s.nx,.row τ l E)::(k,.dead)::s.hp,nx:=s.nx+32 } else s|_=>s
 |_=>s
def reA:List Pt->Nat->St->St|[],_,s=>s|p::ps,i,s=>reA ps (i+1) (bif qhn p then s.reSlot i else s)
section
variable{z2m:World}{z2h:Gh}{z2j:List (Nat×ag)}{G:Gh}{s:St}{a:Act}{w:World}
def Fin.rename{hp:List (Nat×ag)}(hf:Fin z2m z2h z2j G hp w){k k':Nat}{τ:Ty}{l:List τ.den}{E:TypeId}{v:Option Addr×Nat×Nat}(hk:ae hp k=some (.row τ l E))(hk':ae hp k'=none)(hfr:G.own k'=none)(ho:G.own k=some v) :
  Fin z2m z2h z2j (G.addOwn k' v) ((k',.row τ l E)::(k,.dead)::hp) w:=by
 have hle:G.le (G.addOwn k' v):=Gh.addOwn_le hfr;have hlk:∀m b,ae ((k',ag.row τ l E)::(k,.dead)::hp) m=some b->(m=k'/\b = .row τ l E)\/b = .dead\/(m≠k/\ae hp m=some b):=fun m b h=>by
  simp only[ae]at h;cases hb:Nat.beq k' m
  ·rw[hb]at h;cases hb2:Nat.beq k m
   ·rw[hb2]at h;exact .inr (.inr ⟨fun e=>by subst e;simp at hb2,h⟩)
   ·rw[hb2]at h;simp only[qT,qF,qI]at h;exact .inr (.inl h.symm)
  ·rw[hb]at h;simp only[qT,qI]at h;exact .inl ⟨(qN hb).symm,h.symm⟩
 have hat:(G.addOwn k' v).at k' (.row τ l E)=G.at k (.row τ l E):=by simp only[Gh.at,Gh.addOwn_self,ho]
 refine⟨⟨hf.mem.agree,hf.mem.one,?_,?_,hf.mem.tab⟩,hf.bel,hf.imm_le,hf.imm_new,?_,fun n bx B h1 h2=>hle.box _ _ (hf.keep n bx B h1 h2),fun n bx B h1 h2=>hle.own _ _ (hf.keepOwn n bx B h1 h2)⟩
 ·intro m b h;rcases hlk m b h with⟨rfl,rfl⟩|rfl|⟨_,h⟩
  ·obtain⟨ad,c,i1,i2⟩:=hf.mem.holds k _ hk;rw[ho]at i1;injection i1 with i1;subst i1
   exact⟨ad,c,Gh.addOwn_self,i2⟩
  ·trivial
  ·exact(hf.mem.holds m b h).mono hle (fun _ _=>rfl) (fun _ _ _ h => .inl h)
 ·intro m m' b b' c h1 h2 h3 h4;rcases hlk m b h1 with⟨rfl,rfl⟩|rfl|⟨n1,g1⟩<;>rcases hlk m' b' h2 with⟨e2,rfl⟩|rfl|⟨n2,g2⟩
  ·exact e2.symm
  ·cases h4
  ·rw[hat]at h3;rw[(hf.mem.holds m' b' g2).at_le hle]at h4;exact absurd (hf.mem.apart m' k b' _ c g2 hk h4 h3) n2
  ·cases h3
  ·cases h3
  ·cases h3
  ·subst e2;rw[hat]at h4;rw[(hf.mem.holds m b g1).at_le hle]at h3;exact absurd (hf.mem.apart m k b _ c g1 hk h3 h4) n1
  ·cases h4
  ·rw[(hf.mem.holds m b g1).at_le hle]at h3;rw[(hf.mem.holds m' b' g2).at_le hle]at h4;exact hf.mem.apart m m' b b' c g1 g2 h3 h4
 ·intro m b c h1 h2;rcases hlk m b h1 with⟨rfl,rfl⟩|rfl|⟨n1,h1⟩
  ·rw[hat]at h2;exact hf.base k _ c hk h2
  ·cases h2
  ·rw[(hf.mem.holds m b h1).at_le hle]at h2;exact hf.base m b c h1 h2
def ah.reCell(hr:ah z2m z2h z2j G s a w)(b off:Nat):∃G',ah z2m z2h z2j G' (s.reCell b off) a w:=by
 unfold St.reCell;split
 ·rename_i cs T hb0;split
  ·rename_i k hx0;split
   ·rename_i τ l E hk0;cases hn:ax s.nx s.hp
    ·exact⟨G,hr⟩
    ·simp only[qT];have hk:=lw hn s.nx (wF _) (by omega)
     obtain⟨ad,c,i1,_⟩:=hr.fin.mem.holds k _ hk0;have hfresh:=hr.fresh s.nx (wF _) hk;have hle:G.le (G.addOwn s.nx (ad,l.length,c)):=Gh.addOwn_le hfresh.2;have hf:=hr.fin.rename hk0 hk hfresh.2 i1;have hne:s.nx≠b:=fun e=>by rw[e,hb0]at hk;cases hk
     have hne2:k≠b:=fun e=>by rw[e,hb0]at hk0;cases hk0
     have hb1:ae ((s.nx,ag.row τ l E)::(k,.dead)::s.hp) b=some (.cells cs T):=by
      simp only[ae];cases hq:Nat.beq s.nx b
      ·cases hq2:Nat.beq k b
       ·exact hb0
       ·exact absurd (qN hq2) hne2
      ·exact absurd (qN hq) hne
     obtain⟨B,vs,k1,k2,k3,k4,k5⟩:=hf.mem.holds _ _ hb1;have hv:vs.toList[off]? = some (.slice ad l.length c):=by
      obtain⟨v,h1,h2⟩:=jv k3 hx0;obtain⟨a',n',c',q1,q2⟩:=h2;rw[hle.own _ _ i1]at q1;simp only[qI,qP]at q1;obtain⟨rfl,rfl,rfl⟩:=q1;subst q2;exact h1
     have hset:vs.toList.set off (.slice ad l.length c)=vs.toList:=by
      obtain⟨hlt,he⟩:=List.getElem?_eq_some_iff.1 hv;rw[← he,List.set_getElem_self]
     refine⟨G.addOwn s.nx (ad,l.length,c),⟨by obtain⟨bs,q1,q2⟩:=hr.defers;exact⟨bs,q1,qo hle.box q2⟩,hr.size,fun j x hx=>by obtain⟨v,h1,h2⟩:=hr.frame j x hx;exact⟨v,h1,h2.le hle⟩,fun m hm hl => ?_,?_⟩⟩
     ·simp only at hm;have hmn:s.nx≠m:=by omega
      simp only[ae]at hl;cases hq:Nat.beq b m<;>rw[hq]at hl<;>simp only[qT,qF,reduceCtorEq]at hl
      cases hq1:Nat.beq s.nx m<;>rw[hq1]at hl<;>simp only[qT,qF,reduceCtorEq]at hl
      cases hq2:Nat.beq k m<;>rw[hq2]at hl<;>simp only[qT,qF,reduceCtorEq]at hl
      obtain⟨h1,h2⟩:=hr.fresh m (by omega) hl
      refine⟨h1,?_⟩;show(bif Nat.beq m s.nx then some _ else G.own m)=none
      cases hbm:Nat.beq m s.nx
      ·exact h2
      ·exact absurd (qN hbm).symm hmn
     ·refine hf.update (bx := .cells cs T) (bx' := .cells (cs.set off (.own s.nx)) T) hb1 (B:=B) k1 k1 ⟨rfl,rfl,rfl,wF _,fun _ _ _=>rfl⟩ ⟨B,vs,k1,k2,?_,k4,k5⟩ k5
      have:=qdm off k3 (x := .own s.nx) (v := .slice ad l.length c) ⟨ad,l.length,c,Gh.addOwn_self,rfl⟩
      rwa [hset]at this
   ·exact⟨G,hr⟩
  ·exact⟨G,hr⟩
 ·exact⟨G,hr⟩
def ah.reSlot(hr:ah z2m z2h z2j G s a w)(i:Nat):∃G',ah z2m z2h z2j G' (s.reSlot i) a w:=by
 unfold St.reSlot;split
 ·rename_i k hx0;split
  ·rename_i τ l E hk0;cases hn:ax s.nx s.hp&&Nat.blt i s.n
   ·exact⟨G,hr⟩
   ·simp only[qT];simp only[qA]at hn;have hk:=lw hn.1 s.nx (wF _) (by omega)
    obtain⟨ad,c,i1,_⟩:=hr.fin.mem.holds k _ hk0;have hfresh:=hr.fresh s.nx (wF _) hk;have hle:G.le (G.addOwn s.nx (ad,l.length,c)):=Gh.addOwn_le hfresh.2;refine⟨G.addOwn s.nx (ad,l.length,c),⟨by obtain⟨bs,q1,q2⟩:=hr.defers;exact⟨bs,q1,qo hle.box q2⟩,hr.size,fun j x hx => ?_,fun m hm hl => ?_,hr.fin.rename hk0 hk hfresh.2 i1⟩⟩
    ·simp only[ae]at hx;cases hq:Nat.beq i j
     ·rw[hq]at hx;obtain⟨v,h1,h2⟩:=hr.frame j x hx;exact⟨v,h1,h2.le hle⟩
     ·rw[hq]at hx;simp only[qT,qI]at hx;subst hx;have:=qN hq;subst this;obtain⟨v,h1,a',n',c',q1,q2⟩:=hr.frame i _ hx0;rw[i1]at q1;simp only[qI,qP]at q1;obtain⟨rfl,rfl,rfl⟩:=q1;exact⟨v,h1,ad,l.length,c,Gh.addOwn_self,q2⟩
    ·simp only at hm;have hmn:s.nx≠m:=by omega
     simp only[ae]at hl;cases hq1:Nat.beq s.nx m<;>rw[hq1]at hl<;>simp only[qT,qF,reduceCtorEq]at hl
     cases hq2:Nat.beq k m<;>rw[hq2]at hl<;>simp only[qT,qF,reduceCtorEq]at hl
     obtain⟨h1,h2⟩:=hr.fresh m (by omega) hl
     refine⟨h1,?_⟩;show(bif Nat.beq m s.nx then some _ else G.own m)=none
     cases hbm:Nat.beq m s.nx
     ·exact h2
     ·exact absurd (qN hbm).symm hmn
  ·exact⟨G,hr⟩
 ·exact⟨G,hr⟩
def ah.reA:∀{ps:List Pt}{i:Nat}{s:St}{G:Gh},ah z2m z2h z2j G s a w->∃G',ah z2m z2h z2j G' (reA ps i s) a w
 |[],_,s,G,hr=>⟨G,hr⟩|p::ps,i,s,G,hr=>by
  unfold Sym.reA;cases qhn p
  ·exact ah.reA hr
  ·obtain⟨G',hr'⟩:=hr.reSlot i;exact ah.reA hr'
def ah.reB1{b:Nat}:∀{ps:List Pt}{off:Nat}{s:St}{G:Gh},ah z2m z2h z2j G s a w->∃G',ah z2m z2h z2j G' (reB1 b ps off s) a w
 |[],_,s,G,hr=>⟨G,hr⟩|p::ps,off,s,G,hr=>by
  unfold Sym.reB1;cases qhn p
  ·exact ah.reB1 hr
  ·obtain⟨G',hr'⟩:=hr.reCell b off;exact ah.reB1 hr'
def ah.reB:∀{l:List (Nat×az)}{s:St}{G:Gh},ah z2m z2h z2j G s a w->∃G',ah z2m z2h z2j G' (reB l s) a w
 |[],s,G,hr=>⟨G,hr⟩|(n,p)::r,s,G,hr=>by
  unfold Sym.reB;split
  ·obtain⟨G',hr'⟩:=hr.reB1;exact ah.reB hr'
  ·exact ah.reB hr
end
def er:List (Nat×az)->NM|[]=>[]|(n,_)::r=>(n,n)::er r
def jp(N:NM)(n:Nat):Bool:=match ar N n with|some m=>Nat.beq m n|none=>false
def va{N:NM}{n:Nat}(h:jp N n=true):ar N n=some n:=by
 unfold jp at h;split at h
 ·rename_i m hm;have:=qN h;subst this;exact hm
 ·cases h
mutual
def qsm(N:NM):Pt->Bool|.agg ps=>qa N ps|.tup ps=>qa N ps|.ptr b _=>jp N b|.own k=>jp N k|.el k _=>jp N k|.iel _ k _=>jp N k|.yld k=>jp N k|.pn k=>jp N k|.fn _ ps=>qa N ps|_=>true
def qa(N:NM):List Pt->Bool|[]=>true|p::ps=>qsm N p&&qa N ps
end
def zek{ρ:Nat->Option Nat}:∀{τ:Ty}{d:τ.den},(τ.av d).ren ρ=τ.av d|.int _,_=>rfl|.byte,_=>rfl|.bool,_=>rfl|.str,_=>rfl|.unit,_=>rfl|.list _,_=>rfl|.prod a b,d=>by show AV.agg (AV.rens ρ ((Ty.prod a b).enc d))=_;rw[Ty.enc_ren];rfl|.tree a,d=>by show AV.agg (AV.rens ρ ((Ty.tree a).enc d))=_;rw[Ty.enc_ren];rfl
mutual
def q3e{N:NM}:∀{p:Pt}{d:p.den},qsm N p=true->(p.put d).ren (ar N)=p.put d|.h τ,d,_=>zek|.c _,_,_=>rfl|.agg ps,d,h=>congrArg AV.agg (wj (ps:=ps) (d:=d) h)|.tup ps,d,h=>congrArg AV.tup (wj (ps:=ps) (d:=d) h)|.ptr b off,_,h=>by show AV.ren (ar N) (.ptr b off)=_;simp only[AV.ren,va (show jp N b=true from h)];rfl|.own k,_,h=>by show AV.ren (ar N) (.own k)=_;simp only[AV.ren,va (show jp N k=true from h)];rfl|.arr _,_,_=>rfl|.el k sz,_,h=>by show AV.ren (ar N) (.oel k sz 0 0)=_;simp only[AV.ren,va (show jp N k=true from h)];rfl|.iel t k sz,_,h=>by show AV.ren (ar N) (.iface t (.oel k sz 0 0))=_;simp only[AV.ren,va (show jp N k=true from h)];rfl|.yld k,_,h=>by show AV.ren (ar N) (.yld k)=_;simp only[AV.ren,va (show jp N k=true from h)];rfl|.pn k,_,h=>by show AV.ren (ar N) (.pn k)=_;simp only[AV.ren,va (show jp N k=true from h)];rfl|.fn f ps,d,h=>congrArg (AV.fn (.func f) []) (wj (ps:=ps) (d:=d) h)|.u,_,_=>rfl
def wj{N:NM}:∀{ps:List Pt}{d:Pts.den ps},qa N ps=true->AV.rens (ar N) (Pts.put ps d)=Pts.put ps d
 |[],_,_=>rfl|p::ps,d,h=>by
  simp only[qa,qA]at h;have h1:=q3e (p:=p) (d:=d.1) h.1;have h2:=wj (ps:=ps) (d:=d.2) h.2;show AV.ren (ar N) (p.put d.1)::AV.rens (ar N) (Pts.put ps d.2)=p.put d.1::Pts.put ps d.2;rw[h1,h2]
end
def fIn(N:NM):List (Nat×Pt)->Bool|[]=>true|(_,p)::r=>qsm N p&&fIn N r
def q9z{N:NM}:∀{l:List (Nat×Pt)}{d:pa l},fIn N l=true->nr (ar N) (ko l d)=ko l d
 |[],_,_=>rfl|(i,p)::r,d,h=>by
  simp only[fIn,qA]at h;have h1:=q3e (p:=p) (d:=d.1) h.1;have h2:=q9z (l:=r) (d:=d.2) h.2;show(i,AV.ren (ar N) (p.put d.1))::nr (ar N) (ko r d.2)=(i,p.put d.1)::ko r d.2;rw[h1,h2]
def qo9(N:NM):az->Bool|.cells ps _=>qa N ps|.loop _ _ _ _ fr _ _ D=>jp N D&&fIn N fr|_=>true
def bIn(N:NM):List (Nat×az)->Bool|[]=>true|(n,p)::r=>jp N n&&qo9 N p&&bIn N r
def zds{N:NM}:∀{p:az}{d:p.den},qo9 N p=true->dt (ar N) (p.put d)=p.put d
 |.cells ps T,d,h=>congrArg (fun l=>ag.cells l T) (wj (ps:=ps) (d:=d) h)
 |.row _ _,_,_=>rfl|.loop st pe f n fr ps tag D,d,h=>by
  simp only[qo9,qA]at h;have h2:=q9z (l:=fr) (d:=d) h.2;have h3:dt (ar N) (.loop st pe f n (ko fr d) ps tag D) = .loop st pe f n (nr (ar N) (ko fr d)) ps tag D:=by simp only[dt,va h.1]
  exact h3.trans (congrArg (fun l=>ag.loop st pe f n l ps tag D) h2)
 |.dfr,_,_=>rfl|.it,_,_=>rfl|.dead,_,_=>rfl|.dat τ T,d,_=>congrArg (fun l=>ag.cells l T) (Ty.enc_ren (ar N) τ d)
def qpc{N:NM}:∀{l:List (Nat×az)}{d:fy l},bIn N l=true->∀n b,ae (cg l d) n=some b->ar N n=some n/\dt (ar N) b=b
 |[],_,_,_,_,h=>by cases h
 |(m,p)::r,d,h,n,b,hl=>by
  simp only[bIn,qA]at h;have hl:(bif Nat.beq m n then some (p.put d.1) else ae (cg r d.2) n)=some b:=hl
  cases hb:Nat.beq m n
  ·rw[hb]at hl;exact qpc (d:=d.2) h.2 n b hl
  ·rw[hb]at hl;have:=qN hb;subst this;simp only[qT,qI]at hl;subst hl;exact⟨va h.1.1,zds h.1.2⟩
def ci.only{G:Gh}{hp:List (Nat×ag)}{w:World}{N:NM}(hm:ci G hp w)(h:∀n b,ae hp n=some b->ar N n=some n/\dt (ar N) b=b):ci (G.view N) hp w:=by
 have hb:∀n b,ae hp n=some b->(G.view N).box n=G.box n/\(G.view N).own n=G.own n:=fun n b hl=>by
  have:=qm (h n b hl).1;exact⟨by simp[Gh.view,this],by simp[Gh.view,this]⟩
 have hat:∀n b c,ae hp n=some b->(G.view N).at n b=some c->G.at n b=some c:=fun n b c hl hc=>by
  have:=(h n b hl).2;exact qt (G:=G) (G':=G.view N) (ρ:=ar N) (hb n b hl).1 (hb n b hl).2 (by rw[this];exact hc)
 refine⟨hm.agree,hm.one,fun n b hl => ?_,fun n m b b' c h1 h2 h3 h4=>hm.apart n m b b' c h1 h2 (hat _ _ _ h1 h3) (hat _ _ _ h2 h4),hm.tab⟩
 have:=db.ren (G:=G) (G':=G.view N) (ρ:=ar N) (n:=n) (m:=n) (fun _ _ _ h=>h) (fun _ _ _ h=>h) (qd N) (rf N) (fun B hB=>by rw[(hb n b hl).1];exact hB) (fun B hB=>by rw[(hb n b hl).2];exact hB) (hm.holds n b hl)
 rw[(h n b hl).2]at this;exact this
def Fin.only{G G':Gh}{hp hp':List (Nat×ag)}{w w':World}{N:NM}(h:∀n b,ae hp n=some b->ar N n=some n/\dt (ar N) b=b)(hf:Fin w (G.view N) hp G' hp' w'):Fin w G hp G' hp' w':=by
 have hb:∀n b,ae hp n=some b->(G.view N).box n=G.box n/\(G.view N).own n=G.own n:=fun n b hl=>by
  have:=qm (h n b hl).1;exact⟨by simp[Gh.view,this],by simp[Gh.view,this]⟩
 have hblk:∀c,o6 (G.view N) hp c->o6 G hp c:=fun c⟨n,b,h1,h2⟩=>⟨n,b,h1,qt (G:=G) (G':=G.view N) (ρ:=ar N) (hb n b h1).1 (hb n b h1).2 (by rw[(h n b h1).2];exact h2)⟩
 refine⟨hf.mem,⟨hf.bel.os,hf.bel.tape,hf.bel.output,hf.bel.size,fun k hk hS=>hf.bel.block k hk fun hx=>hS (hblk k hx)⟩,hf.imm_le,fun b o v hv => ?_,fun n b c h1 h2 => ?_,fun n b B h1 h2=>hf.keep n b B h1 (by rw[(hb n b h1).1];exact h2),fun n b B h1 h2=>hf.keepOwn n b B h1 (by rw[(hb n b h1).2];exact h2)⟩
 ·rcases hf.imm_new b o v hv with h|h|h
  ·exact .inl h
  ·exact .inr (.inl h)
  ·exact .inr (.inr (hblk _ h))
 ·rcases hf.base n b c h1 h2 with h|h
  ·exact .inl h
  ·exact .inr (hblk _ h)
def qd0:List AV->Nat->List (Nat×AV)|[],_=>[]|x::xs,i=>(i,x)::qd0 xs (i+1)
def q6a:∀{xs:List AV}{G:Gh}{vs:List Value}(i:Nat),ak xs G vs->∀j x,ae (qd0 xs i) j=some x->i<=j/\∃v,vs[j-i]? = some v/\ai x G v
 |[],_,[],_,_,j,x,h=>by cases h
 |x::xs,G,v::vs,i,hr,j,y,h=>by
  simp only[qd0,ae]at h;cases hb:Nat.beq i j
  ·rw[hb]at h;obtain⟨h1,u,h2,h3⟩:=q6a (i+1) hr.2 j y h;refine⟨by omega,u,?_,h3⟩
   rw[show j-i=(j-(i+1))+1 by omega];simpa using h2
  ·rw[hb]at h;have:=qN hb;subst this;simp only[qT,qI]at h;subst h;exact⟨wF _,v,by simp,hr.1⟩
 |[],_,_::_,_,h,_,_,_=>h.elim|_::_,_,[],_,h,_,_,_=>h.elim
def zt{G:Gh}{w:World}{hp:List (Nat×ag)}(hm:ci G hp w):Fin w G hp G hp w:=
 ⟨hm,⟨rfl,rfl,rfl,wF _,fun _ _ _=>rfl⟩,fun _ _ _ h=>h,fun _ _ _ h => .inl h,fun n bx _b h1 h2 => .inr ⟨n,bx,h1,h2⟩,fun _ _ _ _ h=>h,fun _ _ _ _ h=>h⟩
def NX:Nat:=64
def qvm(cx:Cx)(body:Code){R:Type}(enc:RS R)(labs:List (fb R))(asn:List Pt)(pts:List (Nat×az))(xs:List AV)(hp:List (Nat×ag)):Option R:=
 run cx enc labs 1000000 true [⟨0,[],.code body⟩] (reB pts (reA (bif cx.tb.sub then asn else[]) 0 { n:=cx.fn.ntmps,fr:=qd0 xs 0,hp:=hp,nx:=NX,df:=[] }))
def qmn(cx:Cx)(args:List Pt)(hp:List (Nat×az)):Bool:=qa (er hp) args&&bIn (er hp) hp&&Nat.ble args.length cx.fn.ntmps
def qj6:∀{l:List (Nat×az)}{d:fy l}{n:Nat}{b:ag},ae (cg l d) n=some b->aw (er l) n=some n
 |[],_,_,_,h=>by cases h
 |(m,p)::r,d,n,b,h=>by
  have h:(bif Nat.beq m n then some (p.put d.1) else ae (cg r d.2) n)=some b:=h
  simp only[er,aw];cases hb:Nat.beq m n
  ·rw[hb]at h;exact qj6 (d:=d.2) h
  ·have:=qN hb;subst this;rfl
def qs3{m:Nat}:∀{l:List (Nat×az)}{d:fy l},ae (cg l d) m=none->aw (er l) m=none
 |[],_,_=>rfl|(n,p)::r,d,h=>by
  have h:(bif Nat.beq n m then some (p.put d.1) else ae (cg r d.2) m)=none:=h
  simp only[er,aw];cases hb:Nat.beq n m
  ·rw[hb]at h;exact qs3 (d:=d.2) h
  ·rw[hb]at h;cases h
def q4j:∀{ps:List Pt}{d:Pts.den ps},(Pts.put ps d).length=ps.length|[],_=>rfl|p::ps,d=>by show(p.put d.1::Pts.put ps d.2).length=_;simp[q4j]
def dy.sound_fn{e:dy}{cx:Cx}{body:Code}{labs:List (fb e.R)}(ok:cx.Ok body)(hkey:e.key = .fn cx.f)(hbody:cx.fn.body=some body)(hrd:cx.rd=none)(hids:cx.ids=er e.hp)(hpl:ry cx.P cx.f)
  (hfine:qmn cx e.args e.hp=true) (hlab:∀d',∀l∈labs,ql cx (cg e.hp d') e.out body l) (hF:∀d d',qvm cx body e.out labs e.args e.hp (Pts.put e.args d) (cg e.hp d')=e.F d d'):e.Sound cx.P:=by
 intro d d' r hr;rw[hkey];refine⟨hpl,fun w G vs hm hreps => ?_⟩
 simp only[qmn,qA]at hfine;obtain⟨⟨f1,f2⟩,f3⟩:=hfine;have f3:=Nat.le_of_ble_eq_true f3;have hin:=qpc (d:=d') f2;have hm':=hm.only hin;have hreps':ak (Pts.put e.args d) (G.view (er e.hp)) vs:=by
  have:=ak.ren (ρ:=ar (er e.hp)) (G:=G) (G':=G.view (er e.hp)) (fun _ _ _ h=>h) (qd _) (rf _) hreps
  rwa [wj f1]at this
 have hlv:=hreps.length;rw[q4j]at hlv;have hrun:=hF d d';rw[hr]at hrun;have hg:=qsk (enc:=e.out) ok (z2j:=cg e.hp d') (fun n bx h=>by rw[hids];exact qj6 h) (hlab d') _ _ _ _ _ (fun i hi=>by
  rcases List.mem_cons.1 hi with rfl|hi
  ·rfl
  ·cases hi) hrun
 have hr0:ah w (G.view (er e.hp)) (cg e.hp d') (G.view (er e.hp)) { n:=cx.fn.ntmps,fr:=qd0 (Pts.put e.args d) 0,hp:=cg e.hp d',nx:=NX,df:=[] } { tmps:=vs.toArray++Array.replicate (cx.fn.ntmps-vs.toArray.size) undef,defers:=[] } w:=by
  refine⟨⟨[],rfl,rfl⟩,by simp;omega,fun i x hx => ?_,fun m _ hl => ?_,zt hm'⟩
  ·obtain⟨_,v,h2,h3⟩:=q6a 0 hreps' i x hx;refine⟨v,?_,h3⟩;have hlt:i<vs.length:=by have:=(List.getElem?_eq_some_iff.1 h2).1;simpa using this
   rw[Array.getElem?_append_left (by simpa using hlt)]
   simpa using h2
  ·have:aw (er e.hp) m=none:=qs3 hl;simp[Gh.view,this]
 obtain⟨G0,hr0'⟩:=hr0.reA (ps:=bif cx.tb.sub then e.args else[]) (i:=0)
 obtain⟨G1,hr1⟩:=hr0'.reB (l:=e.hp);intro cs
 let b:Frame:={ (default:Frame) with fn:=cx.f,kind := .normal }
 have henter:Frame.enter cx.P cx.f vs.toArray .normal=b.atR { tmps:=vs.toArray++Array.replicate (cx.fn.ntmps-vs.toArray.size) undef,defers:=[] } [.code body]:=by
  simp[Frame.enter,Frame.atR,ok.func,hbody,b];rfl
 have:=hg w _ _ _ w hr1 b cs rfl rfl (by unfold qb;rw[hrd];rfl)
 obtain⟨v,w',fr,⟨G',h1,h2⟩,h3,h4,h5⟩:=this;exact⟨.returned v,w',fr,⟨v,G',rfl,h1.only hin,h2⟩,by rw[henter];exact h3,h4,h5⟩
def qcx:List Tmp->List AV->List (Nat×AV)->List (Nat×AV)|p::ps,x::xs,fr=>qcx ps xs ((p,x)::fr)|_,_,fr=>fr
def qe5(n:Nat):List Nat->Bool|[]=>true|p::ps=>Nat.blt p n&&qe5 n ps
def q8h{G:Gh}{n:Nat}:∀{ps:List Tmp}{xs:List AV}{vs:List Value}{fr:List (Nat×AV)}{tmps:Array Value},qe5 n ps=true->tmps.size=n->ps.length=xs.length->ak xs G vs->(∀i x,ae fr i=some x->∃v,tmps[i]? = some v/\ai x G v) ->
  ((ps.zip vs).foldl (fun(tmps:Array Value)(q:Tmp×Value)=>tmps.setIfInBounds q.1 q.2) tmps).size=n/\∀i x,ae (qcx ps xs fr) i=some x->∃v,((ps.zip vs).foldl (fun(tmps:Array Value)(q:Tmp×Value)=>tmps.setIfInBounds q.1 q.2) tmps)[i]? = some v/\ai x G v
 |[],[],[],fr,tmps,_,hn,_,_,hfr=>⟨hn,hfr⟩|p::ps,x::xs,v::vs,fr,tmps,hlt,hn,hl,hr,hfr=>by
  simp only[qe5,qA]at hlt;have hp:p<n:=by have:=hlt.1;simpa using this
  simp only[List.zip_cons_cons,List.foldl_cons,qcx];refine q8h hlt.2 (by simp[hn]) (by simpa using hl) hr.2 (fun i y hy => ?_)
  simp only[ae]at hy;cases he:Nat.beq p i
  ·rw[he]at hy;simp only[qF]at hy;have hne:p≠i:=fun e=>by subst e;simp at he
   obtain⟨u,h1,h2⟩:=hfr i y hy;exact⟨u,by simp[hne,h1],h2⟩
  ·rw[he]at hy;simp only[qT,qI]at hy;subst hy;have:=qN he;subst this;exact⟨v,by simp[hn,hp],hr.1⟩
 |[],_::_,_,_,_,_,_,h,_,_=>by simp at h|_::_,[],_,_,_,_,_,h,_,_=>by simp at h|[],[],_::_,_,_,_,_,_,h,_=>h.elim|_::_,_::_,[],_,_,_,_,_,h,_=>h.elim
def ww(cx:Cx)(body:Code)(p:List Nat)(m:Nat){R:Type}(enc:RS R)(labs:List (fb R))(pts:List (Nat×az))(xs:List AV)(hp:List (Nat×ag)):Option R:=
 match ae hp m with
 |some (.loop .ready none f n fr ps tag _)=>bif Nat.beq f cx.f&&qe5 n ps&&eqLen ps xs&&tagIs tag p cx.tags then
   run cx enc labs 1000000 true (mn body [(0,0::p),(4,[]),(0,1::p)]) (reB pts { n:=n,fr:=qcx ps xs fr,hp:=hp,nx:=NX,df:=[] })
  else none
 |_=>none
where
 eqLen:List Tmp->List AV->Bool
  |[],[]=>true|_::ps,_::xs=>eqLen ps xs|_,_=>false
 tagIs (tag:Nat) (p:List Nat) (tags:List (List Nat×Nat)):Bool:=match qk p tags with|some t=>Nat.beq t tag|none=>false
def q13:∀{ps:List Tmp}{xs:List AV},ww.eqLen ps xs=true->ps.length=xs.length
 |[],[],_=>rfl|_::ps,_::xs,h=>by simp[q13 (ps:=ps) (xs:=xs) h]|[],_::_,h=>by cases h
 |_::_,[],h=>by cases h
def zaq:Code->Bool|.rangeFunc _ _ _ _=>true|_=>false
def dy.sound_yld{e:dy}{cx:Cx}{body:Code}{p:List Nat}{m:Nat}{labs:List (fb e.R)}(ok:cx.Ok body)(hkey:e.key = .yld m)(hrd:cx.rd=some m)(hids:cx.ids=er e.hp)(hrf:zaq (sub body p)=true)
  (hfine:(qa (er e.hp) e.args&&bIn (er e.hp) e.hp)=true) (hlab:∀d',∀l∈labs,ql cx (cg e.hp d') e.out body l) (hF:∀d d',ww cx body p m e.out labs e.hp (Pts.put e.args d) (cg e.hp d')=e.F d d'):e.Sound cx.P:=by
 intro d d' r hr;rw[hkey];intro w G vs B hm hreps hB;simp only[qA]at hfine;obtain⟨f1,f2⟩:=hfine;have hin:=qpc (d:=d') f2;have hm':=hm.only hin;have hreps':ak (Pts.put e.args d) (G.view (er e.hp)) vs:=by
  have:=ak.ren (ρ:=ar (er e.hp)) (G:=G) (G':=G.view (er e.hp)) (fun _ _ _ h=>h) (qd _) (rf _) hreps
  rwa [wj f1]at this
 have hrun:=hF d d';rw[hr]at hrun;unfold ww at hrun;split at hrun
 ·rename_i f n fr ps tag D hl;cases hb:Nat.beq f cx.f&&qe5 n ps&&ww.eqLen ps (Pts.put e.args d)&&ww.tagIs tag p cx.tags<;>rw[hb]at hrun<;>simp only[qT,qF,reduceCtorEq]at hrun
  simp only[qA]at hb;obtain⟨⟨⟨b1,b2⟩,b3⟩,b4⟩:=hb;have b1:=qN b1;subst b1;have b3:=q13 b3;unfold ww.tagIs at b4;split at b4
  rotate_left
  ·cases b4
  rename_i t ht;have b4:=qN b4;subst b4;obtain⟨B',tmps,DB,i1,i2,⟨asn,bo,i3,i4⟩,i5,i6,i7⟩:=hm'.holds m _ hl;have hBv:(G.view (er e.hp)).box m=some B:=by
   have:=qm (hin m _ hl).1;simp[Gh.view,this,hB]
  rw[hBv]at i1;injection i1 with i1;subst i1
  obtain⟨g,ps0,x,y,hs⟩:∃g ps x y,sub body p = .rangeFunc g ps x y:=by
   cases hc:sub body p<;>rw[hc]at hrf<;>first|exact⟨_,_,_,_,rfl⟩|cases hrf
  have hcode:=ok.tags p t ht g ps0 x y hs;rw[i3]at hcode;simp only[qI,qP]at hcode;obtain⟨rfl,rfl⟩:=hcode;have hg:=qsk (enc:=e.out) ok (z2j:=cg e.hp d') (fun n bx h=>by rw[hids];exact qj6 h) (hlab d') _ _ _ _ _ qtz hrun
  have hlv:=hreps.length;obtain⟨j1,j2⟩:=q8h (n:=n) b2 i5 b3 hreps' i6;have hr0:ah w (G.view (er e.hp)) (cg e.hp d') (G.view (er e.hp)) { n:=n,fr:=qcx ps (Pts.put e.args d) fr,hp:=cg e.hp d',nx:=NX,df:=[] } { tmps:=(ps.zip vs).foldl (fun(tmps:Array Value)(q:Tmp×Value)=>tmps.setIfInBounds q.1 q.2) tmps,defers:=[] } w:=
   ⟨⟨[],rfl,rfl⟩,j1,j2,fun k _ hk=>by simp[Gh.view,qs3 hk],zt hm'⟩
  obtain⟨G1,hr1⟩:=hr0.reB (l:=e.hp);refine⟨_,i4,fun c cs=>⟨by simp;omega,?_⟩⟩
  let b:Frame:={ (default:Frame) with fn:=cx.f,kind := .normal,roundOf:=some B }
  have:=hg w _ _ _ w hr1 b (c::cs) rfl rfl (by unfold qb;rw[hrd];exact⟨B,_,hBv,hl,rfl⟩)
  obtain⟨v,w',⟨G',h1,h2⟩,h3⟩:=this c cs rfl;refine⟨v,w',⟨v,G',rfl,h1.only hin,h2⟩,?_⟩;have e1:Frame.round B cx.f ((ps.toArray.zip vs.toArray).foldl (fun tmps(t,a)=>tmps.setIfInBounds t a) tmps) asn bo .normal=b.atR { tmps:=(ps.zip vs).foldl (fun(tmps:Array Value)(q:Tmp×Value)=>tmps.setIfInBounds q.1 q.2) tmps,defers:=[] } (d8 (mn body [(0,0::p),(4,[]),(0,1::p)])):=by
   simp[Frame.round,Frame.atR,b,d8,mn,ug,sub,hs,ll,List.zip_toArray]
  simp only at e1 ⊢;rw[e1];exact h3
 ·cases hrun
def ql.of_run{cx:Cx}{body:Code}{z2j:List (Nat×ag)}{R:Type}{enc:RS R}{labs:List (fb R)}(ok:cx.Ok body)(hid:∀n bx,ae z2j n=some bx->aw cx.ids n=some n)(hlab:∀l∈labs,ql cx z2j enc body l){l:fb R}
  (h:∀d,run cx enc labs 1000000 false (mn body l.key) (l.ls.st d)=l.F d):ql cx z2j enc body l:=fun d r hr=>by
 have:=h d;rw[hr]at this;exact qsk ok hid hlab _ _ _ _ _ qtz this
end Go.Sym
namespace Go.Sym
open Go.RowKit
def qf(f:Func):Code:=match f.body with|some c=>c|none => .skip
def af(n:Int):Int:=IntKind.i64.wrap n
section
variable[LC]{cx:Cx}{z2j:List (Nat×ag)}{R:Type}{enc:RS R}{body:Code}{P:Program}
def am:∀p t,qk p []=some t->∀g ps x y,sub body p = .rangeFunc g ps x y->LC.lc t=some (x,y):=fun _ _ h=>by cases h
def ub{p:List Nat}{t:Nat}{tags:List (List Nat×Nat)}(h:LC.lc t=some (ll 0 (sub body p),ll 1 (sub body p)))(k:∀p t,qk p tags=some t->∀g ps x y,sub body p = .rangeFunc g ps x y->LC.lc t=some (x,y)) :
  ∀q u,qk q ((p,t)::tags)=some u->∀g ps x y,sub body q = .rangeFunc g ps x y->LC.lc u=some (x,y):=fun q u hq g ps x y hs=>by
 simp only[qk]at hq;cases hb:ol p q
 ·rw[hb]at hq;exact k q u hq g ps x y hs
 ·rw[hb]at hq;simp only[qT,qI]at hq;subst hq;have:=qif hb;subst this;rw[h,hs];rfl
end
abbrev Bs:Type:=List UInt8
def q86:Nat->Nat->List Nat|0,_=>[]|f+1,n=>bif Nat.ble n 1 then[] else Nat.mod n 2::q86 f (Nat.div n 2)
def ao:List (Nat×Nat)->yt|[]=>[]|(k,n)::r=>(k,q86 200 n)::ao r
mutual
def Pt.ts:Pt->List Type->List Type|.h τ,a=>τ.den::a|.agg ps,a=>Pts.ts ps a|.tup ps,a=>Pts.ts ps a|.fn _ ps,a=>Pts.ts ps a|.arr τ,a=>List τ.den::a|_,a=>a
def Pts.ts:List Pt->List Type->List Type|[],a=>a|p::ps,a=>p.ts (Pts.ts ps a)
end
def HL:List Type->Type|[]=>Unit|t::l=>t×HL l
abbrev pg:HL []:=()
mutual
def Pt.pk:(p:Pt)->{a:List Type}->p.den->HL a->HL (p.ts a)|.h _,_,d,x=>(d,x)|.agg ps,_,d,x=>Pts.pk ps d x|.tup ps,_,d,x=>Pts.pk ps d x|.fn _ ps,_,d,x=>Pts.pk ps d x|.arr _,_,d,x=>(d,x)|.c _,_,_,x=>x|.ptr _ _,_,_,x=>x|.own _,_,_,x=>x|.el _ _,_,_,x=>x|.iel _ _ _,_,_,x=>x|.yld _,_,_,x=>x|.pn _,_,_,x=>x|.u,_,_,x=>x
def Pts.pk:(ps:List Pt)->{a:List Type}->Pts.den ps->HL a->HL (Pts.ts ps a)|[],_,_,x=>x|p::ps,_,d,x=>p.pk d.1 (Pts.pk ps d.2 x)
end
mutual
def Pt.un:(p:Pt)->{a:List Type}->HL (p.ts a)->p.den×HL a|.h _,_,x=>x|.agg ps,_,x=>Pts.un ps x|.tup ps,_,x=>Pts.un ps x|.fn _ ps,_,x=>Pts.un ps x|.arr _,_,x=>x|.c _,_,x=>((),x)|.ptr _ _,_,x=>((),x)|.own _,_,x=>((),x)|.el _ _,_,x=>((),x)|.iel _ _ _,_,x=>((),x)|.yld _,_,x=>((),x)|.pn _,_,x=>((),x)|.u,_,x=>((),x)
def Pts.un:(ps:List Pt)->{a:List Type}->HL (Pts.ts ps a)->Pts.den ps×HL a|[],_,x=>((),x)|p::ps,_,x=>(((p.un x).1,(Pts.un ps (p.un x).2).1),(Pts.un ps (p.un x).2).2)
end
mutual
def Pt.un_pk:∀(p:Pt){a:List Type}(d:p.den)(x:HL a),p.un (p.pk d x)=(d,x)|.h _,_,_,_=>rfl|.agg ps,_,d,x=>Pts.un_pk ps d x|.tup ps,_,d,x=>Pts.un_pk ps d x|.fn _ ps,_,d,x=>Pts.un_pk ps d x|.arr _,_,_,_=>rfl|.c _,_,_,_=>rfl|.ptr _ _,_,_,_=>rfl|.own _,_,_,_=>rfl|.el _ _,_,_,_=>rfl|.iel _ _ _,_,_,_=>rfl|.yld _,_,_,_=>rfl|.pn _,_,_,_=>rfl|.u,_,_,_=>rfl
def Pts.un_pk:∀(ps:List Pt){a:List Type}(d:Pts.den ps)(x:HL a),Pts.un ps (Pts.pk ps d x)=(d,x)
 |[],_,_,_=>rfl|p::ps,_,d,x=>by
  show(((p.un (p.pk d.1 (Pts.pk ps d.2 x))).1,(Pts.un ps (p.un (p.pk d.1 (Pts.pk ps d.2 x))).2).1),(Pts.un ps (p.un (p.pk d.1 (Pts.pk ps d.2 x))).2).2)=(d,x);rw[Pt.un_pk p,Pts.un_pk ps];rfl
end
def fts:List (Nat×Pt)->List Type->List Type|[],a=>a|(_,p)::r,a=>p.ts (fts r a)
def l5:(l:List (Nat×Pt))->{a:List Type}->pa l->HL a->HL (fts l a)|[],_,_,x=>x|(_,p)::r,_,d,x=>p.pk d.1 (l5 r d.2 x)
def zz:(l:List (Nat×Pt))->{a:List Type}->HL (fts l a)->pa l×HL a|[],_,x=>((),x)|(_,p)::r,_,x=>(((p.un x).1,(zz r (p.un x).2).1),(zz r (p.un x).2).2)
def q9h:∀(l:List (Nat×Pt)){a:List Type}(d:pa l)(x:HL a),zz l (l5 l d x)=(d,x)
 |[],_,_,_=>rfl|(_,p)::r,_,d,x=>by
  show(((p.un (p.pk d.1 (l5 r d.2 x))).1,(zz r (p.un (p.pk d.1 (l5 r d.2 x))).2).1),(zz r (p.un (p.pk d.1 (l5 r d.2 x))).2).2)=(d,x);rw[Pt.un_pk p,q9h r];rfl
def az.ts:az->List Type->List Type|.cells ps _,a=>Pts.ts ps a|.row τ _,a=>List τ.den::a|.loop _ _ _ _ fr _ _ _,a=>fts fr a|.dfr,a=>a|.it,a=>List UInt8::Nat::a|.dead,a=>a|.dat τ _,a=>τ.den::a
def az.pk:(p:az)->{a:List Type}->p.den->HL a->HL (p.ts a)|.cells ps _,_,d,x=>Pts.pk ps d x|.row _ _,_,d,x=>(d,x)|.loop _ _ _ _ fr _ _ _,_,d,x=>l5 fr d x|.dfr,_,_,x=>x|.it,_,d,x=>(d.1,(d.2,x))|.dead,_,_,x=>x|.dat _ _,_,d,x=>(d,x)
def az.un:(p:az)->{a:List Type}->HL (p.ts a)->p.den×HL a|.cells ps _,_,x=>Pts.un ps x|.row _ _,_,x=>x|.loop _ _ _ _ fr _ _ _,_,x=>zz fr x|.dfr,_,x=>((),x)|.it,_,x=>((x.1,x.2.1),x.2.2)|.dead,_,x=>((),x)|.dat _ _,_,x=>x
def az.un_pk:∀(p:az){a:List Type}(d:p.den)(x:HL a),p.un (p.pk d x)=(d,x)|.cells ps _,_,d,x=>Pts.un_pk ps d x|.row _ _,_,_,_=>rfl|.loop _ _ _ _ fr _ _ _,_,d,x=>q9h fr d x|.dfr,_,_,_=>rfl|.it,_,_,_=>rfl|.dead,_,_,_=>rfl|.dat _ _,_,_,_=>rfl
def zx:List (Nat×az)->List Type->List Type|[],a=>a|(_,p)::r,a=>p.ts (zx r a)
def g9:(l:List (Nat×az))->{a:List Type}->fy l->HL a->HL (zx l a)|[],_,_,x=>x|(_,p)::r,_,d,x=>p.pk d.1 (g9 r d.2 x)
def v8:(l:List (Nat×az))->{a:List Type}->HL (zx l a)->fy l×HL a|[],_,x=>((),x)|(_,p)::r,_,x=>(((p.un x).1,(v8 r (p.un x).2).1),(v8 r (p.un x).2).2)
def q2q:∀(l:List (Nat×az)){a:List Type}(d:fy l)(x:HL a),v8 l (g9 l d x)=(d,x)
 |[],_,_,_=>rfl|(_,p)::r,_,d,x=>by
  show(((p.un (p.pk d.1 (g9 r d.2 x))).1,(v8 r (p.un (p.pk d.1 (g9 r d.2 x))).2).1),(v8 r (p.un (p.pk d.1 (g9 r d.2 x))).2).2)=(d,x);rw[az.un_pk p,q2q r];rfl
abbrev Cur:List Type->Type->Type|[],R=>R|t::l,R=>t->Cur l R
def app{R:Type}:{l:List Type}->Cur l R->HL l->R|[],f,_=>f|_::_,f,x=>app (f x.1) x.2
abbrev Nc:List Type->Type|[]=>Unit|[t]=>t|t::u::l=>t×Nc (u::l)
def Nc.fro:(l:List Type)->HL l->Nc l|[],_=>()|[_],x=>x.1|_::u::l,x=>(x.1,Nc.fro (u::l) x.2)
def Nc.to:(l:List Type)->Nc l->HL l|[],_=>()|[_],x=>(x,())|_::u::l,x=>(x.1,Nc.to (u::l) x.2)
def Nc.to_fro:∀(l:List Type)(x:HL l),Nc.to l (Nc.fro l x)=x
 |[],_=>rfl|[_],_=>rfl|_::u::l,x=>by
  show(x.1,Nc.to (u::l) (Nc.fro (u::l) x.2))=x;rw[Nc.to_fro];rfl
def RS.mk(p:Pt)(hp:List (Nat×az)):RS (Nc (p.ts (zx hp []))):=
 .one p hp (fun x=>((p.un (Nc.to _ x)).1,(v8 hp (p.un (Nc.to _ x)).2).1)) (fun y=>Nc.fro _ (p.pk y.1 (g9 hp y.2 pg))) fun y=>by
  obtain⟨d,d'⟩:=y;show((p.un (Nc.to _ (Nc.fro _ (p.pk d (g9 hp d' pg))))).1,(v8 hp (p.un (Nc.to _ (Nc.fro _ (p.pk d (g9 hp d' pg))))).2).1)=(d,d');rw[Nc.to_fro,Pt.un_pk,q2q]
structure IF:Type 1 where
 key:wg
 args:List Pt
 hp:List (Nat×az)
 R:Type
 out:RS R
abbrev IF.T(i:IF):Type:=Cur (Pts.ts i.args (zx i.hp [])) (Option i.R)
def IF.e(i:IF)(r:i.T):dy:=⟨i.key,i.args,i.hp,i.R,fun d d'=>app r (Pts.pk i.args d (g9 i.hp d' pg)),i.out⟩
abbrev KL:Type:=yt×LS
abbrev KL.T(l:KL)(R:Type):Type:=Cur (fts l.2.fr (zx l.2.hp [])) (Option R)
def KL.lab{R:Type}(l:KL)(r:l.T R):fb R:=⟨l.1,l.2,fun d=>app r (l5 l.2.fr d.1 (g9 l.2.hp d.2 pg))⟩
def kl:Nat->List KL->KL|_,[]=>([],⟨0,[],[],0,[]⟩)|0,l::_=>l|n+1,_::r=>kl n r
def qvs:wg->Option Nat|.yld m=>some m|_=>none
section
variable[LC]{P:Program}{i:IF}
structure EP(P:Program):Type 1 where
 e:dy
 h:e.Sound P
structure EI(P:Program)(i:IF) where
 f:i.T
 h:(i.e f).Sound P
def EI.p(s:EI P i):EP P:=⟨i.e s.f,s.h⟩
def EP.es{P:Program}:List (EP P)->List dy|[]=>[]|x::l=>x.e::EP.es l
def EP.es_ok{P:Program}:∀{l:List (EP P)},∀e∈EP.es l,e.Sound P
 |[],_,h=>by cases h
 |x::_,e,h=>by
  rcases List.mem_cons.1 h with rfl|h
  ·exact x.h
  ·exact EP.es_ok e h
structure Fx(P:Program)(i:IF):Type 1 where
 etys:List (Nat×Ty)
 hm:P.follows .mixedOrders=true
 fn:Func
 f:FuncId
 hf:P.funcs[f]? = some fn
 calls:List (EP P)
 sub:Bool
 tags:List (List Nat×Nat)
 ht:∀p t,qk p tags=some t->∀g ps x y,Sym.sub (qf fn) p = .rangeFunc g ps x y->LC.lc t=some (x,y)
 ls:List KL
def Fx.body(x:Fx P i):Code:=qf x.fn
def Fx.cx(x:Fx P i):Cx:={ P,tb:=⟨EP.es x.calls,x.etys,x.sub⟩,fn:=x.fn,f:=x.f,ids:=er i.hp,rd:=qvs i.key,tags:=x.tags }
def Fx.ok(x:Fx P i):x.cx.Ok x.body:=⟨EP.es_ok,x.hm,x.hf,x.ht⟩
structure PL(x:Fx P i)(k:Nat) where
 f:(kl k x.ls).T i.R
 h:∀d',ql x.cx (cg i.hp d') i.out x.body ((kl k x.ls).lab f)
abbrev Fx.L(x:Fx P i)(k:Nat):=PL x k
structure SL(x:Fx P i) where
 q:fb i.R
 h:∀d',ql x.cx (cg i.hp d') i.out x.body q
def PL.s{x:Fx P i}{k:Nat}(p:PL x k):SL x:=⟨(kl k x.ls).lab p.f,p.h⟩
def SL.qs{x:Fx P i}:List (SL x)->List (fb i.R)|[]=>[]|s::l=>s.q::SL.qs l
def SL.qs_ok{x:Fx P i}{d':fy i.hp}:∀{l:List (SL x)},∀q∈SL.qs l,ql x.cx (cg i.hp d') i.out x.body q
 |[],_,h=>by cases h
 |s::_,q,h=>by
  rcases List.mem_cons.1 h with rfl|h
  ·exact s.h d'
  ·exact SL.qs_ok q h
def Fx.jn{x:Fx P i}{k:Nat}(f:(kl k x.ls).T i.R)(l:List (SL x))
  (h:∀d,run x.cx i.out (SL.qs l) 1000000 false (mn x.body (kl k x.ls).1) ((kl k x.ls).2.st d)=app f (l5 (kl k x.ls).2.fr d.1 (g9 (kl k x.ls).2.hp d.2 ()))):PL x k:=
 ⟨f,fun _=>ql.of_run x.ok (fun _ _ h=>qj6 h) (SL.qs_ok) h⟩
def Fx.lp{x:Fx P i}{k:Nat}(g:Nat->(kl k x.ls).T i.R)(b:(kl k x.ls).T i.R->(kl k x.ls).T i.R)(h0:∀d:(kl k x.ls).2.den,app (g 0) (l5 (kl k x.ls).2.fr d.1 (g9 (kl k x.ls).2.hp d.2 ()))=none)(hg:∀n,g (n+1)=b (g n))(l:PL x k->List (SL x))
  (h:∀r d,run x.cx i.out (SL.qs (l r)) 1000000 false (mn x.body (kl k x.ls).1) ((kl k x.ls).2.st d)=app (b r.f) (l5 (kl k x.ls).2.fr d.1 (g9 (kl k x.ls).2.hp d.2 ()))) (n:Nat):PL x k:=
 ⟨g n,by
  induction n with
  |zero=>intro d' d r hr;have:=h0 d;rw[show((kl k x.ls).lab (g 0)).F d=none from this]at hr;cases hr
  | succ n ih=>rw[hg];exact(Fx.jn (b (g n)) (l ⟨g n,ih⟩) (h ⟨g n,ih⟩)).h⟩
def Fx.fin(x:Fx P i)(f:i.T)(l:List (SL x))(hp:ry P x.f)(hk:i.key = .fn x.f)(hb:x.fn.body=some x.body)(hfine:qmn x.cx i.args i.hp=true)
  (h:∀d d',qvm x.cx x.body i.out (SL.qs l) i.args i.hp (Pts.put i.args d) (cg i.hp d')=app f (Pts.pk i.args d (g9 i.hp d' pg))):EI P i:=
 ⟨f,dy.sound_fn (e:=i.e f) (cx:=x.cx) (labs:=SL.qs l) x.ok hk hb (show qvs i.key=none by rw[hk];rfl) rfl hp hfine (fun _=>SL.qs_ok) h⟩
def Fx.fiy(x:Fx P i)(f:i.T)(l:List (SL x))(m:Nat)(hk:i.key = .yld m)(p:List Nat)(hb:zaq (Sym.sub x.body p)=true)(hfine:(qa (er i.hp) i.args&&bIn (er i.hp) i.hp)=true)
  (h:∀d d',ww x.cx x.body p m i.out (SL.qs l) i.hp (Pts.put i.args d) (cg i.hp d')=app f (Pts.pk i.args d (g9 i.hp d' pg))):EI P i:=
 ⟨f,dy.sound_yld (e:=i.e f) (cx:=x.cx) (labs:=SL.qs l) (p:=p) (m:=m) x.ok hk (show qvs i.key=some m by rw[hk];rfl) rfl hb hfine (fun _=>SL.qs_ok) h⟩
def EI.rc(g:Nat->i.T)(b:i.T->i.T)(h0:∀d d',app (g 0) (Pts.pk i.args d (g9 i.hp d' pg))=none)(hg:∀n,g (n+1)=b (g n))(s:EI P i->EI P i)(hs:∀r,(s r).f=b r.f)(n:Nat):EI P i:=
 ⟨g n,by
  induction n with
  |zero=>intro d d' r hr;have:=h0 d d';rw[show(i.e (g 0)).F d d'=none from this]at hr;cases hr
  | succ n ih=>rw[hg,← hs ⟨g n,ih⟩];exact(s ⟨g n,ih⟩).h⟩
end
end Go.Sym
namespace Go.Sym
def oe(n:Int):Option Bs:=bif decide (-9223372036854775808<=n/\n<=9223372036854775807) then some (Lib.itoa n) else none
def oo(s sep:Bs):Option Int:=bif decide (2<=List.length sep/\List.length s<4294967281/\List.length sep<=maxLen) then some (Lib.index s sep) else none
def cd{α:Type}(l:List α):Option (List α):=bif decide (List.length l<=bg) then some l else none
def kp(s:Bs)(most:Int):Int×Bool:=match Lib.atoiAll s with|.ok v=>if Lib.itoa v=s/\0<=v/\v<=most then(v,true) else(0,false)|_=>(0,false)
def yl(s:Bs)(most:Int):Option (Int×Bool):=bif decide (List.length s<=281474976710656) then some (kp s most) else none
abbrev Pc:Type:=Bs×Int×Bool×Bs
abbrev Pq:Type:={ x:Pc // -1125899906842624<=x.2.1/\x.2.1<=1125899906842624 }
instance:Inhabited Pq:=⟨⟨([],0,false,[]),by decide⟩⟩
def jk(x y:Pq):Int:=af (x.1.2.1-y.1.2.1)
def ij(l:List Pq):List Pq:=(Go.Sort.pdq (Go.Proofs.ltOf jk) l.toArray 0 l.length (Lib.bitLen l.length) true true).toList
def ph:List Pc->Option (List Pq)|[]=>some []|x::l=>if h : -1125899906842624<=x.2.1/\x.2.1<=1125899906842624 then(match ph l with|some r=>some (⟨x,h⟩::r)|none=>none) else none
def yc(l:List Pc):Option (List Pc):=bif decide (List.length l<=bg) then(match ph l with|some q=>some ((ij q).map (·.1))|none=>none) else none

def vu(rep:Bs):Nat->Bool->Bs->Bs
 |0,_,_=>[]|_+1,_,[]=>[]|n+1,inv,c::l=>if(Lib.decodeL (c::l)).1=65533/\(Lib.decodeL (c::l)).2=1 then(if inv then[] else rep)++vu rep n true l
  else(c::l).take (Lib.decodeL (c::l)).2++vu rep n false ((c::l).drop (Lib.decodeL (c::l)).2)
def v7(s rep:Bs):Option Bs:=bif decide (List.length s<=1000000/\List.length rep<=1000) then some (vu rep s.length false s) else none
def wo(s:Bs):Option Bool:=bif decide (List.length s<=9223372036854775807) then some (Lib.validD s) else none
def np(a b:UInt8)(na nb:Bs)(c:UInt8):Bs:=if c=a then na else if c=b then nb else[c]
def ej(a b:UInt8)(na nb:Bs)(s:Bs):Bs:=s.flatMap (np a b na nb)
def jh(a b:UInt8)(l:Bs):Nat:=l.count a+l.count b
def ql3(a b:UInt8)(na nb s t:Bs):ej a b na nb (s++t)=ej a b na nb s++ej a b na nb t:=List.flatMap_append
def qn0(a b:UInt8)(s t:Bs):jh a b (s++t)=jh a b s+jh a b t:=by unfold jh;rw[List.count_append,List.count_append];omega
def qn6{a b:UInt8}(hab:a≠b)(c:UInt8):jh a b [c]=if c=a then 1 else if c=b then 1 else 0:=by
 unfold jh;simp only[List.count_cons,List.count_nil,beq_iff_eq];by_cases h:c=a
 ·subst h;simp[hab]
 ·by_cases h2:c=b
  ·subst h2;simp[h]
  ·simp[h,h2]
def qmt{a b:UInt8}(hab:a≠b)(a1 a2 b1 b2:UInt8):∀l:Bs,(ej a b [a1,a2] [b1,b2] l).length=l.length+jh a b l
 |[]=>rfl|c::l=>by
  have h:=qmt hab a1 a2 b1 b2 l;rw[show c::l=[c]++l from rfl,ql3,qM,qM,qn0,h,qn6 hab]
  have:(ej a b [a1,a2] [b1,b2] [c]).length=1+(if c=a then 1 else if c=b then 1 else 0):=by
   show(np a b [a1,a2] [b1,b2] c++[]).length=_;unfold np;split
   ·rfl
   ·split<;>rfl
  rw[this];simp only[qL,qZ];omega
def za4{a b:UInt8}(hab:a≠b)(na nb:Bs):∀l:Bs,jh a b l=0->ej a b na nb l=l
 |[],_=>rfl|c::l,h=>by
  rw[show c::l=[c]++l from rfl,qn0,qn6 hab]at h
  rw[show c::l=[c]++l from rfl,ql3,za4 hab na nb l (by omega)]
  congr 1;show np a b na nb c++[]=[c];unfold np;by_cases h1:c=a
  ·rw[qX h1]at h;omega
  ·by_cases h2:c=b
   ·rw[qW h1,qX h2]at h;omega
   ·rw[qW h1,qW h2];rfl
def q3x{α:Type}(l:List α)(i:Nat)(h:i<l.length):l.take (i+1)=l.take i++[l[i]]:=by
 rw[List.take_add_one,List.getElem?_eq_getElem h];rfl
def ue(s:Bs)(p0 p1 _p2:Int)(on:List Bs):Option Bs:=
 match on with|[[a],[a1,a2],[b],[b1,b2]]=>bif decide (p0=0/\p1=0/\a≠b/\List.length s<=1000000) then some (ej a b [a1,a2] [b1,b2] s) else none|_=>none
def zfv{s r:Bs}{p0 p1 p2:Int}{on:List Bs}(h:ue s p0 p1 p2 on=some r) :
  ∃a a1 a2 b b1 b2,on=[[a],[a1,a2],[b],[b1,b2]]/\p0=0/\p1=0/\a≠b/\List.length s<=1000000/\r=ej a b [a1,a2] [b1,b2] s:=by
 unfold ue at h;split at h
 ·rename_i a a1 a2 b b1 b2;cases hd:decide (p0=0/\p1=0/\a≠b/\List.length s<=1000000)<;>rw[hd]at h<;>simp only[qT,qF,reduceCtorEq]at h
  obtain⟨h1,h2,h3,h4⟩:=of_decide_eq_true hd;exact⟨a,a1,a2,b,b1,b2,rfl,h1,h2,h3,h4,(qJ h).symm⟩
 ·cases h
open Go.RowKit
variable[LC]
def vd(b:List UInt8)(c:UInt8):Option Int:=some (Lib.indexByte b c)
def quh(f:FuncId)(r:List UInt8->UInt8->Option Int):dy:={ key := .ext f,args:=[.h (.list .byte),.h .byte],hp:=[],R:=Int,F:=fun d _=>r d.1 d.2.1,out := .one (α:=Int) (.h (.int .i64)) [] (fun r=>(r,())) (fun y=>y.1) (fun _=>rfl) }
def quq(f:FuncId)(r:List UInt8->UInt8->Option Int):dy:={ key := .ext f,args:=[.h .str,.h .byte],hp:=[],R:=Int,F:=fun d _=>r d.1 d.2.1,out := .one (α:=Int) (.h (.int .i64)) [] (fun r=>(r,())) (fun y=>y.1) (fun _=>rfl) }
def zai(c:UInt8):((c.toNat:Int)).toNat.toUInt8=c:=by simp
def zi2 {P : Program} {f : FuncId} {fn : Func} (hf : P.funcs[f]? = some fn) (hname : (fn.name == "runtime.NumGoroutine") = false) (hb : fn.body.isNone = true) (hn : Extern.findNext fn = none) (he : Extern.find fn = some Extern.BytealgIndexByte.indexByte) (b : List UInt8) (c : UInt8) :
  qhm P f [.str b,.byte c] (.int .i64 (Lib.indexByte b c)):=fun w G vs _ hr=>by
 match vs,hr with
 |[v1,v2],⟨h1,h2,_⟩=>
  have h1:v1 = .string ⟨b.toArray⟩:=h1;have h2:v2 = .int .u8 c.toNat:=h2;subst h1 h2;refine⟨.int .i64 (Lib.indexByte b c),?_,rfl⟩;rw[run_callFunc_extern hf hname hb hn he,show([Value.string ⟨b.toArray⟩,.int .u8 c.toNat]:List Value).toArray=#[.string ⟨b.toArray⟩,.int .u8 c.toNat] from rfl,Lib.run_indexByteString,zai]
  rfl
def zva {P : Program} {f : FuncId} {fn : Func} (hf : P.funcs[f]? = some fn) (hname : (fn.name == "runtime.NumGoroutine") = false) (hb : fn.body.isNone = true) (hn : Extern.findNext fn = none) (he : Extern.find fn = some Extern.BytealgIndexByte.indexByte) (b : List UInt8) (c : UInt8) :
  qhm P f [.sl .byte b,.byte c] (.int .i64 (Lib.indexByte b c)):=fun w G vs hm hr=>by
 match vs,hr with
 |[v1,v2],⟨h1,h2,_⟩=>
  have h2:v2 = .int .u8 c.toNat:=h2;subst h2;obtain⟨a,cp,rfl,hc,hl⟩:jf 1 (Ty.byte.At G.imm) b v1:=h1;refine⟨.int .i64 (Lib.indexByte b c),?_,rfl⟩;rw[run_callFunc_extern hf hname hb hn he];have key:∀k:Int,(Extern.BytealgIndexByte.indexByte #[.slice a b.length cp,.int .u8 c.toNat]).run P w = .ok (.int .i64 k) w->((Extern.BytealgIndexByte.indexByte ([Value.slice a b.length cp,.int .u8 c.toNat]:List Value).toArray).run P w).andThen (fun v w'=>Result.ok (Next.value v) w') = .ok (.value (.int .i64 k)) w:=by
   intro k hk;have e:([Value.slice a b.length cp,.int .u8 c.toNat]:List Value).toArray=#[.slice a b.length cp,.int .u8 c.toNat]:=rfl;rw[e,hk];rfl
  refine key _ ?_;have bb:Lib.bytesOf (b.map fun x=>(x.toNat:Int))=b:=by
   unfold Lib.bytesOf;rw[List.map_map];have:((fun n:Int=>UInt8.ofNat n.toNat) ∘ fun x:UInt8=>(x.toNat:Int))=id:=by funext x;simp
   rw[this,List.map_id]
  rcases hl with rfl|⟨g,o,rfl,hcells⟩
  ·have hs:=Lib.run_indexByteString (P:=P) .empty (c.toNat:Int) w
   cases a with|none=>exact hs|some ad=>exact hs
  ·have:=Lib.run_indexByteSlice (P:=P) (w:=w) g o b.length cp (b.map fun x=>(x.toNat:Int)) (by simp) (fun i hi=>by
    have hk:G.imm g (o+i*1)=some (.int .u8 b[i].toNat):=hcells i _ (List.getElem?_eq_getElem hi);have:=hm.agree _ _ _ hk;rw[Nat.mul_one]at this;rw[this];simp[List.getD_eq_getElem?_getD,hi]) (c.toNat:Int)
   rw[bb,zai]at this;exact this
def zkk {P : Program} {f : FuncId} {fn : Func} (hf : P.funcs[f]? = some fn) (hname : (fn.name == "runtime.NumGoroutine") = false) (hb : fn.body.isNone = true) (hn : Extern.findNext fn = none) (he : Extern.find fn = some Extern.BytealgIndexByte.indexByte) :
  (quq f vd).Sound P:=fun d d' r h=>by
 have h:some (Lib.indexByte (show List UInt8 from d.1) (show UInt8 from d.2.1))=some r:=h
 have h:=qJ h;subst h;exact zi2 hf hname hb hn he _ _
def zj5 {P : Program} {f : FuncId} {fn : Func} (hf : P.funcs[f]? = some fn) (hname : (fn.name == "runtime.NumGoroutine") = false) (hb : fn.body.isNone = true) (hn : Extern.findNext fn = none) (he : Extern.find fn = some Extern.BytealgIndexByte.indexByte) :
  (quh f vd).Sound P:=fun d d' r h=>by
 have h:some (Lib.indexByte (show List UInt8 from d.1) (show UInt8 from d.2.1))=some r:=h
 have h:=qJ h;subst h;exact zva hf hname hb hn he _ _
end Go.Sym
namespace Go.Sym
set_option linter.unusedVariables false
abbrev wU : Type := Tree (List (Bs × Bs) × Bs)
abbrev wV : Type := List (Bs × Bs)
section
variable(fu:Nat)
def qmd:List UInt8:=[240,240,240,240,240,240,240,240,240,240,240,240,240,240,240,240,240,240,240,240,240,240,240,240,240,240,240,240,240,240,240,240,240,240,240,240,240,240,240,240,240,240,240,240,240,240,240,240,240,240,240,240,240,240,240,240,240,240,240,240,240,240,240,240,240,240,240,240,240,240,240,240,240,240,240,240,240,240,240,240,240,240,240,240,240,240,240,240,240,240,240,240,240,240,240,240,240,240,240,240,240,240,240,240,240,240,240,240,240,240,240,240,240,240,240,240,240,240,240,240,240,240,240,240,240,240,240,240,241,241,241,241,241,241,241,241,241,241,241,241,241,241,241,241,241,241,241,241,241,241,241,241,241,241,241,241,241,241,241,241,241,241,241,241,241,241,241,241,241,241,241,241,241,241,241,241,241,241,241,241,241,241,241,241,241,241,241,241,241,241,241,241,241,241,2,2,2,2,2,2,2,2,2,2,2,2,2,2,2,2,2,2,2,2,2,2,2,2,2,2,2,2,2,2,19,3,3,3,3,3,3,3,3,3,3,3,3,35,3,3,52,4,4,4,68,241,241,241,241,241,241,241,241,241,241,241]
def qjm:List (UInt8×UInt8):=[(128,191),(160,191),(128,159),(144,191),(128,143),(0,0),(0,0),(0,0),(0,0),(0,0),(0,0),(0,0),(0,0),(0,0),(0,0),(0,0)]
def znv:List Int:=[1,10,100,1000,10000,100000,1000000,10000000,100000000,1000000000,10000000000,100000000000,1000000000000,10000000000000,100000000000000,1000000000000000,10000000000000000,100000000000000000,1000000000000000000,10000000000000000000]
abbrev zv3:=wU
def qp2:Option zv3:=bif decide (0<List.length ([97]:Bs)) then bif decide (0<List.length ([98,13,10]:Bs)) then some (Tree.node (([(([67,111,110,116,101,110,116,45,84,121,112,101]:Bs),([109,117,108,116,105,112,97,114,116,47,109,105,120,101,100]:Bs))]:List (Bs×Bs)),[]) ([(Tree.node ([],([97]:Bs)) []),(Tree.node ([],([98,13,10]:Bs)) [])]:List wU)) else none else none
abbrev zy2:=wU
def ql1(a:Tree (wV×Bs)):Option zy2:=some (Tree.node a.val a.kids)
def cr(b:Int)(a:Int):Option ((Int×Int)):=some (b,a)
abbrev qzl:=((Int×Int)×Bool) ⊕ ((Int×Int)×Bool)
def qtt(d:Int)(f:List (Bs×Bs))(g:Bs)(h:List wU)(c:Int)(a:Int×Int)(b:Bool):Option qzl:=bif decide (40<=d) then(cr 2 (-1)).bind fun e=>some (.inl (e,b)) else bif b then some (.inr (a,true)) else some (.inr (a,decide (8<c)))
abbrev qk5:=(Int×(Int×Int)×Bool) ⊕ (Int×(Int×Int)×Bool)
abbrev x4T:=wU->Int->Int->(Int×Int)->Bool->Option qk5
abbrev qrs:=Int->(List wU)->Int->Int->Int->(Int×Int)->Bool->Option qk5
def qxb(d:x4T)(fu:Nat)(m:qrs):qrs:=fun j b c a g f h=>bif decide (a<c) then(aq b a).bind fun i=>(d (Tree.node i.val i.kids) (af (j+1)) g f h).bind fun l=>cf l (fun k=>some (.inl k)) (fun e=>m j b c (af (a+1)) e.1 e.2.1 e.2.2) else some (.inr (g,(f,h)))
def qe8(a:x4T)(fu:Nat):Nat->qrs|0=>fun _ _ _ _ _ _ _=>none|n+1=>qxb a fu (qe8 a fu n)
def qkd(b:x4T)(fu:Nat)(a:Tree (wV×Bs))(d:Int)(c:Int)(i:Int×Int)(g:Bool):Option qk5:=(qtt c a.val.1 a.val.2 a.kids d i g).bind fun h=>cf h (fun f=>some (.inl (c,f))) (fun e=>qe8 b fu fu d a.kids (a.kids.length:Int) 0 (af (c+1)) e.1 e.2)
def zm(fu:Nat):Nat->x4T|0=>fun _ _ _ _ _=>none|n+1=>qkd (zm fu n) fu
def q18(d:Tree (wV×Bs))(b:Int)(c:Int)(e:Int×Int)(a:Bool):Option qk5:=zm fu fu d b c e a
abbrev z0n:=(wU×(Int×Int)×Bool) ⊕ (wU×(Int×Int)×Bool)
def qlt(a:Tree (wV×Bs))(c:Int×Int)(d:Bool):Option z0n:=(q18 fu (Tree.node a.val a.kids) 0 0 c d).bind fun e=>cf e (fun b=>some (.inl ((Tree.node a.val a.kids),b.2))) (fun f=>some (.inr ((Tree.node a.val a.kids),f.2)))
def qis(a:UInt8):Option Bool:=bif decide (33<=a) then bif decide (a<=126) then some (a != 58) else some false else some false
abbrev qwf:=Bs->Int->Int->Option Bool
def qw2(fu:Nat)(e:qwf):qwf:=fun c b a=>bif decide (a<b) then(aq c a).bind fun f=>(qis f).bind fun d=>bif !d then some false else e c b (af (a+1)) else some true
def qdh(fu:Nat):Nat->qwf|0=>fun _ _ _=>none|n+1=>qw2 fu (qdh fu n)
def qnv(a:Bs):Option Bool:=qdh fu fu a (a.length:Int) 0
def qlc(a:Bs):Option Bool:=bif !(a==([]:Bs)) then bif decide ((a.length:Int)<=60) then(qnv fu a).bind fun b=>some b else some false else some false
def qx3(a:Int):Option Bool:=some (decide (8<a))
abbrev qo6:=Bs->Int->(List Bool)->Option ((List Bool)×Bool)
def q8d(fu:Nat)(e:qo6):qo6:=fun d b a=>bif decide (b<(d.length:Int)) then(aq d b).bind fun c=>bif decide (128<=c) then bif decide (a.length=256) then bif decide (a.length=a.length)&&decide (a.length=256) then bif decide (a.length=256)&&(true&&true) then some (a,false) else none else none else none else(a[c.toNat]?).bind fun f=>e d (af (b+1)) (List.set a c.toNat true) else bif decide (a.length=256) then bif decide (a.length=a.length)&&decide (a.length=256) then bif decide (a.length=256)&&(true&&true) then some (a,true) else none else none else none
def qwy(fu:Nat):Nat->qo6|0=>fun _ _ _=>none|n+1=>q8d fu (qwy fu n)
def qcc(a:Bs):Option ((List Bool)×Bool):=qwy fu fu a 0 (List.replicate 256 false)
def qeb(b:Bs)(a:UInt8):Option Int:=(vd b a).bind fun c=>some c
def qee(b:Bs)(a:UInt8):Option Int:=(qeb b a).bind fun c=>some c
def qnp(a:Int):Option Bool:=bif decide (0<=a) then bif decide (a<55296) then some true else bif decide (57343<a) then bif decide (a<=1114111) then some true else some false else some false else bif decide (57343<a) then bif decide (a<=1114111) then some true else some false else some false
abbrev qpe:=Bs->Nat->Option Int
abbrev qxm:=Bs->Bs->Int->Int->Int->Option Int
abbrev zpe:=Bs->Bs->Int->Int->Option Int
abbrev qb1:=Bs->Bs->Int->Int->Option Int
abbrev zrk:=Bs->Int->Bool->Option Int
def qxh(fu:Nat)(c:qpe):qpe:=fun b a=>bif Nat.blt a (b.length) then bif(((e8 b a).1:Nat):Int)==65533 then some ((a:Nat):Int) else c b (a+(e8 b a).2) else some (-1)
def qfa(fu:Nat):Nat->qpe|0=>fun _ _=>none|n+1=>qxh fu (qfa fu n)
def q7d(fu:Nat)(i:qb1)(h:qxm):qxm:=fun e d c b a=>bif decide (a<(d.length:Int)) then(aq e (af (b-a))).bind fun g=>(aq d (af (c-a))).bind fun f=>bif g != f then none else h e d c b (af (a+1)) else some (af (b-c))
def qog(fu:Nat)(a:qb1):Nat->qxm|0=>fun _ _ _ _ _=>none|n+1=>q7d fu a (qog fu a n)
def quk(b:qb1):zpe:=fun e d c a=>qog fu b fu e d c a 1
def qw9(e:qb1):qb1:=fun b d c a=>bif decide (a<(b.length:Int)) then(aq b a).bind fun i=>(aq d c).bind fun h=>bif i != h then bif decide (0<=af (a+1)/\af (a+1)<=(b.length:Int)) then(aq d c).bind fun g=>(qee (List.drop (af (a+1)).toNat b) g).bind fun f=>bif decide (f<0) then some (-1) else quk fu e b d c (af (a+(af (f+1)))) else none else quk fu e b d c a else some (-1)
def qmu(fu:Nat):Nat->qb1|0=>fun _ _ _ _=>none|n+1=>qw9 fu (qmu fu n)
def qek:zrk:=fun c a b=>bif b then(qee c (r9 a)).bind fun e=>some e else bif a==65533 then qfa fu fu c 0 else(qnp a).bind fun d=>bif !d then some (-1) else qmu fu fu c (nv a) (af ((List.length (nv a):Int)-1)) (af ((List.length (nv a):Int)-1))
def ul(b:Bs)(a:Int):Option Int:=bif decide (0<=a) then qek fu b a (decide (a<128)) else qek fu b a false
def qbk(c:UInt8)(a:List Bool):Option (Bool×(List Bool)):=(a[c.toNat]?).bind fun b=>some (b,a)
abbrev zx9:=Bs->Int->Option Int
abbrev qpv:=Bs->Int->(List Bool)->Option Int
abbrev qvi:=Bs->Bs->Nat->Option Int
abbrev zjy:=Bs->Bs->Option Int
def qtj:zx9:=fun b c=>(ul fu b c).bind fun a=>some a
def qw0(fu:Nat)(e:qpv):qpv:=fun b a c=>bif decide (a<(b.length:Int)) then(aq b a).bind fun f=>(qbk f c).bind fun d=>bif d.1 then some a else e b (af (a+1)) d.2 else some (-1)
def qcl(fu:Nat):Nat->qpv|0=>fun _ _ _=>none|n+1=>qw0 fu (qcl fu n)
def qsv(e:qvi):qvi:=fun c b a=>bif Nat.blt a (b.length) then(ul fu c (((e8 b a).1:Nat):Int)).bind fun d=>bif decide (0<=d) then some ((a:Nat):Int) else e c b (a+(e8 b a).2) else some (-1)
def qgh(fu:Nat):Nat->qvi|0=>fun _ _ _=>none|n+1=>qsv fu (qgh fu n)
def qhf:zjy:=fun b a=>qgh fu fu a b 0
def qlx(b:Bs)(a:Bs):Option Int:=bif a==([]:Bs) then some (-1) else bif(a.length:Int)==1 then(aq a 0).bind fun d=>bif decide (128<=(d.toNat:Int)) then qtj fu b 65533 else qtj fu b (d.toNat:Int) else(qx3 (b.length:Int)).bind fun e=>bif e then(qcc fu a).bind fun c=>bif decide (c.1.length=List.length (List.replicate 256 false))&&decide (c.1.length=256) then bif c.2 then qcl fu fu b 0 c.1 else qhf fu b a else none else qhf fu b a
def qhd(b:Bs)(a:Bs):Option Bool:=(qlx fu b a).bind fun c=>some (decide (0<=c))
def qp6(a:Bs):Option Bool:=(qhd fu a ([13,10,0]:Bs)).bind fun b=>some b
def t7(a:UInt8):Option Bool:=bif a==32 then some true else some (a==9)
def qjv(a:Bs):Option Bool:=(qp6 fu a).bind fun e=>bif !e then bif a==([]:Bs) then some true else(aq a 0).bind fun b=>(t7 b).bind fun f=>bif !f then(aq a (af ((a.length:Int)-1))).bind fun c=>(t7 c).bind fun d=>some (!d) else some false else some false
abbrev zv7:=Bs->Int->Int->Bool->Option Int
abbrev qhe:=Bs->Int->Int->Option Int
def qnf(fu:Nat)(c:qhe):zv7:=fun e b a d=>bif d then c e b (af (a+1)) else bif decide (0<b) then bif decide (78<a) then some b else c e a (af (a+1)) else c e a (af (a+1))
def qn3(d:qhe):qhe:=fun b c a=>bif decide (a<(b.length:Int)) then(aq b a).bind fun h=>(t7 h).bind fun f=>bif !f then qnf fu d b c a true else(aq b (af (a-1))).bind fun e=>(t7 e).bind fun g=>qnf fu d b c a g else some c
def qhc(fu:Nat):Nat->qhe|0=>fun _ _ _=>none|n+1=>qn3 fu (qhc fu n)
def qmk(b:Bs)(a:Int):Option Int:=qhc fu fu b 0 (if 1>a then 1 else a)
def gp:Option ((Int×Int)):=some (0,0)
abbrev qpo:=Int->Int->(Int×Int)->(List Bs)->Option ((Int×Int)×(List Bs))
abbrev z1w:=Bs->(Int×Int)->(List Bs)->Option ((Int×Int)×(List Bs))
abbrev qwn:=Bs->Int->(Int×Int)->(List Bs)->Option ((Int×Int)×(List Bs))
def qyc(fu:Nat)(f:qpo):qpo:=fun c a d b=>bif decide (a<c) then bif decide (0<=a/\a.toNat<b.length) then(b[a.toNat]?).bind fun h=>bif decide (998<(h.length:Int)) then(cr 1 a).bind fun g=>some (g,[]) else f c (af (a+1)) d b else none else(gp).bind fun e=>some (e,b)
def qgy(fu:Nat):Nat->qpo|0=>fun _ _ _ _=>none|n+1=>qyc fu (qgy fu n)
def qg1:z1w:=fun b c a=>bif decide (List.length (a++([b]:List Bs))<=bg) then qgy fu fu (List.length (a++([b]:List Bs)):Int) 0 c (a++([b]:List Bs)) else none
def qv1(e:qwn):qwn:=fun b f d a=>bif decide (78<(b.length:Int)) then(qmk fu b f).bind fun c=>bif c==0 then qg1 fu b d a else bif decide (0<=c/\c<=(b.length:Int)) then bif decide (List.length (a++([List.take c.toNat b]:List Bs))<=bg) then bif decide (0<=c/\c<=(b.length:Int)) then e (List.drop c.toNat b) 0 d (a++([List.take c.toNat b]:List Bs)) else none else none else none else qg1 fu b d a
def qf0(fu:Nat):Nat->qwn|0=>fun _ _ _ _=>none|n+1=>qv1 fu (qf0 fu n)
def w7(a:Bs)(b:Bs):Option ((Int×Int)×(List Bs)):=(qlc fu a).bind fun f=>bif !f then(cr 10 (-1)).bind fun c=>some (c,[]) else bif decide (4000<(b.length:Int)) then(cr 1 (-1)).bind fun g=>some (g,[]) else(qjv fu b).bind fun d=>bif !d then(cr 11 (-1)).bind fun e=>some (e,[]) else bif decide (a.length+List.length ([58,32]:Bs)<=bh) then bif decide (List.length (a++([58,32]:Bs))+b.length<=bh) then qf0 fu fu ((a++([58,32]:Bs))++b) (af ((a.length:Int)+2)) (0,0) [] else none else none
def e7(a:Int×Int):Option Bool:=some (a.1 != 0)
abbrev qxe:=wV->Int->Int->(Int×Int)->Option ((Int×Int))
def qv6(i:qxe):qxe:=fun b c a d=>bif decide (a<c) then(aq b a).bind fun f=>(w7 fu f.1 f.2).bind fun e=>(e7 e.1).bind fun j=>bif j then(cr e.1.1 a).bind fun g=>some g else i b c (af (a+1)) d else(gp).bind fun h=>some h
def qcq(fu:Nat):Nat->qxe|0=>fun _ _ _ _=>none|n+1=>qv6 fu (qcq fu n)
def qeh(a:List (Bs×Bs)):Option ((Int×Int)):=bif decide (60<(a.length:Int)) then(cr 2 (-1)).bind fun b=>some b else qcq fu fu a (a.length:Int) 0 (0,0)
abbrev qtv:=Int->Int->Bs->Option (Bs)
def qmi(fu:Nat)(e:qtv):qtv:=fun c a b=>bif decide (a<c) then bif decide (0<=a/\a.toNat<b.length) then(b[a.toNat]?).bind fun d=>bif decide (65<=d) then bif decide (d<=90) then bif decide (0<=a/\a.toNat<b.length) then(b[a.toNat]?).bind fun f=>e c (af (a+1)) (List.set b a.toNat ((d+97)-65)) else none else e c (af (a+1)) b else e c (af (a+1)) b else none else some b
def qas(fu:Nat):Nat->qtv|0=>fun _ _ _=>none|n+1=>qmi fu (qas fu n)
def qc0(a:Bs):Option (Bs):=bif decide (a.length<=maxLen) then qas fu fu (a.length:Int) 0 a else none
def lr(b:Bs)(a:Bs):Option Bool:=bif(b.length:Int)==(a.length:Int) then(qc0 fu b).bind fun d=>(qc0 fu a).bind fun c=>some (d==c) else some false
abbrev qrk:=Bs->UInt8->Option (Bs)
def qzw(fu:Nat)(c:qrk):qrk:=fun a b=>bif decide (0<(a.length:Int)) then(aq a 0).bind fun d=>bif d==b then bif decide ((0:Int)<=1/\1<=(a.length:Int)) then c (List.drop (1:Int).toNat a) b else none else some a else some a
def qw8(fu:Nat):Nat->qrk|0=>fun _ _=>none|n+1=>qzw fu (qw8 fu n)
def qpu(b:Bs)(a:UInt8):Option (Bs):=qw8 fu fu b a
abbrev qr5:=Bs->(List Bool)->Option (Bs×(List Bool))
def qri(fu:Nat)(d:qr5):qr5:=fun a c=>bif decide (0<(a.length:Int)) then(aq a 0).bind fun e=>(qbk e c).bind fun b=>bif !b.1 then some (a,b.2) else bif decide ((0:Int)<=1/\1<=(a.length:Int)) then d (List.drop (1:Int).toNat a) b.2 else none else some (a,c)
def qg6(fu:Nat):Nat->qr5|0=>fun _ _=>none|n+1=>qri fu (qg6 fu n)
def qfh(b:Bs)(a:List Bool):Option (Bs×(List Bool)):=qg6 fu fu b a
abbrev zj4:=UInt8->UInt8->UInt8->UInt8->Option (Int×Int)
abbrev z0f:=UInt8->UInt8->UInt8->UInt8->Bool->Option (Int×Int)
abbrev zr5:=Bs->UInt8->Int->UInt8->UInt8->Option (Int×Int)
abbrev zfl:=Bs->UInt8->Int->UInt8->UInt8->Bool->Option (Int×Int)
abbrev zjk:=Bs->UInt8->Int->UInt8->Option (Int×Int)
abbrev zrj:=Bs->UInt8->Int->UInt8->Bool->Option (Int×Int)
def q2w:zj4:=fun d c a b=>some (IntKind.i32.wrap (((BitVec.ofInt 32 (IntKind.i32.wrap (((BitVec.ofInt 32 (IntKind.i32.wrap (((BitVec.ofInt 32 (IntKind.i32.wrap (((d&&&7).toNat:Int)*2 ^ min (18:Int).toNat 32))|||BitVec.ofInt 32 (IntKind.i32.wrap (((c&&&63).toNat:Int)*2 ^ min (12:Int).toNat 32))).toNat:Int)))|||BitVec.ofInt 32 (IntKind.i32.wrap (((a&&&63).toNat:Int)*2 ^ min (6:Int).toNat 32))).toNat:Int)))|||BitVec.ofInt 32 ((b&&&63).toNat:Int)).toNat:Int)),4)
def qvz:z0f:=fun e d a b c=>bif c then some (65533,1) else q2w e d a b
def q1r:zr5:=fun f d e b a=>bif decide (e<=3) then some (IntKind.i32.wrap (((BitVec.ofInt 32 (IntKind.i32.wrap (((BitVec.ofInt 32 (IntKind.i32.wrap (((d&&&15).toNat:Int)*2 ^ min (12:Int).toNat 32))|||BitVec.ofInt 32 (IntKind.i32.wrap (((b&&&63).toNat:Int)*2 ^ min (6:Int).toNat 32))).toNat:Int)))|||BitVec.ofInt 32 ((a&&&63).toNat:Int)).toNat:Int)),3) else(aq f 3).bind fun c=>bif decide (c<128) then qvz d b a c true else qvz d b a c (decide (191<c))
def qv9:zfl:=fun f d e b a c=>bif c then some (65533,1) else q1r f d e b a
def q66:zjk:=fun e c d a=>bif decide (d<=2) then some (IntKind.i32.wrap (((BitVec.ofInt 32 (IntKind.i32.wrap (((c&&&31).toNat:Int)*2 ^ min (6:Int).toNat 32))|||BitVec.ofInt 32 ((a&&&63).toNat:Int)).toNat:Int)),2) else(aq e 2).bind fun b=>bif decide (b<128) then qv9 e c d a b true else qv9 e c d a b (decide (191<b))
def qtd:zrj:=fun e c d a b=>bif b then some (65533,1) else q66 e c d a
def qvv(b:Bs):Option (Int×Int):=bif decide ((b.length:Int)<1) then some (65533,0) else(aq b 0).bind fun d=>(qmd[d.toNat]?).bind fun a=>bif decide (240<=a) then(aq b 0).bind fun f=>some (IntKind.i32.wrap (((BitVec.ofInt 32 (IntKind.i32.wrap (((BitVec.ofInt 32 (f.toNat:Int) &&& ~~~ BitVec.ofInt 32 (Int.fdiv (IntKind.i32.wrap ((a.toNat:Int)*2 ^ min (31:Int).toNat 32)) (2 ^ min (31:Int).toNat 32))).toNat:Int)))|||BitVec.ofInt 32 (IntKind.i32.wrap (((BitVec.ofInt 32 65533&&&BitVec.ofInt 32 (Int.fdiv (IntKind.i32.wrap ((a.toNat:Int)*2 ^ min (31:Int).toNat 32)) (2 ^ min (31:Int).toNat 32))).toNat:Int)))).toNat:Int)),1) else(qjm[(q9 a (min (4:Int).toNat 8)).toNat]?).bind fun e=>bif decide ((b.length:Int)<((a&&&7).toNat:Int)) then some (65533,1) else(aq b 1).bind fun c=>bif decide (c<e.1) then qtd b d ((a&&&7).toNat:Int) c true else qtd b d ((a&&&7).toNat:Int) c (decide (e.2<c))
def qul(a:Bs):Option (Int×Int):=bif !(a==([]:Bs)) then(aq a 0).bind fun d=>bif decide (d<128) then(aq a 0).bind fun b=>some ((b.toNat:Int),1) else(qvv a).bind fun e=>some e else(qvv a).bind fun c=>some c
def qiz(b:Bs)(a:Int):Option Bool:=(ul fu b a).bind fun c=>some (decide (0<=c))
abbrev qr6:=Bs->Bs->Option (Bs)
def zah(e:qr6):qr6:=fun a c=>bif decide (0<(a.length:Int)) then(qul a).bind fun b=>(qiz fu c b.1).bind fun d=>bif !d then some a else bif decide (0<=b.2/\b.2<=(a.length:Int)) then e (List.drop b.2.toNat a) c else none else some a
def qtx(fu:Nat):Nat->qr6|0=>fun _ _=>none|n+1=>zah fu (qtx fu n)
def qpd(b:Bs)(a:Bs):Option (Bs):=qtx fu fu b a
abbrev ze8:=Bs->Bs->Option (Bs)
abbrev zbq:=Bs->Bs->Bool->Option (Bs)
abbrev zcf:=Bs->Bs->Option (Bs)
abbrev zlv:=Bs->Bs->Bool->Option (Bs)
def qv0:ze8:=fun b c=>(qcc fu c).bind fun a=>bif decide (a.1.length=List.length (List.replicate 256 false))&&decide (a.1.length=256) then bif a.2 then(qfh fu b a.1).bind fun d=>some d.1 else(qpd fu b c).bind fun e=>some e else none
def qli:zbq:=fun b c a=>bif a then(aq c 0).bind fun e=>(qpu fu b e).bind fun d=>some d else qv0 fu b c
def qrt:zcf:=fun b a=>bif(a.length:Int)==1 then(aq a 0).bind fun c=>qli fu b a (decide (c<128)) else qli fu b a false
def ql8:zlv:=fun b c a=>bif a then some b else qrt fu b c
def qh2(b:Bs)(a:Bs):Option (Bs):=bif b==([]:Bs) then ql8 fu b a true else ql8 fu b a (a==([]:Bs))
def uo(a:Bs):Option (Bs):=(qh2 fu a ([32,9]:Bs)).bind fun b=>some b
def ox(a:UInt8):Option Bool:=bif decide (33<=a) then bif decide (a<=126) then(qee ([40,41,60,62,64,44,59,58,92,34,47,91,93,63,61,42,37,39]:Bs) a).bind fun b=>some (decide (b<0)) else some false else some false
abbrev zb4:=Int->Bs->Option (Bs×Bs)
abbrev zzc:=Int->Bool->Bs->Option (Bs×Bs)
abbrev qfr:=Int->Bs->Option (Bs×Bs)
def q2i(fu:Nat)(c:qfr):zb4:=fun b a=>c (af (b+1)) a
def qrv(d:qfr):zzc:=fun a c b=>bif c then q2i fu d a b else bif decide (0<=a/\a<=(b.length:Int)) then bif decide (0<=a/\a<=(b.length:Int)) then some (List.take a.toNat b,List.drop a.toNat b) else none else none
def qzo(c:qfr):qfr:=fun b a=>bif decide (b<(a.length:Int)) then(aq a b).bind fun e=>(ox e).bind fun d=>qrv fu c b d a else qrv fu c b false a
def qf7(fu:Nat):Nat->qfr|0=>fun _ _=>none|n+1=>qzo fu (qf7 fu n)
def qdn(a:Bs):Option (Bs×Bs):=(uo fu a).bind fun b=>qf7 fu fu 0 b
def ym(d:UInt8)(c:Bs):Option (Bool×Bs):=(uo fu c).bind fun a=>bif a==([]:Bs) then some (false,a) else(aq a 0).bind fun b=>bif b != d then some (false,a) else bif decide ((0:Int)<=1/\1<=(a.length:Int)) then some (true,List.drop (1:Int).toNat a) else none
def qem(a:UInt8):Option Bool:=(ox a).bind fun b=>bif b then some true else some (a==42)
abbrev zx3:=Int->Bs->Option (Bs×Bs)
abbrev zki:=Int->Bool->Bs->Option (Bs×Bs)
abbrev qfy:=Int->Bs->Option (Bs×Bs)
def q0k(fu:Nat)(c:qfy):zx3:=fun b a=>c (af (b+1)) a
def qrj(d:qfy):zki:=fun a c b=>bif c then q0k fu d a b else bif decide (0<=a/\a<=(b.length:Int)) then bif decide (0<=a/\a<=(b.length:Int)) then some (List.take a.toNat b,List.drop a.toNat b) else none else none
def q7t(c:qfy):qfy:=fun b a=>bif decide (b<(a.length:Int)) then(aq a b).bind fun e=>(qem e).bind fun d=>qrj fu c b d a else qrj fu c b false a
def qc5(fu:Nat):Nat->qfy|0=>fun _ _=>none|n+1=>q7t fu (qc5 fu n)
def qm5(a:Bs):Option (Bs×Bs):=(uo fu a).bind fun b=>qc5 fu fu 0 b
def qcv(a:UInt8):Option Bool:=(ox a).bind fun b=>bif b then some true else bif a==37 then some true else bif a==39 then some true else some (a==42)
abbrev zpl:=Int->Bs->Option (Bs×Bs)
abbrev zn8:=Int->Bool->Bs->Option (Bs×Bs)
abbrev qc4:=Int->Bs->Option (Bs×Bs)
def qzy(fu:Nat)(c:qc4):zpl:=fun b a=>c (af (b+1)) a
def qoe(d:qc4):zn8:=fun a c b=>bif c then qzy fu d a b else bif decide (0<=a/\a<=(b.length:Int)) then bif decide (0<=a/\a<=(b.length:Int)) then some (List.take a.toNat b,List.drop a.toNat b) else none else none
def q93(c:qc4):qc4:=fun b a=>bif decide (b<(a.length:Int)) then(aq a b).bind fun e=>(qcv e).bind fun d=>qoe fu c b d a else qoe fu c b false a
def qgz(fu:Nat):Nat->qc4|0=>fun _ _=>none|n+1=>q93 fu (qgz fu n)
def qnt(a:Bs):Option (Bs×Bs):=(uo fu a).bind fun b=>qgz fu fu 0 b
abbrev qr7:=Int->Bs->Bs->Option (Bs×Bool×Bs)
def qt4(fu:Nat)(f:qr7):qr7:=fun c b a=>bif decide (c<(b.length:Int)) then(aq b c).bind fun d=>bif d==34 then bif decide (0<=af (c+1)/\af (c+1)<=(b.length:Int)) then some (a,(true,List.drop (af (c+1)).toNat b)) else none else bif d==92 then bif(af (c+1))==(b.length:Int) then some (([]:Bs),(false,b)) else(aq b (af (c+1))).bind fun e=>bif decide (List.length (a++([e]:Bs))<=bg) then f (af ((af (c+1))+1)) b (a++([e]:Bs)) else none else bif decide (List.length (a++([d]:Bs))<=bg) then f (af (c+1)) b (a++([d]:Bs)) else none else some (([]:Bs),(false,b))
def qfe(fu:Nat):Nat->qr7|0=>fun _ _ _=>none|n+1=>qt4 fu (qfe fu n)
def qlh(c:Bs):Option (Bs×Bool×Bs):=(ym fu 34 c).bind fun a=>bif !a.1 then(qnt fu a.2).bind fun b=>some (b.1,(true,b.2)) else qfe fu fu 0 a.2 []
abbrev ztk:=Bs->Bs->Int->Bool->Option Int
def qaa:ztk:=fun b e c a=>bif a then some 0 else bif c==1 then(aq e 0).bind fun f=>(qeb b f).bind fun d=>some d else bif decide ((b.length:Int)<=c) then some (-1) else none
def qaj(b:Bs)(a:Bs):Option Int:=bif(a.length:Int)==0 then qaa b a (a.length:Int) true else qaa b a (a.length:Int) (a==b)
def qgj(b:Bs)(c:Bs):Option (Bs×Bs×Bool):=(qaj b c).bind fun a=>bif decide (0<=a) then bif decide (0<=a/\a<=(b.length:Int)) then bif decide (0<=af (a+(c.length:Int))/\af (a+(c.length:Int))<=(b.length:Int)) then some (List.take a.toNat b,(List.drop (af (a+(c.length:Int))).toNat b,true)) else none else none else some (b,(([]:Bs),false))
def ra(b:Bs)(a:Bs):Option (Bs×Bs×Bool):=(qgj b a).bind fun c=>some c
def qgr(a:Bs)(b:Bs):Option Bool:=bif decide ((b.length:Int)<=(a.length:Int)) then bif decide (0<=af ((a.length:Int)-(b.length:Int))/\af ((a.length:Int)-(b.length:Int))<=(a.length:Int)) then some ((List.drop (af ((a.length:Int)-(b.length:Int))).toNat a)==b) else none else some false
def qx7(a:Bs)(b:Bs):Option (Bs×Bool):=(qgr a b).bind fun c=>bif !c then some (a,false) else bif decide (0<=af ((a.length:Int)-(b.length:Int))/\af ((a.length:Int)-(b.length:Int))<=(a.length:Int)) then some (List.take (af ((a.length:Int)-(b.length:Int))).toNat a,true) else none
def qhz(b:Bs)(a:Bs):Option (Bs×Bool):=(qx7 b a).bind fun c=>some c
abbrev zc5:=(Bs×Int×Bool×Bs)×Bool×Bs
def qjy(g:Bs):Option zc5:=(qm5 fu g).bind fun f=>(ym fu 61 f.2).bind fun e=>bif !e.1 then some ((([]:Bs),(0,(false,([]:Bs)))),(false,e.2)) else(qlh fu e.2).bind fun a=>(ra f.1 ([42]:Bs)).bind fun b=>bif b.2.2 then(qhz b.2.1 ([42]:Bs)).bind fun c=>(yl c.1 1099511627776).bind fun d=>bif a.2.1 then bif d.2 then some ((b.1,(d.1,(c.2,a.1))),(!(b.1==([]:Bs)),a.2.2)) else some ((b.1,(d.1,(c.2,a.1))),(false,a.2.2)) else some ((b.1,(d.1,(c.2,a.1))),(false,a.2.2)) else bif a.2.1 then some ((b.1,((-1),(false,a.1))),(!(b.1==([]:Bs)),a.2.2)) else some ((b.1,((-1),(false,a.1))),(false,a.2.2))
abbrev zgp:=Bool×(Bs×Int×Bool×Bs)
def qf4(b:Bs×Int×Bool×Bs)(a:Bs×Int×Bool×Bs):Option zgp:=(lr fu b.1 a.1).bind fun c=>some (c,a)
abbrev zav:=Int×(Bs×Int×Bool×Bs)
abbrev que:=(List (Bs×Int×Bool×Bs))->Int->Int->(Bs×Int×Bool×Bs)->Option zav
def qv4(g:que):que:=fun e d a c=>bif decide (a<d) then(aq e a).bind fun f=>(qf4 fu f c).bind fun b=>bif b.1 then some (a,b.2) else g e d (af (a+1)) b.2 else some ((-1),c)
def qfl(fu:Nat):Nat->que|0=>fun _ _ _ _=>none|n+1=>qv4 fu (qfl fu n)
def qru(a:List (Bs×Int×Bool×Bs))(b:Bs×Int×Bool×Bs):Option zav:=qfl fu fu a (a.length:Int) 0 b
abbrev zxa:=Bool×(Bs×Int×Bool×Bs)
def qii(c:List (Bs×Int×Bool×Bs))(b:Bs×Int×Bool×Bs):Option zxa:=(qru fu c b).bind fun a=>some (decide (0<=a.1),a.2)
abbrev zz8:=UInt8->Bool->Option (UInt8×Bool)
abbrev zl7:=UInt8->Bool->Option (UInt8×Bool)
def qw3:zz8:=fun a b=>bif b then some ((a-65)+10,true) else bif decide (97<=a) then bif decide (a<=102) then some ((a-97)+10,true) else some (0,false) else some (0,false)
def qs5:zl7:=fun a b=>bif b then some (a-48,true) else bif decide (65<=a) then qw3 a (decide (a<=70)) else qw3 a false
def qa9(a:UInt8):Option (UInt8×Bool):=bif decide (48<=a) then qs5 a (decide (a<=57)) else qs5 a false
def qd6(c:Bs):Option (UInt8×Bool):=bif decide ((c.length:Int)<2) then some (0,false) else(aq c 0).bind fun e=>(qa9 e).bind fun a=>(aq c 1).bind fun d=>(qa9 d).bind fun b=>bif a.2 then some ((pb a.1 (min (4:Int).toNat 8))|||b.1,b.2) else some ((pb a.1 (min (4:Int).toNat 8))|||b.1,false)
abbrev qow:=Bs->Int->Bs->Option (Bs)
abbrev zol:=Bs->Option (Bs)
abbrev zhi:=Bs->Bool->Option (Bs)
def qup(fu:Nat)(d:qow):qow:=fun c b a=>bif decide (b<(c.length:Int)) then(aq c b).bind fun h=>bif h==37 then bif decide (0<=af (b+1)/\af (b+1)<=(c.length:Int)) then(qd6 (List.drop (af (b+1)).toNat c)).bind fun e=>bif e.2 then bif decide (List.length (a++([e.1]:Bs))<=bg) then d c (af ((af (b+2))+1)) (a++([e.1]:Bs)) else none else(aq c b).bind fun f=>bif decide (List.length (a++([f]:Bs))<=bg) then d c (af (b+1)) (a++([f]:Bs)) else none else none else(aq c b).bind fun g=>bif decide (List.length (a++([g]:Bs))<=bg) then d c (af (b+1)) (a++([g]:Bs)) else none else some a
def qg3(fu:Nat):Nat->qow|0=>fun _ _ _=>none|n+1=>qup fu (qg3 fu n)
def qbi:zol:=fun a=>qg3 fu fu a 0 []
def th:zhi:=fun a b=>bif b then bif decide ((0:Int)<=6/\6<=(a.length:Int)) then qbi fu (List.drop (6:Int).toNat a) else none else qbi fu a
def qlz(a:Bs×Int×Bool×Bs):Option (Bs):=bif !a.2.2.1 then some a.2.2.2 else bif a.2.1==0 then bif decide (6<=(a.2.2.2.length:Int)) then bif decide ((0:Int)<=6/\6<=(a.2.2.2.length:Int)) then(lr fu (List.take (6:Int).toNat a.2.2.2) ([117,116,102,56,39,39]:Bs)).bind fun b=>th fu a.2.2.2 b else none else th fu a.2.2.2 false else th fu a.2.2.2 false
abbrev qxy:=Int->Int->(Bs×Bs)->(Bs×Bs)->(List (Bs×Int×Bool×Bs))->Option ((Bs×Bs)×Bool)
def qwp(h:qxy):qxy:=fun d b e a c=>bif decide (b<d) then bif decide (0<=b/\b.toNat<c.length) then(c[b.toNat]?).bind fun g=>bif g.2.1 != b then some (a,false) else(qlz fu g).bind fun f=>bif decide (a.2.length+f.length<=bh) then h d (af (b+1)) e (a.1,a.2++f) c else none else none else(v7 a.2 ([239,191,189]:Bs)).bind fun i=>some ((a.1,i),true)
def qf6(fu:Nat):Nat->qxy|0=>fun _ _ _ _ _=>none|n+1=>qwp fu (qf6 fu n)
def qd9(a:List (Bs×Int×Bool×Bs)):Option ((Bs×Bs)×Bool):=bif decide ((0:Int)<=0/\(0:Int).toNat<a.length) then(a[(0:Int).toNat]?).bind fun c=>bif decide ((0:Int)<=0/\(0:Int).toNat<a.length) then(a[(0:Int).toNat]?).bind fun e=>bif decide ((0:Int)<=0/\(0:Int).toNat<a.length) then(a[(0:Int).toNat]?).bind fun d=>bif decide (d.2.1<0) then some ((c.1,e.2.2.2),(a.length:Int)==1) else(yc a).bind fun b=>qf6 fu fu (b.length:Int) 0 (([]:Bs),([]:Bs)) (c.1,([]:Bs)) b else none else none else none
abbrev qgf:=Bool×wV
abbrev zsg:=(List (Bs×Int×Bool×Bs))->(List (Bs×Int×Bool×Bs))->Int->Int->(List (Bs×Int×Bool×Bs))->Int->Int->(Bs×Int×Bool×Bs)->(List (Bs×Int×Bool×Bs))->wV->Option qgf
abbrev qit:=(List (Bs×Int×Bool×Bs))->(List (Bs×Int×Bool×Bs))->Int->Int->(List (Bs×Int×Bool×Bs))->Int->Int->(Bs×Int×Bool×Bs)->wV->(List (Bs×Int×Bool×Bs))->Option qgf
abbrev ux:=(List (Bs×Int×Bool×Bs))->(List (Bs×Int×Bool×Bs))->Int->Int->wV->Option qgf
def qfk(fu:Nat)(l:ux)(j:qit):zsg:=fun k b g i f h e c d a=>j k b g i f h (af (e+1)) c a d
def qr0(m:ux)(p:qit):qit:=fun o d g i f h c e b a=>bif decide (c<h) then(aq f c).bind fun l=>(qf4 fu l e).bind fun k=>bif k.1 then bif decide (List.length (a++([l]:List (Bs×Int×Bool×Bs)))<=bg) then qfk fu m p o d g i f h c k.2 (a++([l]:List (Bs×Int×Bool×Bs))) b else none else qfk fu m p o d g i f h c k.2 a b else(qd9 fu a).bind fun j=>bif !j.2 then some (false,[]) else bif decide (List.length (b++([(e.1,j.1.2)]:List (Bs×Bs)))<=bg) then m o d g (af (i+1)) (b++([(e.1,j.1.2)]:List (Bs×Bs))) else none
def qdr(fu:Nat)(a:ux):Nat->qit|0=>fun _ _ _ _ _ _ _ _ _ _=>none|n+1=>qr0 fu a (qdr fu a n)
def qt6(g:ux):ux:=fun e b c a d=>bif decide (a<c) then(aq b a).bind fun h=>bif decide (0<=a/\a<=(e.length:Int)) then(qii fu (List.take a.toNat e) h).bind fun f=>bif f.1 then g e b c (af (a+1)) d else qdr fu g fu e b c a e (e.length:Int) 0 f.2 d [] else none else some (true,d)
def qaq(fu:Nat):Nat->ux|0=>fun _ _ _ _ _=>none|n+1=>qt6 fu (qaq fu n)
def qcd(a:List (Bs×Int×Bool×Bs)):Option qgf:=qaq fu fu a a (a.length:Int) 0 []
abbrev qgm:=(Bs×Bs×Bool) ⊕ (Bs×Bs×Bool×wV)
abbrev qx5:=Bs->Bs->Bs->Bs->Bs->(List (Bs×Int×Bool×Bs))->Option qgm
abbrev zbh:=Bs->Bs->Bs->Bs->Bs->Option qgm
abbrev zqy:=Bool->Bs->Bs->Bs->Bs->Bs->Option qgm
def qvg(j:qx5):qx5:=fun d e h b a c=>(ym fu 59 h).bind fun i=>bif i.1 then(qjy fu i.2).bind fun f=>bif !f.2.1 then some (.inl (b,(a,false))) else bif decide (List.length (c++([f.1]:List (Bs×Int×Bool×Bs)))<=bg) then j d e f.2.2 b a (c++([f.1]:List (Bs×Int×Bool×Bs))) else none else(uo fu i.2).bind fun k=>(qcd fu c).bind fun g=>bif g.1 then some (.inr (b,(a,(k==([]:Bs),g.2)))) else some (.inr (b,(a,(false,g.2))))
def qfx(fu:Nat):Nat->qx5|0=>fun _ _ _ _ _ _=>none|n+1=>qvg fu (qfx fu n)
def qrd:zbh:=fun b c e d a=>qfx fu fu b c e d a []
def t6:zqy:=fun e c d f b a=>bif e then some (.inl (b,(a,false))) else qrd fu c d f b a
def ql6(d:Bs):Option qgm:=(qdn fu d).bind fun b=>(ym fu 47 b.2).bind fun c=>(qdn fu c.2).bind fun a=>bif b.1==([]:Bs) then t6 fu true ([]:Bs) ([]:Bs) a.2 b.1 a.1 else bif !c.1 then t6 fu true ([]:Bs) ([]:Bs) a.2 b.1 a.1 else t6 fu (a.1==([]:Bs)) ([]:Bs) ([]:Bs) a.2 b.1 a.1
abbrev qvc:=Bs->Int->Int->Option Bool
def za0(fu:Nat)(e:qvc):qvc:=fun c b a=>bif decide (a<b) then(aq c a).bind fun f=>(ox f).bind fun d=>bif !d then some false else e c b (af (a+1)) else some true
def qdu(fu:Nat):Nat->qvc|0=>fun _ _ _=>none|n+1=>za0 fu (qdu fu n)
def qin(a:Bs):Option Bool:=qdu fu fu a (a.length:Int) 0
def vp(a:Bs):Option Bool:=bif !(a==([]:Bs)) then bif decide ((a.length:Int)<=60) then(qin fu a).bind fun b=>some b else some false else some false
def qwi(b:Bs×Bs)(a:Bs×Bs):Option (Bool×(Bs×Bs)):=(lr fu b.1 a.1).bind fun c=>some (c,a)
abbrev qur:=wV->Int->Int->(Bs×Bs)->Option (Int×(Bs×Bs))
def qvt(g:qur):qur:=fun e d a c=>bif decide (a<d) then(aq e a).bind fun f=>(qwi fu f c).bind fun b=>bif b.1 then some (a,b.2) else g e d (af (a+1)) b.2 else some ((-1),c)
def qc8(fu:Nat):Nat->qur|0=>fun _ _ _ _=>none|n+1=>qvt fu (qc8 fu n)
def qqv(a:List (Bs×Bs))(b:Bs×Bs):Option (Int×(Bs×Bs)):=qc8 fu fu a (a.length:Int) 0 b
def qm7(c:List (Bs×Bs))(b:Bs×Bs):Option (Bool×(Bs×Bs)):=(qqv fu c b).bind fun a=>some (decide (0<=a.1),a.2)
abbrev z1n:=Int->wV->Int->Int->Bool->(Bs×Bs×wV)->(Int×Int)->(Bs×Bs)->Option ((Int×Int))
abbrev qhv:=wV->Int->Int->(Bs×Bs×wV)->(Int×Int)->Option ((Int×Int))
abbrev zh6:=(Bs×Bs×wV)->(Int×Int)->Option ((Int×Int))
abbrev zuh:=Bool->(Bs×Bs×wV)->(Int×Int)->Option ((Int×Int))
def yq(o:qhv):z1n:=fun a h i d e b g c=>bif e then(cr 10 a).bind fun j=>some j else bif decide (0<=a/\a<=(b.2.2.length:Int)) then(qm7 fu (List.take a.toNat b.2.2) c).bind fun f=>bif f.1 then(cr 7 a).bind fun m=>some m else bif decide (500<(f.2.2.length:Int)) then(cr 1 a).bind fun k=>some k else(wo f.2.2).bind fun p=>bif !p then(cr 5 a).bind fun l=>some l else o h i (af (d+1)) b g else none
def qp8(g:qhv):qhv:=fun b c a e d=>bif decide (a<c) then(aq b a).bind fun f=>(vp fu f.1).bind fun h=>bif !h then yq fu g a b c a true e d f else yq fu g a b c a (decide (20<(f.1.length:Int))) e d f else(gp).bind fun i=>some i
def zf(fu:Nat):Nat->qhv|0=>fun _ _ _ _ _=>none|n+1=>qp8 fu (zf fu n)
def qqh:zh6:=fun a b=>bif decide (60<(a.2.2.length:Int)) then(cr 2 (-3)).bind fun c=>some c else zf fu fu a.2.2 (a.2.2.length:Int) 0 a b
def qau:zuh:=fun b c a=>bif b then(cr 10 (-2)).bind fun d=>some d else qqh fu c a
def rp(a:Bs×Bs×wV):Option ((Int×Int)):=(vp fu a.1).bind fun c=>bif !c then qau fu true a (0,0) else(vp fu a.2.1).bind fun b=>qau fu (!b) a (0,0)
abbrev q0l:=(Bs×Bs×Int×Int) ⊕ (Bs×Bs×Int×Int×wV)
def qcr(i:Bs):Option q0l:=bif decide (4000<(i.length:Int)) then(cr 1 (-1)).bind fun p=>some (.inl (([]:Bs),(([]:Bs),p))) else(ql6 fu i).bind fun l=>cf l (fun d=>bif !d.2.2 then(cr 11 (-5)).bind fun o=>some (.inl (([]:Bs),(([]:Bs),o))) else(rp fu (d.1,(d.2.1,[]))).bind fun h=>(e7 h).bind fun m=>bif m then(cr h.1 (-6)).bind fun k=>some (.inl (([]:Bs),(([]:Bs),k))) else(gp).bind fun j=>some (.inl (d.1,(d.2.1,j)))) (fun a=>bif !a.2.2.1 then(cr 11 (-5)).bind fun f=>some (.inl (([]:Bs),(([]:Bs),f))) else(rp fu (a.1,(a.2.1,a.2.2.2))).bind fun b=>(e7 b).bind fun g=>bif g then(cr b.1 (-6)).bind fun e=>some (.inl (([]:Bs),(([]:Bs),e))) else(gp).bind fun c=>some (.inr (a.1,(a.2.1,(c.1,(c.2,a.2.2.2))))))
abbrev qjz:=(Bs×Bs×Int×Bool) ⊕ (Bs×Bs×Int×Bool×wV)
abbrev zb3:=wV->Int->wV->Int->Int->Bs->Bs->Option qjz
abbrev qj1:=wV->Int->wV->Int->Int->Bs->Bs->Option qjz
def qbh(fu:Nat)(g:qj1):zb3:=fun h f e c d a b=>g h f e c (af (d+1)) a b
def qil(j:qj1):qj1:=fun i f e d a b c=>bif decide (a<d) then(aq e a).bind fun p=>(lr fu p.1 ([67,111,110,116,101,110,116,45,84,121,112,101]:Bs)).bind fun m=>bif m then bif decide (0<=f) then some (.inl (([]:Bs),(([]:Bs),(0,false)))) else qbh fu j i a e d a b c else qbh fu j i f e d a b c else bif decide (f<0) then some (.inl (([]:Bs),(([]:Bs),(0,false)))) else(aq i f).bind fun k=>(qcr fu k.2).bind fun o=>cf o (fun h=>(e7 h.2.2).bind fun q=>some (.inl (h.1,(h.2.1,(f,!q))))) (fun g=>(e7 (g.2.2.1,g.2.2.2.1)).bind fun l=>some (.inr (g.1,(g.2.1,(f,(!l,g.2.2.2.2))))))
def ut(fu:Nat):Nat->qj1|0=>fun _ _ _ _ _ _ _=>none|n+1=>qil fu (ut fu n)
def ye(a:List (Bs×Bs)):Option qjz:=ut fu fu a (-1) a (a.length:Int) 0 ([]:Bs) ([]:Bs)
abbrev qxt:=Bs->wV->Int->Int->(Int×Int)->Option (Bs×Bool×(Int×Int))
def qp7(i:qxt):qxt:=fun f c b a d=>bif decide (a<b) then(aq c a).bind fun e=>(lr fu e.1 f).bind fun g=>bif g then(gp).bind fun j=>some (e.2,(true,j)) else i f c b (af (a+1)) d else(gp).bind fun h=>some (([]:Bs),(false,h))
def qdl(fu:Nat):Nat->qxt|0=>fun _ _ _ _ _=>none|n+1=>qp7 fu (qdl fu n)
def qgt(a:Bs×Bs×wV)(d:Bs):Option (Bs×Bool×(Int×Int)):=(rp fu a).bind fun b=>(e7 b).bind fun c=>bif c then some (([]:Bs),(false,b)) else qdl fu fu d a.2.2 (a.2.2.length:Int) 0 (0,0)
def qg2(a:UInt8):Option Bool:=bif decide (32<=a) then some (decide (a<=126)) else some false
abbrev qoz:=Bs->Int->Int->Option Bool
def q4s(fu:Nat)(e:qoz):qoz:=fun c b a=>bif decide (a<b) then(aq c a).bind fun f=>(qg2 f).bind fun d=>bif !d then some false else e c b (af (a+1)) else some true
def qec(fu:Nat):Nat->qoz|0=>fun _ _ _=>none|n+1=>q4s fu (qec fu n)
def qki(a:Bs):Option Bool:=qec fu fu a (a.length:Int) 0
def qf8(a:List Bs):Option (Int×Int×Int×(List Bs)):=bif(Int.tmod (a.length:Int) 2)==1 then none else bif decide (a.length<=bg) then some (0,(0,(0,a))) else none
abbrev up:=Int×Int×Int×Bs×(List Bs)
abbrev zc7:=Bool->Int->Int->Int->Int->(List Bs)->Option up
abbrev qrb:=Int->Int->Int->Int->(List Bs)->Bs->Option up
abbrev qwe:=Int->Int->Int->Int->(List Bs)->Bs->Option up
abbrev quj:=Int->Int->Int->Int->(List Bs)->(List Bs)->Option up
abbrev qns:=Bool->Int->Int->Int->Int->(List Bs)->Option up
abbrev zpy:=Int->Int->Int->(List Bs)->Option up
abbrev zj8:=Bool->Int->Int->Int->(List Bs)->Option up
def qu1(fu:Nat)(f:qns):zc7:=fun e g a b c d=>f e (af (g+2)) a b c d
def q8r(fu:Nat)(i:qrb):qrb:=fun c b d e a f=>bif decide (0<=c) then bif decide (0<=c/\c.toNat<a.length) then(a[c.toNat]?).bind fun k=>(aq k 0).bind fun g=>bif decide (0<=af (c+1)/\(af (c+1)).toNat<a.length) then(a[(af (c+1)).toNat]?).bind fun h=>(aq h 0).bind fun j=>(f[g.toNat]?).bind fun l=>i (af (c-2)) b d e a (List.set f g.toNat j) else none else none else some (b,(d,(e,(f,a))))
def qpg(fu:Nat):Nat->qrb|0=>fun _ _ _ _ _ _=>none|n+1=>q8r fu (qpg fu n)
def q9r(g:qwe):qwe:=fun a b c d f e=>bif decide (a<256) then bif decide (0<=a)&&decide (a<256) then(e[a.toNat]?).bind fun h=>g (af (a+1)) b c d f (List.set e a.toNat (r9 a)) else none else qpg fu fu (af ((f.length:Int)-2)) b c d f e
def qya(fu:Nat):Nat->qwe|0=>fun _ _ _ _ _ _=>none|n+1=>q9r fu (qya fu n)
def q9b(fu:Nat)(j:quj):quj:=fun a c d e b f=>bif decide (0<=a) then bif decide (0<=a/\a.toNat<b.length) then(b[a.toNat]?).bind fun g=>(aq g 0).bind fun i=>bif decide (0<=af (a+1)/\(af (a+1)).toNat<b.length) then(b[(af (a+1)).toNat]?).bind fun h=>none else none else none else none
def qwt(fu:Nat):Nat->quj|0=>fun _ _ _ _ _ _=>none|n+1=>q9b fu (qwt fu n)
def q1v(g:qns):qns:=fun f e b c d a=>bif decide (e<(a.length:Int)) then bif decide (0<=e/\e.toNat<a.length) then(a[e.toNat]?).bind fun i=>bif(i.length:Int) != 1 then none else bif decide (0<=af (e+1)/\(af (e+1)).toNat<a.length) then(a[(af (e+1)).toNat]?).bind fun h=>bif(h.length:Int) != 1 then qu1 fu g false e b c d a else qu1 fu g f e b c d a else none else none else bif f then bif decide (List.length (List.replicate 256 0)=List.length (List.replicate 256 0))&&decide (List.length (List.replicate 256 0)=256) then qya fu fu 0 b c d a (List.replicate 256 0) else none else bif decide ((0:Int)<=0/\0=af (Int.tdiv (a.length:Int) 2)/\(0:Int)<=4294967296) then qwt fu fu (af ((a.length:Int)-2)) b c d a (List.replicate (0:Int).toNat ([]:Bs)) else none
def qpf(fu:Nat):Nat->qns|0=>fun _ _ _ _ _ _=>none|n+1=>q1v fu (qpf fu n)
def q4d:zpy:=fun a b c d=>qpf fu fu true 0 a b c d
def qqs:zj8:=fun e b c d a=>bif e then bif decide ((0:Int)<=0/\(0:Int).toNat<a.length) then(a[(0:Int).toNat]?).bind fun g=>bif decide ((0:Int)<=1/\(1:Int).toNat<a.length) then(a[(1:Int).toNat]?).bind fun f=>none else none else none else q4d fu b c d a
def q82(d:Int)(b:Int)(c:Int)(a:List Bs):Option up:=bif(a.length:Int)==2 then bif decide ((0:Int)<=0/\(0:Int).toNat<a.length) then(a[(0:Int).toNat]?).bind fun e=>qqs fu (decide (1<(e.length:Int))) d b c a else none else qqs fu false d b c a
abbrev zf9:=Int×Int×Int×Bs×(List Bs)
def qls(d:Int)(b:Int)(c:Int)(e:List Bs):Option zf9:=(q82 fu d b c e).bind fun a=>some (a.1,(a.2.1,(a.2.2.1,(a.2.2.2.1,[]))))
abbrev zgi:=Bs->Int->UInt8->Bs->Bs->Option (Bs×Bs)
abbrev qkj:=Bs->Int->Bs->Bs->Option (Bs×Bs)
abbrev qv7:=Bs->Int->Bs->Option (Bs×Bs)
def qct(fu:Nat)(d:qkj):zgi:=fun g b f c a=>(c[f.toNat]?).bind fun e=>bif decide (0<=b/\b.toNat<a.length) then(a[b.toNat]?).bind fun h=>d g (af (b+1)) c (List.set a b.toNat e) else none
def qq0(f:qkj):qkj:=fun d c b a=>bif decide (c<(d.length:Int)) then(aq d c).bind fun e=>(b[e.toNat]?).bind fun g=>bif g != e then bif decide (0<a.length) then qct fu f d c e b a else none else f d (af (c+1)) b a else bif decide (0<a.length) then some (a,b) else none
def qfc(fu:Nat):Nat->qkj|0=>fun _ _ _ _=>none|n+1=>qq0 fu (qfc fu n)
def qqf(f:qv7):qv7:=fun a c b=>bif decide (c<(a.length:Int)) then(aq a c).bind fun d=>(b[d.toNat]?).bind fun e=>bif e != d then bif decide (a.length<=maxLen) then qct fu (qfc fu fu) a c d b a else none else f a (af (c+1)) b else some (a,b)
def qeq(fu:Nat):Nat->qv7|0=>fun _ _ _=>none|n+1=>qqf fu (qeq fu n)
def qen(b:Bs)(a:Bs):Option (Bs×Bs):=qeq fu fu b 0 a
def wv(fu:Nat)(s:Bs)(p0 p1 p2:Int)(on:List Bs):Option (Bs×Int×Int×Int×Bs):=
 bif decide (p0=0)&&decide (p1=0) then
 (qls fu 0 1 p2 on).bind fun x=>
 bif decide (x.1=0)&&decide (x.2.1=1) then
 (qen fu s x.2.2.2.1).bind fun y=>
 some (y.1,1,0,x.2.2.1,y.2)
 else none else none
def vt(fu:Nat)(s:Bs)(p0 p1 p2:Int)(tab:Bs):Option (Bs×Int×Int×Int×Bs):=
 bif !decide (p0=0) then
 (qen fu s tab).bind fun y=>
 some (y.1,p0,p1,p2,y.2)
 else none
def n8(a:UInt8):Option UInt8:=(([48,49,50,51,52,53,54,55,56,57,65,66,67,68,69,70]:Bs)[(a&&&15).toNat]?).bind fun b=>some b
abbrev z0y:=Bs->Bs->Int->Int->(List Bs)->Option ((List Bs))
abbrev qlm:=Bs->Int->Int->(List Bs)->Option ((List Bs))
def qd5(fu:Nat)(f:qlm):z0y:=fun g b d c a=>bif decide (0<=af ((a.length:Int)-1)/\(af ((a.length:Int)-1)).toNat<a.length) then(a[(af ((a.length:Int)-1)).toNat]?).bind fun h=>bif decide ((af ((h.length:Int)+(b.length:Int)))<=60) then bif decide (0<=af ((a.length:Int)-1)/\(af ((a.length:Int)-1)).toNat<a.length) then(a[(af ((a.length:Int)-1)).toNat]?).bind fun e=>bif decide (e.length+b.length<=bh) then bif decide (0<=af ((a.length:Int)-1)/\(af ((a.length:Int)-1)).toNat<a.length) then(a[(af ((a.length:Int)-1)).toNat]?).bind fun i=>f g d (af (c+1)) (List.set a ((af ((a.length:Int)-1)).toNat) (e++b)) else none else none else none else bif decide (List.length (a++([b]:List Bs))<=bg) then f g d (af (c+1)) (a++([b]:List Bs)) else none else none
def qu4(e:qlm):qlm:=fun b d a c=>bif decide (a<d) then bif decide (0<=a/\a<=af (a+1)/\af (a+1)<=(b.length:Int)) then(aq b a).bind fun j=>(ox j).bind fun g=>bif !g then(aq b a).bind fun f=>(n8 (q9 f (min (4:Int).toNat 8))).bind fun h=>(aq b a).bind fun k=>(n8 k).bind fun i=>qd5 fu e b ([37,h,i]:Bs) d a c else qd5 fu e b (List.take ((af (a+1)).toNat-a.toNat) (List.drop a.toNat b)) d a c else none else some c
def qaf(fu:Nat):Nat->qlm|0=>fun _ _ _ _=>none|n+1=>qu4 fu (qaf fu n)
def qno(a:Bs):Option ((List Bs)):=qaf fu fu a (a.length:Int) 0 ([([117,116,102,56,39,39]:Bs)]:List Bs)
abbrev qua:=Bs->Int->Int->(Bs×Bs)->(List Bs)->Option (Bs)
abbrev zck:=(Bs×Bs)->Option (Bs)
abbrev z0p:=Bool->(Bs×Bs)->Option (Bs)
def qx1(fu:Nat)(h:qua):qua:=fun f d b a c=>bif decide (b<d) then bif decide (0<=b/\b.toNat<c.length) then(c[b.toNat]?).bind fun g=>bif decide (List.length ([59,32]:Bs)+a.1.length<=bh) then bif decide (List.length (([59,32]:Bs)++a.1)+List.length ([42]:Bs)<=bh) then(oe b).bind fun e=>bif decide (List.length ((([59,32]:Bs)++a.1)++([42]:Bs))+e.length<=bh) then bif decide (List.length (((([59,32]:Bs)++a.1)++([42]:Bs))++e)+List.length ([42,61]:Bs)<=bh) then bif decide (List.length ((((([59,32]:Bs)++a.1)++([42]:Bs))++e)++([42,61]:Bs))+g.length<=bh) then bif decide (f.length+List.length (((((([59,32]:Bs)++a.1)++([42]:Bs))++e)++([42,61]:Bs))++g)<=bh) then h (f++(((((([59,32]:Bs)++a.1)++([42]:Bs))++e)++([42,61]:Bs))++g)) d (af (b+1)) a c else none else none else none else none else none else none else none else some f
def qeu(fu:Nat):Nat->qua|0=>fun _ _ _ _ _=>none|n+1=>qx1 fu (qeu fu n)
def qvp:zck:=fun a=>(qno fu a.2).bind fun b=>qeu fu fu ([]:Bs) (b.length:Int) 0 a b
def qa3:z0p:=fun d a=>bif d then bif decide (List.length ([59,32]:Bs)+a.1.length<=bh) then bif decide (List.length (([59,32]:Bs)++a.1)+List.length ([61,34]:Bs)<=bh) then(qf8 ([([92]:Bs),([92,92]:Bs),([34]:Bs),([92,34]:Bs)]:List Bs)).bind fun b=>(ue a.2 b.1 b.2.1 b.2.2.1 b.2.2.2).bind fun c=>bif decide (List.length ((([59,32]:Bs)++a.1)++([61,34]:Bs))+c.length<=bh) then bif decide (List.length (((([59,32]:Bs)++a.1)++([61,34]:Bs))++c)+List.length ([34]:Bs)<=bh) then some ((((([59,32]:Bs)++a.1)++([61,34]:Bs))++c)++([34]:Bs)) else none else none else none else none else qvp fu a
def qmv(a:Bs×Bs):Option (Bs):=(vp fu a.2).bind fun c=>bif c then bif decide (List.length ([59,32]:Bs)+a.1.length<=bh) then bif decide (List.length (([59,32]:Bs)++a.1)+List.length ([61]:Bs)<=bh) then bif decide (List.length ((([59,32]:Bs)++a.1)++([61]:Bs))+a.2.length<=bh) then some (((([59,32]:Bs)++a.1)++([61]:Bs))++a.2) else none else none else none else bif decide ((a.2.length:Int)<=60) then(qki fu a.2).bind fun b=>qa3 fu b a else qa3 fu false a
abbrev qvn:=Bs->wV->Int->Int->(Int×Int)->Option (Bs×(Int×Int))
def qsa(i:qvn):qvn:=fun d b c a e=>bif decide (a<c) then(aq b a).bind fun h=>(qmv fu h).bind fun f=>bif decide (d.length+f.length<=bh) then i (d++f) b c (af (a+1)) e else none else bif decide (4000<(d.length:Int)) then(cr 1 (-4)).bind fun j=>some (([]:Bs),j) else(gp).bind fun g=>some (d,g)
def qc7(fu:Nat):Nat->qvn|0=>fun _ _ _ _ _=>none|n+1=>qsa fu (qc7 fu n)
def uf(a:Bs×Bs×wV):Option (Bs×(Int×Int)):=(rp fu a).bind fun b=>(e7 b).bind fun c=>bif c then some (([]:Bs),b) else bif decide (a.1.length+List.length ([47]:Bs)<=bh) then bif decide (List.length (a.1++([47]:Bs))+a.2.1.length<=bh) then qc7 fu fu ((a.1++([47]:Bs))++a.2.1) a.2.2 (a.2.2.length:Int) 0 (0,0) else none else none
abbrev zud:=Int->wU->Bs->Bs->wV->Option Int
abbrev zqw:=Int->Bool->wU->Bs->Bs->wV->Option Int
def qps:zud:=fun h e a b c=>(qgt fu (a,(b,c)) ([98,111,117,110,100,97,114,121]:Bs)).bind fun i=>(uf fu (a,(b,c))).bind fun d=>bif i.2.1 then some 5 else bif decide (60<=(c.length:Int)) then some 5 else(e7 d.2).bind fun g=>bif g then some 5 else(aq e.val.1 h).bind fun f=>bif !(d.1==f.2) then some 5 else bif decide (2000<(d.1.length:Int)) then some 5 else some 0
def n7:zqw:=fun f e c a b d=>bif e then some 5 else qps fu f (Tree.node c.val c.kids) a b d
def qi3(a:Tree (wV×Bs)):Option Int:=(ye fu a.val.1).bind fun f=>cf f (fun c=>bif decide (0<(a.val.2.length:Int)) then n7 fu c.2.2.1 true (Tree.node a.val a.kids) c.1 c.2.1 [] else bif !c.2.2.2 then n7 fu c.2.2.1 true (Tree.node a.val a.kids) c.1 c.2.1 [] else(lr fu c.1 ([109,117,108,116,105,112,97,114,116]:Bs)).bind fun d=>n7 fu c.2.2.1 (!d) (Tree.node a.val a.kids) c.1 c.2.1 []) (fun b=>bif decide (0<(a.val.2.length:Int)) then n7 fu b.2.2.1 true (Tree.node a.val a.kids) b.1 b.2.1 b.2.2.2.2 else bif !b.2.2.2.1 then n7 fu b.2.2.1 true (Tree.node a.val a.kids) b.1 b.2.1 b.2.2.2.2 else(lr fu b.1 ([109,117,108,116,105,112,97,114,116]:Bs)).bind fun e=>n7 fu b.2.2.1 (!e) (Tree.node a.val a.kids) b.1 b.2.1 b.2.2.2.2)
abbrev zv9:=Bs->Int->Int->UInt8->Option Int
abbrev z1x:=Bs->Int->Int->UInt8->Bool->Option Int
abbrev qg9:=Bs->Int->Int->Option Int
def qo5(fu:Nat)(d:qg9):zv9:=fun e a c b=>bif b==13 then some 11 else bif b==10 then some 11 else bif decide (998<(af (a+1))) then some 1 else d e (af (a+1)) (af (c+1))
def y6(c:qg9):z1x:=fun d e b f a=>bif a then c d 0 (af ((af (b+1))+1)) else qo5 fu c d e b f
def qpb(e:qg9):qg9:=fun b d a=>bif decide (a<(b.length:Int)) then(aq b a).bind fun c=>bif c==13 then bif decide ((af (a+1))<(b.length:Int)) then(aq b (af (a+1))).bind fun f=>y6 fu e b d a c (f==10) else y6 fu e b d a c false else y6 fu e b d a c false else some 0
def yi(fu:Nat):Nat->qg9|0=>fun _ _ _=>none|n+1=>qpb fu (yi fu n)
def qbs(a:Bs):Option Int:=yi fu fu a 0 0
def qfg(a:UInt8):Option Bool:=bif decide (32<=a) then some (decide (a<=126)) else some false
abbrev qqz:=Bs->Int->Int->Option Bool
def qy5(fu:Nat)(e:qqz):qqz:=fun c b a=>bif decide (a<b) then(aq c a).bind fun f=>(qfg f).bind fun d=>bif !d then some false else e c b (af (a+1)) else some true
def qgl(fu:Nat):Nat->qqz|0=>fun _ _ _=>none|n+1=>qy5 fu (qgl fu n)
def qke(a:Bs):Option Bool:=qgl fu fu a (a.length:Int) 0
def qh5(b:Bs)(a:Bs):Option Bool:=(qgr b a).bind fun c=>some c
abbrev ze3:=Bs->Bs->wV->Option (Bs×Bool)
abbrev zfh:=Bool->Bs->Bs->wV->Option (Bs×Bool)
def qws:ze3:=fun b c d=>(qgt fu (b,(c,d)) ([98,111,117,110,100,97,114,121]:Bs)).bind fun a=>bif !(a.1==([]:Bs)) then bif decide ((a.1.length:Int)<=60) then(qke fu a.1).bind fun e=>bif e then(qh5 a.1 ([32]:Bs)).bind fun f=>bif a.2.1 then some (a.1,!f) else some (a.1,false) else bif a.2.1 then some (a.1,false) else some (a.1,false) else bif a.2.1 then some (a.1,false) else some (a.1,false) else bif a.2.1 then some (a.1,false) else some (a.1,false)
def xy:zfh:=fun d a b c=>bif d then some (([]:Bs),false) else qws fu a b c
def qkf(e:List (Bs×Bs)):Option (Bs×Bool):=(ye fu e).bind fun f=>cf f (fun b=>bif !b.2.2.2 then xy fu true b.1 b.2.1 [] else(lr fu b.1 ([109,117,108,116,105,112,97,114,116]:Bs)).bind fun c=>xy fu (!c) b.1 b.2.1 []) (fun a=>bif !a.2.2.2.1 then xy fu true a.1 a.2.1 a.2.2.2.2 else(lr fu a.1 ([109,117,108,116,105,112,97,114,116]:Bs)).bind fun d=>xy fu (!d) a.1 a.2.1 a.2.2.2.2)
def qez(a:Bs):Option (Bs):=some a
abbrev qq9:=Bs->UInt8->Option (Bs)
def q6n(fu:Nat)(c:qq9):qq9:=fun a b=>bif decide (0<(a.length:Int)) then(aq a (af ((a.length:Int)-1))).bind fun d=>bif d==b then bif decide (0<=af ((a.length:Int)-1)/\af ((a.length:Int)-1)<=(a.length:Int)) then c (List.take (af ((a.length:Int)-1)).toNat a) b else none else some a else some a
def qto(fu:Nat):Nat->qq9|0=>fun _ _=>none|n+1=>q6n fu (qto fu n)
def qwr(b:Bs)(a:UInt8):Option (Bs):=qto fu fu b a
abbrev qsr:=Bs->(List Bool)->Option (Bs×(List Bool))
def qxl(fu:Nat)(d:qsr):qsr:=fun a c=>bif decide (0<(a.length:Int)) then(aq a (af ((a.length:Int)-1))).bind fun e=>(qbk e c).bind fun b=>bif !b.1 then some (a,b.2) else bif decide (0<=af ((a.length:Int)-1)/\af ((a.length:Int)-1)<=(a.length:Int)) then d (List.take (af ((a.length:Int)-1)).toNat a) b.2 else none else some (a,c)
def qde(fu:Nat):Nat->qsr|0=>fun _ _=>none|n+1=>qxl fu (qde fu n)
def qcw(b:Bs)(a:List Bool):Option (Bs×(List Bool)):=qde fu fu b a
def zad(a:UInt8):Option Bool:=some ((a&&&192) != 128)
abbrev zfg:=Bs->Int->Int->Option (Int×Int)
abbrev zs1:=Bs->Int->Int->Option (Int×Int)
abbrev qvk:=Bs->Int->Int->Int->Option (Int×Int)
def qti(fu:Nat):zfg:=fun d b a=>bif decide (0<=a/\a<=b/\b<=(d.length:Int)) then(qul (List.take (b.toNat-a.toNat) (List.drop a.toNat d))).bind fun c=>bif(af (a+c.2)) != b then some (65533,1) else some c else none
def qxs:zs1:=fun b a c=>bif decide (c<0) then qti fu b a 0 else qti fu b a c
def zbf(f:qvk):qvk:=fun b c a d=>bif decide (d<=a) then(aq b a).bind fun g=>(zad g).bind fun e=>bif e then qxs fu b c a else f b c (af (a-1)) d else qxs fu b c a
def qot(fu:Nat):Nat->qvk|0=>fun _ _ _ _=>none|n+1=>zbf fu (qot fu n)
def qzp(a:Bs):Option (Int×Int):=bif(a.length:Int)==0 then some (65533,0) else(aq a (af ((a.length:Int)-1))).bind fun b=>bif decide ((b.toNat:Int)<128) then some ((b.toNat:Int),1) else qot fu fu a (a.length:Int) (af ((af ((a.length:Int)-1))-1)) (if 0>af ((a.length:Int)-4) then 0 else af ((a.length:Int)-4))
abbrev qxj:=Bs->Bs->Option (Bs)
def q62(d:qxj):qxj:=fun a c=>bif decide (0<(a.length:Int)) then(aq a (af ((a.length:Int)-1))).bind fun e=>bif decide (128<=(e.toNat:Int)) then(qzp fu a).bind fun b=>(qiz fu c b.1).bind fun g=>bif !g then some a else bif decide (0<=af ((a.length:Int)-b.2)/\af ((a.length:Int)-b.2)<=(a.length:Int)) then d (List.take (af ((a.length:Int)-b.2)).toNat a) c else none else(qiz fu c (e.toNat:Int)).bind fun f=>bif !f then some a else bif decide (0<=af ((a.length:Int)-1)/\af ((a.length:Int)-1)<=(a.length:Int)) then d (List.take (af ((a.length:Int)-1)).toNat a) c else none else some a
def qtw(fu:Nat):Nat->qxj|0=>fun _ _=>none|n+1=>q62 fu (qtw fu n)
def qqy(b:Bs)(a:Bs):Option (Bs):=qtw fu fu b a
abbrev zib:=Bs->Bs->Option (Bs)
abbrev zwn:=Bs->Bs->Bool->Option (Bs)
abbrev zvk:=Bs->Bs->Option (Bs)
abbrev zwj:=Bs->Bs->Bool->Option (Bs)
def qo4:zib:=fun b c=>(qcc fu c).bind fun a=>bif decide (a.1.length=List.length (List.replicate 256 false))&&decide (a.1.length=256) then bif a.2 then(qcw fu b a.1).bind fun d=>some d.1 else(qqy fu b c).bind fun e=>some e else none
def qks:zwn:=fun b c a=>bif a then(aq c 0).bind fun e=>(qwr fu b e).bind fun d=>some d else qo4 fu b c
def qou:zvk:=fun b a=>bif(a.length:Int)==1 then(aq a 0).bind fun c=>qks fu b a (decide (c<128)) else qks fu b a false
def qm0:zwj:=fun b c a=>bif a then some b else qou fu b c
def qd7(b:Bs)(a:Bs):Option (Bs):=bif b==([]:Bs) then qm0 fu b a true else qm0 fu b a (a==([]:Bs))
def qhg(c:Bs)(a:Bs):Option Int:=(qd7 fu c ([32,9]:Bs)).bind fun b=>bif decide (List.length ([45,45]:Bs)+a.length<=bh) then bif b==(([45,45]:Bs)++a) then some 1 else bif decide (List.length ([45,45]:Bs)+a.length<=bh) then bif decide (List.length (([45,45]:Bs)++a)+List.length ([45,45]:Bs)<=bh) then bif b==((([45,45]:Bs)++a)++([45,45]:Bs)) then some 2 else some 0 else none else none else none
abbrev zo3:=(Bs×Bs×Int×(List Bs)×(List Bs)) ⊕ (Bs×Bs×Int×(List Bs))
def qar(b:Int)(f:Bs)(c:Bs)(e:Bs)(a:Int)(g:List Bs)(d:List Bs):Option zo3:=(qhg fu f e).bind fun h=>bif h==0 then some (.inl (c,(e,(a,(g,d))))) else bif decide (0<=a) then bif decide (0<=a/\a<=(if af (b-2)>a then af (b-2) else a)/\(if af (b-2)>a then af (b-2) else a)<=(c.length:Int)) then bif decide (List.length (d++([List.take ((if af (b-2)>a then af (b-2) else a).toNat-a.toNat) (List.drop a.toNat c)]:List Bs))<=bg) then bif h==2 then some (.inr (c,(e,(a,d++([List.take ((if af (b-2)>a then af (b-2) else a).toNat-a.toNat) (List.drop a.toNat c)]:List Bs))))) else some (.inl (c,(e,(if(c.length:Int)<af ((af (b+(f.length:Int)))+2) then(c.length:Int) else af ((af (b+(f.length:Int)))+2),(g,d++([List.take ((if af (b-2)>a then af (b-2) else a).toNat-a.toNat) (List.drop a.toNat c)]:List Bs)))))) else none else none else bif h==2 then some (.inr (c,(e,(a,d)))) else some (.inl (c,(e,(if(c.length:Int)<af ((af (b+(f.length:Int)))+2) then(c.length:Int) else af ((af (b+(f.length:Int)))+2),(g,d)))))
abbrev qol:=(Bs×Bs×Bs×Int×(List Bs)) ⊕ (Bs×Bs×Bs×Int×(List Bs)×(List Bs))
abbrev quw:=Int->Bs->Bs->Bs->Int->(List Bs)->(List Bs)->Option qol
def qwg(k:quw):quw:=fun a b i j h d c=>bif decide (a<(b.length:Int)) then bif decide (0<=a/\a<=(b.length:Int)) then bif decide (0<List.length ([13,10]:Bs)) then(oo (List.drop a.toNat b) ([13,10]:Bs)).bind fun e=>bif decide (0<=e) then bif decide (0<=a/\a<=af (a+e)/\af (a+e)<=(b.length:Int)) then(qar fu a (List.take ((af (a+e)).toNat-a.toNat) (List.drop a.toNat b)) i j h d c).bind fun l=>cf l (fun g=>k (af ((af (a+e))+2)) b g.1 g.2.1 g.2.2.1 g.2.2.2.1 g.2.2.2.2) (fun m=>some (.inl (b,m))) else none else bif decide (0<=a/\a<=(b.length:Int)/\(b.length:Int)<=(b.length:Int)) then(qar fu a (List.take ((b.length:Int).toNat-a.toNat) (List.drop a.toNat b)) i j h d c).bind fun p=>cf p (fun f=>k (b.length:Int) b f.1 f.2.1 f.2.2.1 f.2.2.2.1 f.2.2.2.2) (fun o=>some (.inl (b,o))) else none else none else none else some (.inr (b,(i,(j,(h,(d,c))))))
def ws(fu:Nat):Nat->quw|0=>fun _ _ _ _ _ _ _=>none|n+1=>qwg fu (ws fu n)
def qql(e:Bs)(c:Bs)(d:Bs)(f:Int)(b:List Bs)(a:List Bs):Option qol:=ws fu fu 0 e c d f b a
def qnr(b:Bs)(e:Bs):Option ((List Bs)):=(qez b).bind fun f=>(qql fu f b e (-1) [] []).bind fun d=>cf d (fun c=>some c.2.2.2.2) (fun a=>bif decide (0<=a.2.2.2.1) then bif decide (0<=a.2.2.2.1/\a.2.2.2.1<=(a.2.1.length:Int)) then bif decide (List.length (a.2.2.2.2.2++([List.drop a.2.2.2.1.toNat a.2.1]:List Bs))<=bg) then some (a.2.2.2.2.2++([List.drop a.2.2.2.1.toNat a.2.1]:List Bs)) else none else none else some a.2.2.2.2.2)
def wd(e:List (Bs×Bs))(c:Bs)(d:Int):Option ((List Bs)):=(qkf fu e).bind fun a=>bif !a.2 then some [] else bif decide (8<=d) then some [] else(qnr fu c a.1).bind fun b=>some b
def qjs(a:wU×Int):Option Int:=(qeh fu a.1.val.1).bind fun c=>(e7 c).bind fun d=>bif d then some c.1 else bif decide (0<(a.1.kids.length:Int)) then(qi3 fu (Tree.node a.1.val a.1.kids)).bind fun f=>some f else bif decide (12000<(a.1.val.2.length:Int)) then some 1 else(qbs fu a.1.val.2).bind fun b=>bif b != 0 then some b else(wd fu a.1.val.1 a.1.val.2 a.2).bind fun e=>bif decide (0<(e.length:Int)) then some 5 else some 0
def qvj(g:Int)(e:List (Bs×Bs))(f:Bs)(h:List wU)(d:Int)(b:Int×Int):Option (((Int×Int)) ⊕ ((Int×Int))):=(qjs fu ((Tree.node (e,f) h),d)).bind fun a=>bif a != 0 then(cr a g).bind fun c=>some (.inl c) else some (.inr b)
abbrev qip:=(Int×(Int×Int)) ⊕ (Int×(Int×Int))
abbrev qmf:=wU->Int->Int->(Int×Int)->Option qip
abbrev qqb:=Int->(List wU)->Int->Int->Int->(Int×Int)->Option qip
def qok(c:qmf)(fu:Nat)(l:qqb):qqb:=fun h b d a f e=>bif decide (a<d) then(aq b a).bind fun g=>(c (Tree.node g.val g.kids) (af (h+1)) f e).bind fun k=>cf k (fun j=>some (.inl j)) (fun i=>l h b d (af (a+1)) i.1 i.2) else some (.inr (f,e))
def qcm(a:qmf)(fu:Nat):Nat->qqb|0=>fun _ _ _ _ _ _=>none|n+1=>qok a fu (qcm a fu n)
def qjw(a:qmf)(fu:Nat)(b:Tree (wV×Bs))(d:Int)(c:Int)(h:Int×Int):Option qip:=(qvj fu c b.val.1 b.val.2 b.kids d h).bind fun f=>cf f (fun e=>some (.inl (c,e))) (fun g=>qcm a fu fu d b.kids (b.kids.length:Int) 0 (af (c+1)) g)
def qbq(fu:Nat):Nat->qmf|0=>fun _ _ _ _=>none|n+1=>qjw (qbq fu n) fu
def q39(c:Tree (wV×Bs))(a:Int)(b:Int)(d:Int×Int):Option qip:=qbq fu fu c a b d
abbrev zm9:=(wU×(Int×Int)) ⊕ (wU×(Int×Int))
def qj0(a:Tree (wV×Bs))(c:Int×Int):Option zm9:=(q39 fu (Tree.node a.val a.kids) 0 0 c).bind fun d=>cf d (fun b=>some (.inl ((Tree.node a.val a.kids),b.2))) (fun e=>some (.inr ((Tree.node a.val a.kids),e.2)))
def zk(a:Tree (wV×Bs)):Option ((Int×Int)):=(ql1 (Tree.node a.val a.kids)).bind fun d=>(qlt fu (Tree.node d.val d.kids) (0,0) false).bind fun h=>cf h (fun f=>some f.2.1) (fun e=>bif e.2.2 then(cr 2 (-2)).bind fun j=>some j else(ql1 (Tree.node a.val a.kids)).bind fun c=>(qj0 fu (Tree.node c.val c.kids) e.2.1).bind fun i=>cf i (fun g=>some g.2) (fun k=>(gp).bind fun b=>some b))
abbrev qyi:=Bs->wV->Int->Int->Int->Int->(List Bs)->Bs->Option (Bs)
abbrev qb2:=Bs->wV->Int->Int->Bs->Option (Bs)
def qre(fu:Nat)(k:qb2)(j:qyi):qyi:=fun i e d f g a c b=>bif decide (a<g) then bif decide (0<=a/\a.toNat<c.length) then(c[a.toNat]?).bind fun h=>bif decide (List.length (b++h)<=bg) then bif decide (List.length ((b++h)++([13,10]:Bs))<=bg) then j i e d f g (af (a+1)) c ((b++h)++([13,10]:Bs)) else none else none else none else k i e d (af (f+1)) b
def y7(fu:Nat)(a:qb2):Nat->qyi|0=>fun _ _ _ _ _ _ _ _=>none|n+1=>qre fu a (y7 fu a n)
def qyh(h:qb2):qb2:=fun e d c b a=>bif decide (b<c) then(aq d b).bind fun g=>(w7 fu g.1 g.2).bind fun f=>y7 fu h fu e d c b (f.2.length:Int) 0 f.2 a else bif decide (List.length (a++([13,10]:Bs))<=bg) then bif decide (List.length ((a++([13,10]:Bs))++e)<=bg) then some ((a++([13,10]:Bs))++e) else none else none
def xg(fu:Nat):Nat->qb2|0=>fun _ _ _ _ _=>none|n+1=>qyh fu (xg fu n)
def qvf(a:List (Bs×Bs))(b:Bs):Option (Bs):=xg fu fu b a (a.length:Int) 0 []
abbrev qk8:=wV×Bs
abbrev qj:=wU->Option qk8
def qn1(a:qj)(fu:Nat)(b:Tree (wV×Bs)):Option (Bs):=(a (Tree.node b.val b.kids)).bind fun c=>(qvf fu c.1 c.2).bind fun d=>some d
abbrev qq6:=(List wU)->Int->Int->(List Bs)->Option ((List Bs))
def qux(b:qj)(fu:Nat)(h:qq6):qq6:=fun g d a c=>bif decide (a<d) then(aq g a).bind fun f=>(qn1 b fu (Tree.node f.val f.kids)).bind fun e=>bif decide (List.length (c++([e]:List Bs))<=bg) then h g d (af (a+1)) (c++([e]:List Bs)) else none else some c
def qd8(a:qj)(fu:Nat):Nat->qq6|0=>fun _ _ _ _=>none|n+1=>qux a fu (qd8 a fu n)
def qun(a:qj)(fu:Nat)(b:List wU):Option ((List Bs)):=qd8 a fu fu b (b.length:Int) 0 []
def qx6(b:Bs)(a:Bs):Option Bool:=bif decide ((a.length:Int)<=(b.length:Int)) then bif decide (0<=(a.length:Int)/\(a.length:Int)<=(b.length:Int)) then some ((List.take (a.length:Int).toNat b)==a) else none else some false
def qhw(b:Bs)(a:Bs):Option Bool:=(qx6 b a).bind fun c=>some c
abbrev q3k:=(Bs×Bool) ⊕ (Bs×Bool)
def qdz(e:Int)(b:Bs)(a:Bs)(d:Bool):Option q3k:=bif decide (List.length ([45,45]:Bs)+a.length<=bh) then(qhw b (([45,45]:Bs)++a)).bind fun c=>bif c then some (.inl (a,true)) else some (.inr (a,d)) else none
abbrev qoo:=(Bs×Bs×Bool) ⊕ (Bs×Bs×Bool)
abbrev qo8:=Int->Bs->Bs->Bool->Option qoo
def qq5(fu:Nat)(g:qo8):qo8:=fun a b e d=>bif decide (a<(b.length:Int)) then bif decide (0<=a/\a<=(b.length:Int)) then bif decide (0<List.length ([13,10]:Bs)) then(oo (List.drop a.toNat b) ([13,10]:Bs)).bind fun c=>bif decide (0<=c) then bif decide (0<=a/\a<=af (a+c)/\af (a+c)<=(b.length:Int)) then(qdz a (List.take ((af (a+c)).toNat-a.toNat) (List.drop a.toNat b)) e d).bind fun j=>cf j (fun i=>some (.inl (b,i))) (fun h=>g (af ((af (a+c))+2)) b h.1 h.2) else none else bif decide (0<=a/\a<=(b.length:Int)/\(b.length:Int)<=(b.length:Int)) then(qdz a (List.take ((b.length:Int).toNat-a.toNat) (List.drop a.toNat b)) e d).bind fun k=>cf k (fun l=>some (.inl (b,l))) (fun f=>g (b.length:Int) b f.1 f.2) else none else none else none else some (.inr (b,(e,d)))
def zd(fu:Nat):Nat->qo8|0=>fun _ _ _ _=>none|n+1=>qq5 fu (zd fu n)
def qvu(c:Bs)(a:Bs)(b:Bool):Option qoo:=zd fu fu 0 c a b
def qju(d:Bs)(c:Bs):Option (Bool×Bs):=(qez d).bind fun e=>(qvu fu e c false).bind fun b=>cf b (fun a=>some (a.2.2,a.2.1)) (fun f=>some (false,f.2.1))
abbrev qvr:=(List Bs)->Int->Int->Bs->Option (Int×Bs)
def qut(g:qvr):qvr:=fun e d a c=>bif decide (a<d) then(aq e a).bind fun f=>(qju fu f c).bind fun b=>bif b.1 then some (a,b.2) else g e d (af (a+1)) b.2 else some ((-1),c)
def qe7(fu:Nat):Nat->qvr|0=>fun _ _ _ _=>none|n+1=>qut fu (qe7 fu n)
def qrr(a:List Bs)(b:Bs):Option (Int×Bs):=qe7 fu fu a (a.length:Int) 0 b
def qdp(c:List Bs)(b:Bs):Option (Bool×Bs):=(qrr fu c b).bind fun a=>some (decide (0<=a.1),a.2)
abbrev qwd:=(List Bs)->Int->Option (Bs)
def qrn(e:qwd):qwd:=fun d a=>(oe a).bind fun c=>bif decide (List.length ([98]:Bs)+c.length<=bh) then(qdp fu d (([98]:Bs)++c)).bind fun b=>bif !b.1 then some b.2 else e d (af (a+1)) else none
def qgo(fu:Nat):Nat->qwd|0=>fun _ _=>none|n+1=>qrn fu (qgo fu n)
def qxz(a:List Bs):Option (Bs):=qgo fu fu a 0
abbrev qu5:=Bs->Int->Int->wV->(List Bs)->Bs->Option qk8
def qxd(h:qj)(fu:Nat)(i:qu5):qu5:=fun b e c f d a=>bif decide (c<e) then bif decide (0<=c/\c.toNat<d.length) then(d[c.toNat]?).bind fun g=>bif decide (List.length ([45,45]:Bs)+b.length<=bh) then bif decide (List.length (([45,45]:Bs)++b)+List.length ([13,10]:Bs)<=bh) then bif decide (List.length (a++((([45,45]:Bs)++b)++([13,10]:Bs)))<=bg) then bif decide (List.length ((a++((([45,45]:Bs)++b)++([13,10]:Bs)))++g)<=bg) then bif decide (List.length (((a++((([45,45]:Bs)++b)++([13,10]:Bs)))++g)++([13,10]:Bs))<=bg) then i b e (af (c+1)) f d (((a++((([45,45]:Bs)++b)++([13,10]:Bs)))++g)++([13,10]:Bs)) else none else none else none else none else none else none else bif decide (List.length ([45,45]:Bs)+b.length<=bh) then bif decide (List.length (([45,45]:Bs)++b)+List.length ([45,45,13,10]:Bs)<=bh) then bif decide (List.length (a++((([45,45]:Bs)++b)++([45,45,13,10]:Bs)))<=bg) then some (f,a++((([45,45]:Bs)++b)++([45,45,13,10]:Bs))) else none else none else none
def zq(a:qj)(fu:Nat):Nat->qu5|0=>fun _ _ _ _ _ _=>none|n+1=>qxd a fu (zq a fu n)
def qi2(a:qj)(fu:Nat)(f:Tree (wV×Bs)):Option qk8:=bif(f.kids.length:Int)==0 then some f.val else(qun a fu f.kids).bind fun h=>(qxz fu h).bind fun e=>(ye fu f.val.1).bind fun p=>cf p (fun d=>(cd []).bind fun l=>bif decide (List.length (l++([(([98,111,117,110,100,97,114,121]:Bs),e)]:List (Bs×Bs)))<=bg) then(cd f.val.1).bind fun j=>(uf fu (d.1,(d.2.1,l++([(([98,111,117,110,100,97,114,121]:Bs),e)]:List (Bs×Bs))))).bind fun o=>bif decide (0<=d.2.2.1/\d.2.2.1.toNat<j.length) then(j[d.2.2.1.toNat]?).bind fun m=>zq a fu fu e (h.length:Int) 0 (List.set j d.2.2.1.toNat (m.1,o.1)) h [] else none else none) (fun b=>(cd b.2.2.2.2).bind fun g=>bif decide (List.length (g++([(([98,111,117,110,100,97,114,121]:Bs),e)]:List (Bs×Bs)))<=bg) then(cd f.val.1).bind fun c=>(uf fu (b.1,(b.2.1,g++([(([98,111,117,110,100,97,114,121]:Bs),e)]:List (Bs×Bs))))).bind fun k=>bif decide (0<=b.2.2.1/\b.2.2.1.toNat<c.length) then(c[b.2.2.1.toNat]?).bind fun i=>zq a fu fu e (h.length:Int) 0 (List.set c b.2.2.1.toNat (i.1,k.1)) h [] else none else none)
def tn(fu:Nat):Nat->qj|0=>fun _=>none|n+1=>qi2 (tn fu n) fu
def q42(a:Tree (wV×Bs)):Option qk8:=tn fu fu a
abbrev qxv:=wV->Int->Int->Int->Int->(wV×Bs)->(List Bs)->Bs->Option (Bs)
abbrev qg4:=wV->Int->Int->(wV×Bs)->Bs->Option (Bs)
def qvx(fu:Nat)(k:qg4)(j:qxv):qxv:=fun e f d g a h c b=>bif decide (a<g) then bif decide (0<=a/\a.toNat<c.length) then(c[a.toNat]?).bind fun i=>bif decide (List.length (b++i)<=bg) then bif decide (List.length ((b++i)++([13,10]:Bs))<=bg) then j e f d g (af (a+1)) h c ((b++i)++([13,10]:Bs)) else none else none else none else k e f (af (d+1)) h b
def qay(fu:Nat)(a:qg4):Nat->qxv|0=>fun _ _ _ _ _ _ _ _=>none|n+1=>qvx fu a (qay fu a n)
def qqe(h:qg4):qg4:=fun d e b c a=>bif decide (b<e) then(aq d b).bind fun g=>(w7 fu g.1 g.2).bind fun f=>qay fu h fu d e b (f.2.length:Int) 0 c f.2 a else bif decide (List.length (a++([13,10]:Bs))<=bg) then bif decide (List.length ((a++([13,10]:Bs))++c.2)<=bg) then some ((a++([13,10]:Bs))++c.2) else none else none
def wm(fu:Nat):Nat->qg4|0=>fun _ _ _ _ _=>none|n+1=>qqe fu (wm fu n)
def qxc(a:wV×Bs):Option (Bs):=wm fu fu a.1 (a.1.length:Int) 0 a []
def qlk(d:Bs):Option ((Int×Int)):=(qbs fu d).bind fun a=>bif a==11 then(cr 11 (-5)).bind fun b=>some b else bif a==1 then(cr 1 (-6)).bind fun e=>some e else(gp).bind fun c=>some c
def qgb(a:wV×Bs):Option ((Int×Int)):=(qeh fu a.1).bind fun b=>(e7 b).bind fun c=>bif c then some b else(qxc fu a).bind fun f=>bif decide (12000<(f.length:Int)) then(cr 1 (-4)).bind fun d=>some d else(qlk fu a.2).bind fun e=>some e
abbrev zov:=(wV×Bs)×(Int×Int)
def qbv(a:Tree (wV×Bs)):Option zov:=(zk fu (Tree.node a.val a.kids)).bind fun e=>(e7 e).bind fun i=>bif i then some (([],[]),e) else(q42 fu (Tree.node a.val a.kids)).bind fun f=>(cd f.1).bind fun b=>(cd f.2).bind fun c=>(qgb fu (b,c)).bind fun d=>(e7 d).bind fun j=>bif j then(cr d.1 (-3)).bind fun h=>some (([],[]),h) else(gp).bind fun g=>some ((b,c),g)
def qa6(a:Bs×Bs):Option Bool:=(lr fu a.1 ([98,111,117,110,100,97,114,121]:Bs)).bind fun b=>some b
abbrev qq8:=wV->Int->Int->Option Int
def qtu(f:qq8):qq8:=fun c b a=>bif decide (a<b) then(aq c a).bind fun e=>(qa6 fu e).bind fun d=>bif d then some a else f c b (af (a+1)) else some (-1)
def qbx(fu:Nat):Nat->qq8|0=>fun _ _ _=>none|n+1=>qtu fu (qbx fu n)
def qma(a:List (Bs×Bs)):Option Int:=qbx fu fu a (a.length:Int) 0
abbrev qyp:=wV->Int->Int->Option (wV)
def q5o(f:qyp):qyp:=fun a b c=>bif decide (c<(a.length:Int)) then(aq a c).bind fun e=>(qa6 fu e).bind fun d=>bif !d then(aq a b).bind fun g=>none else f a b (af (c+1)) else bif decide (0<=b/\b<=(a.length:Int)) then none else none
def qtp(fu:Nat):Nat->qyp|0=>fun _ _ _=>none|n+1=>q5o fu (qtp fu n)
def q6l(a:List (Bs×Bs)):Option (wV):=(qma fu a).bind fun b=>bif b==(-1) then some a else qtp fu fu a b (af (b+1))
abbrev qxf:=Int->Int->wV->Option (wV)
def qpn(e:qxf):qxf:=fun b c a=>bif decide (c<(a.length:Int)) then bif decide (0<=c/\c.toNat<a.length) then(a[c.toNat]?).bind fun d=>(qa6 fu d).bind fun f=>bif !f then bif decide (0<=b/\b.toNat<a.length) then(a[b.toNat]?).bind fun g=>e (af (b+1)) (af (c+1)) (List.set a b.toNat d) else none else e b (af (c+1)) a else none else bif decide (0<=b/\b.toNat<a.length) then bif decide (0<=b/\b<=(List.length (List.take b.toNat a++List.replicate (a.length-b.toNat) (([]:Bs),([]:Bs))):Int)) then some (List.take b.toNat (List.take b.toNat a++List.replicate (a.length-b.toNat) (([]:Bs),([]:Bs)))) else none else none
def qdq(fu:Nat):Nat->qxf|0=>fun _ _ _=>none|n+1=>qpn fu (qdq fu n)
def qhj(a:List (Bs×Bs)):Option (wV):=(qma fu a).bind fun b=>bif b==(-1) then some a else qdq fu fu b (af (b+1)) a
abbrev zo1:=Bool×wV
def qg8(h:List (Bs×Bs)):Option zo1:=(ye fu h).bind fun m=>cf m (fun c=>(q6l fu []).bind fun k=>(uf fu (c.1,(c.2.1,k))).bind fun i=>(e7 i.2).bind fun l=>bif l then some (false,[]) else(cd h).bind fun g=>bif decide (0<=c.2.2.1/\c.2.2.1.toNat<g.length) then(g[c.2.2.1.toNat]?).bind fun o=>some (true,List.set g c.2.2.1.toNat (o.1,i.1)) else none) (fun b=>(qhj fu b.2.2.2.2).bind fun j=>(uf fu (b.1,(b.2.1,j))).bind fun d=>(e7 d.2).bind fun f=>bif f then some (false,[]) else(cd h).bind fun a=>bif decide (0<=b.2.2.1/\b.2.2.1.toNat<a.length) then(a[b.2.2.1.toNat]?).bind fun e=>some (true,List.set a b.2.2.1.toNat (e.1,d.1)) else none)
def qng(b:Bs)(a:UInt8):Option Int:=(vd b a).bind fun c=>some c
def qsp(b:Bs)(a:Bs):Option Bool:=some (b==a)
def qs2(a:Bs)(b:Bs):Option Bool:=bif decide ((b.length:Int)<=(a.length:Int)) then bif decide (0<=af ((a.length:Int)-(b.length:Int))/\af ((a.length:Int)-(b.length:Int))<=(a.length:Int)) then(qsp (List.drop (af ((a.length:Int)-(b.length:Int))).toNat a) b).bind fun c=>some c else none else some false
def qib(a:Bs)(b:Bs):Option (Bs):=(qs2 a b).bind fun c=>bif c then bif decide (0<=af ((a.length:Int)-(b.length:Int))/\af ((a.length:Int)-(b.length:Int))<=(a.length:Int)) then some (List.take (af ((a.length:Int)-(b.length:Int))).toNat a) else none else some a
def qi5(a:Bs):Option (Bs×Int):=(qng a 10).bind fun b=>bif decide (b<0) then some (a,(a.length:Int)) else bif decide (0<=b/\b<=(a.length:Int)) then bif decide (0<List.length ([13]:Bs)) then(qib (List.take b.toNat a) ([13]:Bs)).bind fun c=>some (c,af (b+1)) else none else none
def qjx(b:Bs):Option Bool:=(w7 fu b ([]:Bs)).bind fun c=>(e7 c.1).bind fun a=>some (!a)
def qne(c:Bs):Option ((Bs×Bs)×Bool):=(ra c ([58]:Bs)).bind fun a=>(qd7 fu a.1 ([32,9]:Bs)).bind fun b=>bif a.2.2 then(qjx fu b).bind fun d=>some ((b,a.2.1),d) else some ((b,a.2.1),false)
abbrev zgj:=Bs->Bs->Option (Bs)
abbrev zk4:=Bs->Bs->Bool->Option (Bs)
abbrev zkp:=Bs->Bs->Option (Bs)
abbrev zgm:=Bs->Bs->Bool->Option (Bs)
def qsy:zgj:=fun d b=>(qcc fu b).bind fun a=>bif decide (a.1.length=List.length (List.replicate 256 false))&&decide (a.1.length=256) then bif a.2 then(qcw fu d a.1).bind fun c=>(qfh fu c.1 c.2).bind fun g=>some g.1 else(qqy fu d b).bind fun e=>(qpd fu e b).bind fun f=>some f else none
def qnb:zk4:=fun c b a=>bif a then(aq b 0).bind fun g=>(qwr fu c g).bind fun e=>(aq b 0).bind fun d=>(qpu fu e d).bind fun f=>some f else qsy fu c b
def qsw:zkp:=fun b a=>bif(a.length:Int)==1 then(aq a 0).bind fun c=>qnb fu b a (decide (c<128)) else qnb fu b a false
def qja:zgm:=fun b c a=>bif a then some b else qsw fu b c
def qc3(b:Bs)(a:Bs):Option (Bs):=bif b==([]:Bs) then qja fu b a true else qja fu b a (a==([]:Bs))
abbrev xj:=Int×(Int×Int)×wV
abbrev qxa:=Int->Int->Int->(Int×Int)->wV->Int->Int->Int->Bs->Option xj
abbrev qpq:=Int->Int->(Int×Int)->Int->Int->Int->(List Bs)->wV->Option xj
abbrev zy8:=Int->(Int×Int)->wV->Option xj
abbrev zvy:=Bs->Int->Bs->Int->(Int×Int)->wV->Option xj
abbrev zry:=Bs->Int->Bs->Int->Bool->(Int×Int)->wV->Option xj
abbrev qds:=Bs->Int->(Int×Int)->wV->Option xj
def qyl(p:qxa):qxa:=fun k g a h b d c e i=>bif decide (a<g) then bif decide (0<=a/\a.toNat<b.length) then(b[a.toNat]?).bind fun o=>(vt fu o.2 d c e i).bind fun f=>(qc3 fu f.1 ([32,9]:Bs)).bind fun j=>bif decide (4000<(j.length:Int)) then(cr 1 a).bind fun l=>some (0,(l,[])) else bif decide (0<=a/\a.toNat<b.length) then(b[a.toNat]?).bind fun q=>p k g (af (a+1)) h (List.set b a.toNat (q.1,j)) f.2.1 f.2.2.1 f.2.2.2.1 f.2.2.2.2 else none else none else(gp).bind fun m=>some (k,(m,b))
def qg0(fu:Nat):Nat->qxa|0=>fun _ _ _ _ _ _ _ _ _=>none|n+1=>qyl fu (qg0 fu n)
def qes(p:qpq):qpq:=fun j f h b c d g a=>bif decide (0<f) then bif decide ((0:Int)<=0/\(0:Int).toNat<a.length) then(a[(0:Int).toNat]?).bind fun m=>(wv fu m.2 b c d g).bind fun e=>(qc3 fu e.1 ([32,9]:Bs)).bind fun i=>bif decide (4000<(i.length:Int)) then(cr 1 0).bind fun k=>some (0,(k,[])) else bif decide ((0:Int)<=0/\(0:Int).toNat<a.length) then(a[(0:Int).toNat]?).bind fun o=>qg0 fu fu j f 1 h (List.set a ((0:Int).toNat) (o.1,i)) e.2.1 e.2.2.1 e.2.2.2.1 e.2.2.2.2 else none else none else(gp).bind fun l=>some (j,(l,a))
def tg(fu:Nat):Nat->qpq|0=>fun _ _ _ _ _ _ _ _=>none|n+1=>qes fu (tg fu n)
def qb9:zy8:=fun d c a=>bif decide (60<(a.length:Int)) then(cr 2 (-2)).bind fun e=>some (0,(e,[])) else(qf8 ([([0]:Bs),([32]:Bs),([13]:Bs),([32]:Bs)]:List Bs)).bind fun b=>tg fu fu d (a.length:Int) c b.1 b.2.1 b.2.2.1 b.2.2.2 a
def qme(f:qds):zvy:=fun h d g e b a=>(qne fu g).bind fun c=>bif !c.2 then qb9 fu d b a else bif decide (List.length (a++([c.1]:List (Bs×Bs)))<=bg) then f h (af (d+e)) b (a++([c.1]:List (Bs×Bs))) else none
def xi(h:qds):zry:=fun i e c f d b a=>bif d then bif decide (0<=af ((a.length:Int)-1)/\(af ((a.length:Int)-1)).toNat<a.length) then(a[(af ((a.length:Int)-1)).toNat]?).bind fun g=>bif decide (g.2.length+c.length<=bh) then bif decide (0<=af ((a.length:Int)-1)/\(af ((a.length:Int)-1)).toNat<a.length) then(a[(af ((a.length:Int)-1)).toNat]?).bind fun j=>h i (af (e+f)) b (List.set a ((af ((a.length:Int)-1)).toNat) (j.1,g.2++c)) else none else none else none else qme fu h i e c f b a
def qx9(f:qds):qds:=fun e c b a=>bif decide (c<(e.length:Int)) then bif decide (0<=c/\c<=(e.length:Int)) then(qi5 (List.drop c.toNat e)).bind fun d=>bif d.1==([]:Bs) then qb9 fu (af (c+d.2)) b a else(aq d.1 0).bind fun g=>(t7 g).bind fun h=>bif h then xi fu f e c d.1 d.2 (decide (0<(a.length:Int))) b a else xi fu f e c d.1 d.2 false b a else none else qb9 fu c b a
def xl(fu:Nat):Nat->qds|0=>fun _ _ _ _=>none|n+1=>qx9 fu (xl fu n)
def qnd(a:Bs):Option xj:=bif decide (12000<(a.length:Int)) then(cr 1 (-1)).bind fun b=>some (0,(b,[])) else xl fu fu a 0 (0,0) []
abbrev qky:=wU×Bool×(Int×Int×Int)
abbrev qa1:=Bs->Int->(Int×Int×Int)->Option qky
abbrev q6h:=wU×Bool×(Int×Int×Int)
abbrev qve:=Int->Int->Int->(Int×Int×Int)->(List Bs)->wV->(List wU)->Option q6h
def qwk(d:qa1)(fu:Nat)(k:qve):qve:=fun i g a h b f c=>bif decide (a<g) then bif decide (0<=a/\a.toNat<b.length) then(b[a.toNat]?).bind fun j=>(d j (af (i+1)) h).bind fun e=>bif !e.2.1 then some ((Tree.node ([],[]) []),(false,e.2.2)) else bif decide (List.length (c++([(Tree.node e.1.val e.1.kids)]:List wU))<=bg) then k i g (af (a+1)) e.2.2 b f (c++([(Tree.node e.1.val e.1.kids)]:List wU)) else none else none else some ((Tree.node (f,[]) c),(true,h))
def w8(a:qa1)(fu:Nat):Nat->qve|0=>fun _ _ _ _ _ _ _=>none|n+1=>qwk a fu (w8 a fu n)
def vn(a:qa1)(fu:Nat)(h:Bs)(g:Int)(b:Int×Int×Int)(d:List (Bs×Bs)):Option q6h:=(cd d).bind fun i=>(cd h).bind fun e=>(wd fu d h g).bind fun c=>bif(c.length:Int)==0 then some ((Tree.node (i,e) []),(true,(af (b.1+1),b.2))) else(qg8 fu d).bind fun f=>bif !f.1 then some ((Tree.node (i,e) []),(true,(af (b.1+1),b.2))) else w8 a fu fu g (c.length:Int) 0 (af (b.1+1),b.2) c f.2 []
def qnq(a:qa1)(fu:Nat)(e:Bs)(h:Int)(c:Int×Int×Int):Option qky:=(qnd fu e).bind fun b=>(e7 b.2.1).bind fun f=>bif f then(cr b.2.1.1 (-8)).bind fun i=>some ((Tree.node ([],[]) []),(false,(c.1,i))) else bif c.1==40 then(cr 2 (-7)).bind fun g=>some ((Tree.node ([],[]) []),(false,(c.1,g))) else bif decide (0<=b.1/\b.1<=(e.length:Int)) then(vn a fu (List.drop b.1.toNat e) h c b.2.2).bind fun d=>some ((Tree.node d.1.val d.1.kids),d.2) else none
def ru(fu:Nat):Nat->qa1|0=>fun _ _ _=>none|n+1=>qnq (ru fu n) fu
def zv4(c:Bs)(a:Int)(b:Int×Int×Int):Option qky:=ru fu fu c a b
abbrev q3a:=wU×Bool×(Int×Int×Int)
abbrev qx2:=Int->Int->Int->(Int×Int×Int)->(List Bs)->wV->(List wU)->Option q3a
def za5(j:qx2):qx2:=fun h f a g b e c=>bif decide (a<f) then bif decide (0<=a/\a.toNat<b.length) then(b[a.toNat]?).bind fun i=>(zv4 fu i (af (h+1)) g).bind fun d=>bif !d.2.1 then some ((Tree.node ([],[]) []),(false,d.2.2)) else bif decide (List.length (c++([(Tree.node d.1.val d.1.kids)]:List wU))<=bg) then j h f (af (a+1)) d.2.2 b e (c++([(Tree.node d.1.val d.1.kids)]:List wU)) else none else none else some ((Tree.node (e,[]) c),(true,g))
def qeo(fu:Nat):Nat->qx2|0=>fun _ _ _ _ _ _ _=>none|n+1=>za5 fu (qeo fu n)
def qh0(b:List (Bs×Bs))(f:Bs)(g:Int)(a:Int×Int×Int):Option q3a:=(cd b).bind fun h=>(cd f).bind fun d=>(wd fu b f g).bind fun c=>bif(c.length:Int)==0 then some ((Tree.node (h,d) []),(true,(af (a.1+1),a.2))) else(qg8 fu b).bind fun e=>bif !e.1 then some ((Tree.node (h,d) []),(true,(af (a.1+1),a.2))) else qeo fu fu g (c.length:Int) 0 (af (a.1+1),a.2) c e.2 []
abbrev zpa:=wU×(Int×Int)
def wl(b:wV×Bs):Option zpa:=(qgb fu b).bind fun d=>(e7 d).bind fun e=>bif e then some ((Tree.node ([],[]) []),d) else(qh0 fu b.1 b.2 0 (0,(0,0))).bind fun a=>bif !a.2.1 then some ((Tree.node ([],[]) []),a.2.2.2) else(zk fu (Tree.node a.1.val a.1.kids)).bind fun c=>(e7 c).bind fun f=>bif f then(cr c.1 (-9)).bind fun g=>some ((Tree.node ([],[]) []),g) else(gp).bind fun h=>some ((Tree.node a.1.val a.1.kids),h)
abbrev qwl:=wU
abbrev qck:=wU->Option qwl
abbrev qzx:=(List wU)
abbrev qpw:=(List wU)->Int->Int->(List wU)->Option qzx
def zba(b:qck)(fu:Nat)(h:qpw):qpw:=fun g e a c=>bif decide (a<e) then(aq g a).bind fun f=>(b (Tree.node f.val f.kids)).bind fun d=>bif decide (List.length (c++([(Tree.node d.val d.kids)]:List wU))<=bg) then h g e (af (a+1)) (c++([(Tree.node d.val d.kids)]:List wU)) else none else some c
def qte(a:qck)(fu:Nat):Nat->qpw|0=>fun _ _ _ _=>none|n+1=>zba a fu (qte a fu n)
def q3q(a:qck)(fu:Nat)(b:List wU):Option qzx:=qte a fu fu b (b.length:Int) 0 []
def qpt(a:qck)(fu:Nat)(b:Tree (wV×Bs)):Option qwl:=(cd b.val.1).bind fun d=>(cd b.val.2).bind fun c=>(q3q a fu b.kids).bind fun e=>some (Tree.node (d,c) e)
def qx0(fu:Nat):Nat->qck|0=>fun _=>none|n+1=>qpt (qx0 fu n) fu
def zqo(a:Tree (wV×Bs)):Option qwl:=qx0 fu fu a
abbrev qqa:=wU×(Int×Int)
abbrev zkx:=Int->Int->Int->Int->Bool->wU->(Int×Int)->(List Int)->Option qqa
abbrev qir:=Int->Int->wU->(Int×Int)->(List Int)->Option qqa
def qsd(fu:Nat)(k:qir):zkx:=fun i h e c d f a b=>bif d then(cr 3 i).bind fun j=>some ((Tree.node ([],[]) []),j) else(aq f.kids h).bind fun g=>k e (af (c+1)) (Tree.node g.val g.kids) a b
def q98(h:qir):qir:=fun d a b e c=>bif decide (a<d) then bif decide (0<=a/\a.toNat<c.length) then(c[a.toNat]?).bind fun f=>bif decide (f<0) then qsd fu h a f d a true (Tree.node b.val b.kids) e c else qsd fu h a f d a (decide ((b.kids.length:Int)<=f)) (Tree.node b.val b.kids) e c else none else(zqo fu (Tree.node b.val b.kids)).bind fun g=>(gp).bind fun i=>some ((Tree.node g.val g.kids),i)
def qs4(fu:Nat):Nat->qir|0=>fun _ _ _ _ _=>none|n+1=>q98 fu (qs4 fu n)
def qy0(a:Tree (wV×Bs))(b:List Int):Option qqa:=(zk fu (Tree.node a.val a.kids)).bind fun c=>(e7 c).bind fun d=>bif d then some ((Tree.node ([],[]) []),c) else qs4 fu fu (b.length:Int) 0 (Tree.node a.val a.kids) (0,0) b
abbrev qtb:=wV->wV->Int->Option Bool
def qn5(fu:Nat)(f:qtb):qtb:=fun b e a=>bif decide (a<(b.length:Int)) then(aq b a).bind fun d=>(aq e a).bind fun c=>bif !((d.1==c.1)&&((d.2==c.2)&&true)) then some false else f b e (af (a+1)) else some true
def qb0(fu:Nat):Nat->qtb|0=>fun _ _ _=>none|n+1=>qn5 fu (qb0 fu n)
def qb3(b:List (Bs×Bs))(a:List (Bs×Bs)):Option Bool:=bif(b.length:Int) != (a.length:Int) then some false else qb0 fu fu b a 0
def qa0(b:Bs)(a:Bs):Option Bool:=some (b==a)
abbrev qa8:=wU->wU->Option Bool
abbrev qoc:=Int->wU->wU->Option Bool
abbrev zvj:=wU->wU->Option Bool
abbrev zp9:=Bool->wU->wU->Option Bool
def qu0(c:qa8)(fu:Nat)(g:qoc):qoc:=fun d a b=>bif decide (d<(a.kids.length:Int)) then(aq a.kids d).bind fun f=>(aq b.kids d).bind fun e=>(c (Tree.node f.val f.kids) (Tree.node e.val e.kids)).bind fun h=>bif !h then some false else g (af (d+1)) (Tree.node a.val a.kids) (Tree.node b.val b.kids) else some true
def qgq(a:qa8)(fu:Nat):Nat->qoc|0=>fun _ _ _=>none|n+1=>qu0 a fu (qgq a fu n)
def qqx(a:qa8)(fu:Nat):zvj:=fun c b=>qgq a fu fu 0 (Tree.node c.val c.kids) (Tree.node b.val b.kids)
def qdj(a:qa8)(fu:Nat):zp9:=fun d c b=>bif d then some false else qqx a fu (Tree.node c.val c.kids) (Tree.node b.val b.kids)
def qlw(a:qa8)(fu:Nat)(c:Tree (wV×Bs))(b:Tree (wV×Bs)):Option Bool:=(qb3 fu c.val.1 b.val.1).bind fun e=>bif !e then qdj a fu true (Tree.node c.val c.kids) (Tree.node b.val b.kids) else(qa0 c.val.2 b.val.2).bind fun d=>bif !d then qdj a fu true (Tree.node c.val c.kids) (Tree.node b.val b.kids) else qdj a fu ((c.kids.length:Int) != (b.kids.length:Int)) (Tree.node c.val c.kids) (Tree.node b.val b.kids)
def qa7(fu:Nat):Nat->qa8|0=>fun _ _=>none|n+1=>qlw (qa7 fu n) fu
def qfp(b:Tree (wV×Bs))(a:Tree (wV×Bs)):Option Bool:=qa7 fu fu b a
def qik:Option Bool:=(qp2).bind fun e=>(qbv fu (Tree.node e.val e.kids)).bind fun a=>(wl fu a.1).bind fun b=>(qy0 fu (Tree.node b.1.val b.1.kids) ([1]:List Int)).bind fun c=>bif a.2.1==0 then bif b.2.1==0 then bif c.2.1==0 then bif(a.1.1.length:Int)==1 then(aq a.1.1 0).bind fun g=>bif g.2==([109,117,108,116,105,112,97,114,116,47,109,105,120,101,100,59,32,98,111,117,110,100,97,114,121,61,98,48]:Bs) then bif a.1.2==([45,45,98,48,13,10,13,10,97,13,10,45,45,98,48,13,10,13,10,98,13,10,13,10,45,45,98,48,45,45,13,10]:Bs) then(qp2).bind fun d=>(qfp fu (Tree.node b.1.val b.1.kids) (Tree.node d.val d.kids)).bind fun f=>bif f then some (c.1.val.2==([98,13,10]:Bs)) else some false else some false else some false else some false else some false else some false else some false
abbrev q56:=(Bs×Bs×wV)×Bool
abbrev zsx:=Int->Bs->Bs->Bs->Bs->(List (Bs×Bs×Int×Bool))->wV->Option q56
def qxp(a:UInt8):Option (Bs):=bif decide (0<=((a/16).toNat:Int)/\((a/16).toNat:Int)<=(((a/16)+1).toNat:Int)/\(((a/16)+1).toNat:Int)<=(List.length ([48,49,50,51,52,53,54,55,56,57,65,66,67,68,69,70]:Bs):Int)) then bif decide (0<=((a%16).toNat:Int)/\((a%16).toNat:Int)<=(((a%16)+1).toNat:Int)/\(((a%16)+1).toNat:Int)<=(List.length ([48,49,50,51,52,53,54,55,56,57,65,66,67,68,69,70]:Bs):Int)) then bif decide (List.length (List.take ((((a/16)+1).toNat:Int).toNat-((a/16).toNat:Int).toNat) (List.drop ((a/16).toNat:Int).toNat ([48,49,50,51,52,53,54,55,56,57,65,66,67,68,69,70]:Bs)))+List.length (List.take ((((a%16)+1).toNat:Int).toNat-((a%16).toNat:Int).toNat) (List.drop ((a%16).toNat:Int).toNat ([48,49,50,51,52,53,54,55,56,57,65,66,67,68,69,70]:Bs)))<=bh) then some ((List.take ((((a/16)+1).toNat:Int).toNat-((a/16).toNat:Int).toNat) (List.drop ((a/16).toNat:Int).toNat ([48,49,50,51,52,53,54,55,56,57,65,66,67,68,69,70]:Bs)))++(List.take ((((a%16)+1).toNat:Int).toNat-((a%16).toNat:Int).toNat) (List.drop ((a%16).toNat:Int).toNat ([48,49,50,51,52,53,54,55,56,57,65,66,67,68,69,70]:Bs)))) else none else none else none
def qfi(b:wV×Bs)(a:wV×Bs):Option Bool:=(qb3 fu b.1 a.1).bind fun d=>bif d then(qa0 b.2 a.2).bind fun c=>some c else some false
def qaz(a:Tree (wV×Bs)):Option Bool:=(qik fu).bind fun e=>bif !e then some false else(qbv fu (Tree.node a.val a.kids)).bind fun b=>bif b.2.1 != 0 then(qfi fu b.1 ([],[])).bind fun f=>some f else(wl fu b.1).bind fun c=>bif c.2.1==0 then(qfp fu (Tree.node c.1.val c.1.kids) (Tree.node a.val a.kids)).bind fun d=>some d else some false
def qbl(e:wV×Bs):Option Bool:=(qik fu).bind fun f=>bif !f then some false else(wl fu e).bind fun a=>bif a.2.1 != 0 then(qfp fu (Tree.node a.1.val a.1.kids) (Tree.node ([],[]) [])).bind fun g=>some g else(qbv fu (Tree.node a.1.val a.1.kids)).bind fun b=>bif b.2.1 != 0 then some (b.2.2==(-3)) else(wl fu b.1).bind fun c=>bif c.2.1==0 then(qfp fu (Tree.node c.1.val c.1.kids) (Tree.node a.1.val a.1.kids)).bind fun d=>some d else some false
end
end Go.Sym
namespace Go.Proofs
open Go.Shelf
def Tryz.uniR:Go.Shelf.Ren:=⟨fun|115=>163|129=>212|138=>321|143=>324|165=>243|166=>244|167=>246|169=>247|171=>94|172=>219|185=>131|187=>149|195=>322|196=>137|197=>180|205=>284|217=>216|218=>323|219=>201|224=>165|225=>226|240=>273|241=>274|243=>128|244=>238|245=>239|246=>162|247=>258|253=>164|254=>166|255=>176|259=>173|260=>202|266=>237|267=>227|270=>245|276=>290|277=>291|279=>259|280=>260|281=>261|282=>262|283=>186|284=>187|285=>188|286=>189|287=>282|291=>190|314=>248|316=>283|317=>211|318=>213|319=>214|320=>215|321=>292|322=>293|337=>235|338=>236|n=>n,fun|0=>0|2=>2|3=>3|4=>4|5=>5|9=>9|12=>12|20=>20|21=>21|37=>23|46=>202|51=>179|53=>120|70=>289|72=>291|75=>262|76=>263|80=>268|85=>309|105=>220|119=>215|127=>322|138=>217|139=>218|143=>339|145=>341|146=>230|164=>300|167=>308|168=>311|171=>225|173=>228|175=>326|210=>329|212=>257|213=>258|232=>306|233=>307|n=>n,fun|1=>0|3=>1|4=>2|15=>6|16=>7|17=>3|18=>4|19=>5|n=>n⟩
abbrev Tryz.laysM171_ren:Go.Shelf.Ren:=Tryz.uniR
def Tryz.laysM171:Go.Proofs.LaysM.n171 Tryz.prog Tryz.laysM171_ren:={
 mixed:=by kernel_rfl
 f129:=Tryz.func212.trans (congrArg some (by kernel_rfl))
 f171:=Tryz.func94.trans (congrArg some (by kernel_rfl))
 f243:=Tryz.func128.trans (congrArg some (by kernel_rfl))
 f246:=Tryz.func162.trans (congrArg some (by kernel_rfl))
 f283:=Tryz.func186.trans (congrArg some (by kernel_rfl))
 f284:=Tryz.func187.trans (congrArg some (by kernel_rfl))
 f285:=Tryz.func188.trans (congrArg some (by kernel_rfl))
 f286:=Tryz.func189.trans (congrArg some (by kernel_rfl))
 f317:=Tryz.func211.trans (congrArg some (by kernel_rfl))
 f318:=Tryz.func213.trans (congrArg some (by kernel_rfl))
 f319:=Tryz.func214.trans (congrArg some (by kernel_rfl))
 f320:=Tryz.func215.trans (congrArg some (by kernel_rfl))
 f337:=Tryz.func235.trans (congrArg some (by kernel_rfl))
 f338:=Tryz.func236.trans (congrArg some (by kernel_rfl))
 t0:=Tryz.underlying0
 a0:=Tryz.isAgg0
 z0:=Tryz.sizeOf0
 v0:=Tryz.zeroValue0
 t2:=Tryz.underlying2
 a2:=Tryz.isAgg2
 z2:=Tryz.sizeOf2
 v2:=Tryz.zeroValue2
 t3:=Tryz.underlying3
 a3:=Tryz.isAgg3
 z3:=Tryz.sizeOf3
 v3:=Tryz.zeroValue3
 t4:=Tryz.underlying4
 a4:=Tryz.isAgg4
 z4:=Tryz.sizeOf4
 v4:=Tryz.zeroValue4
 t5:=Tryz.underlying5
 a5:=Tryz.isAgg5
 z5:=Tryz.sizeOf5
 v5:=Tryz.zeroValue5
 t9:=Tryz.underlying9
 a9:=Tryz.isAgg9
 z9:=Tryz.sizeOf9
 v9:=Tryz.zeroValue9
 t20:=Tryz.underlying20
 a20:=Tryz.isAgg20
 z20:=Tryz.sizeOf20
 v20:=Tryz.zeroValue20
 t37:=Tryz.underlying23
 a37:=Tryz.isAgg23
 z37:=Tryz.sizeOf23
 v37:=Tryz.zeroValue23
 t46:=Tryz.underlying202
 a46:=Tryz.isAgg202
 z46:=Tryz.sizeOf202
 v46:=Tryz.zeroValue202
 t51:=Tryz.underlying179
 a51:=Tryz.isAgg179
 z51:=Tryz.sizeOf179
 v51:=Tryz.zeroValue179
 t53:=Tryz.underlying120
 a53:=Tryz.isAgg120
 z53:=Tryz.sizeOf120
 v53:=Tryz.zeroValue120
 t171:=Tryz.underlying225
 a171:=Tryz.isAgg225
 z171:=Tryz.sizeOf225
 v171:=Tryz.zeroValue225
 t173:=Tryz.underlying228
 a173:=Tryz.isAgg228
 z173:=Tryz.sizeOf228
 v173:=Tryz.zeroValue228
 t212:=Tryz.underlying257
 a212:=Tryz.isAgg257
 z212:=Tryz.sizeOf257
 v212:=Tryz.zeroValue257
 t213:=Tryz.underlying258
 a213:=Tryz.isAgg258
 z213:=Tryz.sizeOf258
 t232:=Tryz.underlying306
 a232:=Tryz.isAgg306
 z232:=Tryz.sizeOf306
 v232:=Tryz.zeroValue306
 t233:=Tryz.underlying307
 a233:=Tryz.isAgg307
 z233:=Tryz.sizeOf307
 v233:=Tryz.zeroValue307
 g17:=by kernel_rfl
 g18:=by kernel_rfl
 g19:=by kernel_rfl
 i0:=by kernel_rfl
 i2:=by kernel_rfl
 i3:=by kernel_rfl
 i4:=by kernel_rfl
 i5:=by kernel_rfl
 i9:=by kernel_rfl
 i20:=by kernel_rfl
 i37:=by kernel_rfl
 i46:=by kernel_rfl
 i51:=by kernel_rfl
 i53:=by kernel_rfl
 i171:=by kernel_rfl
 i173:=by kernel_rfl
 i212:=by kernel_rfl
 i232:=by kernel_rfl
 i233:=by kernel_rfl
 m17:=by kernel_rfl
 m18:=by kernel_rfl
 m19:=by kernel_rfl }
abbrev Tryz.laysC172_ren:Go.Shelf.Ren:=Tryz.uniR
def Tryz.laysC172:Go.Proofs.LaysC.n172 Tryz.prog Tryz.laysC172_ren:={
 mixed:=by kernel_rfl
 f129:=Tryz.func212.trans (congrArg some (by kernel_rfl))
 f171:=Tryz.func94.trans (congrArg some (by kernel_rfl))
 f172:=Tryz.func219.trans (congrArg some (by kernel_rfl))
 f205:=Tryz.func284.trans (congrArg some (by kernel_rfl))
 f243:=Tryz.func128.trans (congrArg some (by kernel_rfl))
 f244:=Tryz.func238.trans (congrArg some (by kernel_rfl))
 f245:=Tryz.func239.trans (congrArg some (by kernel_rfl))
 f246:=Tryz.func162.trans (congrArg some (by kernel_rfl))
 f247:=Tryz.func258.trans (congrArg some (by kernel_rfl))
 f279:=Tryz.func259.trans (congrArg some (by kernel_rfl))
 f280:=Tryz.func260.trans (congrArg some (by kernel_rfl))
 f281:=Tryz.func261.trans (congrArg some (by kernel_rfl))
 f282:=Tryz.func262.trans (congrArg some (by kernel_rfl))
 f283:=Tryz.func186.trans (congrArg some (by kernel_rfl))
 f284:=Tryz.func187.trans (congrArg some (by kernel_rfl))
 f285:=Tryz.func188.trans (congrArg some (by kernel_rfl))
 f286:=Tryz.func189.trans (congrArg some (by kernel_rfl))
 f287:=Tryz.func282.trans (congrArg some (by kernel_rfl))
 f316:=Tryz.func283.trans (congrArg some (by kernel_rfl))
 f317:=Tryz.func211.trans (congrArg some (by kernel_rfl))
 f318:=Tryz.func213.trans (congrArg some (by kernel_rfl))
 f319:=Tryz.func214.trans (congrArg some (by kernel_rfl))
 f320:=Tryz.func215.trans (congrArg some (by kernel_rfl))
 f321:=Tryz.func292.trans (congrArg some (by kernel_rfl))
 f322:=Tryz.func293.trans (congrArg some (by kernel_rfl))
 f337:=Tryz.func235.trans (congrArg some (by kernel_rfl))
 f338:=Tryz.func236.trans (congrArg some (by kernel_rfl))
 t0:=Tryz.underlying0
 a0:=Tryz.isAgg0
 z0:=Tryz.sizeOf0
 v0:=Tryz.zeroValue0
 t2:=Tryz.underlying2
 a2:=Tryz.isAgg2
 z2:=Tryz.sizeOf2
 v2:=Tryz.zeroValue2
 t3:=Tryz.underlying3
 a3:=Tryz.isAgg3
 z3:=Tryz.sizeOf3
 v3:=Tryz.zeroValue3
 t4:=Tryz.underlying4
 a4:=Tryz.isAgg4
 z4:=Tryz.sizeOf4
 v4:=Tryz.zeroValue4
 t5:=Tryz.underlying5
 a5:=Tryz.isAgg5
 z5:=Tryz.sizeOf5
 v5:=Tryz.zeroValue5
 t9:=Tryz.underlying9
 a9:=Tryz.isAgg9
 z9:=Tryz.sizeOf9
 v9:=Tryz.zeroValue9
 t20:=Tryz.underlying20
 a20:=Tryz.isAgg20
 z20:=Tryz.sizeOf20
 v20:=Tryz.zeroValue20
 t21:=Tryz.underlying21
 a21:=Tryz.isAgg21
 z21:=Tryz.sizeOf21
 v21:=Tryz.zeroValue21
 t37:=Tryz.underlying23
 a37:=Tryz.isAgg23
 z37:=Tryz.sizeOf23
 v37:=Tryz.zeroValue23
 t46:=Tryz.underlying202
 a46:=Tryz.isAgg202
 z46:=Tryz.sizeOf202
 v46:=Tryz.zeroValue202
 t51:=Tryz.underlying179
 a51:=Tryz.isAgg179
 z51:=Tryz.sizeOf179
 v51:=Tryz.zeroValue179
 t53:=Tryz.underlying120
 a53:=Tryz.isAgg120
 z53:=Tryz.sizeOf120
 v53:=Tryz.zeroValue120
 t75:=Tryz.underlying262
 a75:=Tryz.isAgg262
 z75:=Tryz.sizeOf262
 v75:=Tryz.zeroValue262
 t76:=Tryz.underlying263
 a76:=Tryz.isAgg263
 z76:=Tryz.sizeOf263
 v76:=Tryz.zeroValue263
 t85:=Tryz.underlying309
 a85:=Tryz.isAgg309
 z85:=Tryz.sizeOf309
 v85:=Tryz.zeroValue309
 t127:=Tryz.underlying322
 a127:=Tryz.isAgg322
 z127:=Tryz.sizeOf322
 v127:=Tryz.zeroValue322
 t143:=Tryz.underlying339
 a143:=Tryz.isAgg339
 z143:=Tryz.sizeOf339
 v143:=Tryz.zeroValue339
 t145:=Tryz.underlying341
 a145:=Tryz.isAgg341
 z145:=Tryz.sizeOf341
 v145:=Tryz.zeroValue341
 t167:=Tryz.underlying308
 a167:=Tryz.isAgg308
 z167:=Tryz.sizeOf308
 v167:=Tryz.zeroValue308
 t168:=Tryz.underlying311
 a168:=Tryz.isAgg311
 z168:=Tryz.sizeOf311
 v168:=Tryz.zeroValue311
 t171:=Tryz.underlying225
 a171:=Tryz.isAgg225
 z171:=Tryz.sizeOf225
 v171:=Tryz.zeroValue225
 t173:=Tryz.underlying228
 a173:=Tryz.isAgg228
 z173:=Tryz.sizeOf228
 v173:=Tryz.zeroValue228
 t175:=Tryz.underlying326
 a175:=Tryz.isAgg326
 z175:=Tryz.sizeOf326
 v175:=Tryz.zeroValue326
 t210:=Tryz.underlying329
 a210:=Tryz.isAgg329
 z210:=Tryz.sizeOf329
 v210:=Tryz.zeroValue329
 t212:=Tryz.underlying257
 a212:=Tryz.isAgg257
 z212:=Tryz.sizeOf257
 v212:=Tryz.zeroValue257
 t213:=Tryz.underlying258
 a213:=Tryz.isAgg258
 z213:=Tryz.sizeOf258
 t232:=Tryz.underlying306
 a232:=Tryz.isAgg306
 z232:=Tryz.sizeOf306
 v232:=Tryz.zeroValue306
 t233:=Tryz.underlying307
 a233:=Tryz.isAgg307
 z233:=Tryz.sizeOf307
 v233:=Tryz.zeroValue307
 g15:=by kernel_rfl
 g16:=by kernel_rfl
 g17:=by kernel_rfl
 g18:=by kernel_rfl
 g19:=by kernel_rfl
 t80:=Tryz.underlying268
 a80:=Tryz.isAgg268
 z80:=Tryz.sizeOf268
 v80:=Tryz.zeroValue268
 i0:=by kernel_rfl
 i2:=by kernel_rfl
 i3:=by kernel_rfl
 i4:=by kernel_rfl
 i5:=by kernel_rfl
 i9:=by kernel_rfl
 i20:=by kernel_rfl
 i21:=by kernel_rfl
 i37:=by kernel_rfl
 i46:=by kernel_rfl
 i51:=by kernel_rfl
 i53:=by kernel_rfl
 i75:=by kernel_rfl
 i76:=by kernel_rfl
 i80:=by kernel_rfl
 i85:=by kernel_rfl
 i127:=by kernel_rfl
 i143:=by kernel_rfl
 i145:=by kernel_rfl
 i167:=by kernel_rfl
 i168:=by kernel_rfl
 i171:=by kernel_rfl
 i173:=by kernel_rfl
 i175:=by kernel_rfl
 i210:=by kernel_rfl
 i212:=by kernel_rfl
 i232:=by kernel_rfl
 i233:=by kernel_rfl
 m15:=by kernel_rfl
 m16:=by kernel_rfl
 m17:=by kernel_rfl
 m18:=by kernel_rfl
 m19:=by kernel_rfl
 c0:=by kernel_rfl
 c2:=by kernel_rfl
 c3:=by kernel_rfl
 c4:=by kernel_rfl
 c5:=by kernel_rfl
 c9:=by kernel_rfl
 c20:=by kernel_rfl
 c21:=by kernel_rfl
 c37:=by kernel_rfl
 c46:=by kernel_rfl
 c51:=by kernel_rfl
 c53:=by kernel_rfl
 c75:=by kernel_rfl
 c76:=by kernel_rfl
 c80:=by kernel_rfl
 c85:=by kernel_rfl
 c127:=by kernel_rfl
 c143:=by kernel_rfl
 c145:=by kernel_rfl
 c167:=by kernel_rfl
 c168:=by kernel_rfl
 c171:=by kernel_rfl
 c173:=by kernel_rfl
 c175:=by kernel_rfl
 c210:=by kernel_rfl
 c212:=by kernel_rfl
 c213:=by kernel_rfl
 c232:=by kernel_rfl
 c233:=by kernel_rfl }
abbrev Tryz.lays185_ren:Go.Shelf.Ren:=Tryz.uniR
def Tryz.lays185:Go.Proofs.Lays.n185 Tryz.prog Tryz.lays185_ren:={
 mixed:=by kernel_rfl
 f115:=Tryz.func163.trans (congrArg some (by kernel_rfl))
 f185:=Tryz.func131.trans (congrArg some (by kernel_rfl))
 f187:=Tryz.func149.trans (congrArg some (by kernel_rfl))
 f224:=Tryz.func165.trans (congrArg some (by kernel_rfl))
 f253:=Tryz.func164.trans (congrArg some (by kernel_rfl))
 f254:=Tryz.func166.trans (congrArg some (by kernel_rfl))
 f255:=Tryz.func176.trans (congrArg some (by kernel_rfl))
 f291:=Tryz.func190.trans (congrArg some (by kernel_rfl))
 t0:=Tryz.underlying0
 a0:=Tryz.isAgg0
 z0:=Tryz.sizeOf0
 v0:=Tryz.zeroValue0
 t3:=Tryz.underlying3
 a3:=Tryz.isAgg3
 z3:=Tryz.sizeOf3
 v3:=Tryz.zeroValue3
 t4:=Tryz.underlying4
 a4:=Tryz.isAgg4
 z4:=Tryz.sizeOf4
 v4:=Tryz.zeroValue4
 t5:=Tryz.underlying5
 a5:=Tryz.isAgg5
 z5:=Tryz.sizeOf5
 v5:=Tryz.zeroValue5
 t9:=Tryz.underlying9
 a9:=Tryz.isAgg9
 z9:=Tryz.sizeOf9
 v9:=Tryz.zeroValue9
 t37:=Tryz.underlying23
 a37:=Tryz.isAgg23
 z37:=Tryz.sizeOf23
 v37:=Tryz.zeroValue23
 t46:=Tryz.underlying202
 a46:=Tryz.isAgg202
 z46:=Tryz.sizeOf202
 v46:=Tryz.zeroValue202
 t51:=Tryz.underlying179
 a51:=Tryz.isAgg179
 z51:=Tryz.sizeOf179
 v51:=Tryz.zeroValue179
 t146:=Tryz.underlying230
 a146:=Tryz.isAgg230
 z146:=Tryz.sizeOf230
 v146:=Tryz.zeroValue230
 g1:=by kernel_rfl }
abbrev Tryz.lays138_ren:Go.Shelf.Ren:=Tryz.uniR
def Tryz.lays138:Go.Proofs.Lays.n138 Tryz.prog Tryz.lays138_ren:={
 mixed:=by kernel_rfl
 f138:=Tryz.func321.trans (congrArg some (by kernel_rfl))
 f143:=Tryz.func324.trans (congrArg some (by kernel_rfl))
 f195:=Tryz.func322.trans (congrArg some (by kernel_rfl))
 f217:=Tryz.func216.trans (congrArg some (by kernel_rfl))
 f218:=Tryz.func323.trans (congrArg some (by kernel_rfl))
 f219:=Tryz.func201.trans (congrArg some (by kernel_rfl))
 f224:=Tryz.func165.trans (congrArg some (by kernel_rfl))
 f225:=Tryz.func226.trans (congrArg some (by kernel_rfl))
 f266:=Tryz.func237.trans (congrArg some (by kernel_rfl))
 f267:=Tryz.func227.trans (congrArg some (by kernel_rfl))
 f314:=Tryz.func248.trans (congrArg some (by kernel_rfl))
 t0:=Tryz.underlying0
 a0:=Tryz.isAgg0
 z0:=Tryz.sizeOf0
 v0:=Tryz.zeroValue0
 t3:=Tryz.underlying3
 a3:=Tryz.isAgg3
 z3:=Tryz.sizeOf3
 v3:=Tryz.zeroValue3
 t4:=Tryz.underlying4
 a4:=Tryz.isAgg4
 z4:=Tryz.sizeOf4
 v4:=Tryz.zeroValue4
 t5:=Tryz.underlying5
 a5:=Tryz.isAgg5
 z5:=Tryz.sizeOf5
 v5:=Tryz.zeroValue5
 t9:=Tryz.underlying9
 a9:=Tryz.isAgg9
 z9:=Tryz.sizeOf9
 v9:=Tryz.zeroValue9
 t46:=Tryz.underlying202
 a46:=Tryz.isAgg202
 z46:=Tryz.sizeOf202
 v46:=Tryz.zeroValue202
 t51:=Tryz.underlying179
 a51:=Tryz.isAgg179
 z51:=Tryz.sizeOf179
 v51:=Tryz.zeroValue179
 t146:=Tryz.underlying230
 a146:=Tryz.isAgg230
 z146:=Tryz.sizeOf230
 v146:=Tryz.zeroValue230
 g1:=by kernel_rfl }
abbrev Tryz.lays165_ren:Go.Shelf.Ren:=Tryz.uniR
def Tryz.lays165:Go.Proofs.Lays.n165 Tryz.prog Tryz.lays165_ren:={
 mixed:=by kernel_rfl
 f165:=Tryz.func243.trans (congrArg some (by kernel_rfl))
 f240:=Tryz.func273.trans (congrArg some (by kernel_rfl))
 f241:=Tryz.func274.trans (congrArg some (by kernel_rfl))
 f276:=Tryz.func290.trans (congrArg some (by kernel_rfl))
 f277:=Tryz.func291.trans (congrArg some (by kernel_rfl))
 t0:=Tryz.underlying0
 a0:=Tryz.isAgg0
 z0:=Tryz.sizeOf0
 v0:=Tryz.zeroValue0
 t3:=Tryz.underlying3
 a3:=Tryz.isAgg3
 z3:=Tryz.sizeOf3
 v3:=Tryz.zeroValue3
 t4:=Tryz.underlying4
 a4:=Tryz.isAgg4
 z4:=Tryz.sizeOf4
 v4:=Tryz.zeroValue4
 t9:=Tryz.underlying9
 a9:=Tryz.isAgg9
 z9:=Tryz.sizeOf9
 v9:=Tryz.zeroValue9
 t20:=Tryz.underlying20
 a20:=Tryz.isAgg20
 z20:=Tryz.sizeOf20
 v20:=Tryz.zeroValue20
 t37:=Tryz.underlying23
 a37:=Tryz.isAgg23
 z37:=Tryz.sizeOf23
 v37:=Tryz.zeroValue23
 t70:=Tryz.underlying289
 a70:=Tryz.isAgg289
 z70:=Tryz.sizeOf289
 v70:=Tryz.zeroValue289
 t72:=Tryz.underlying291
 a72:=Tryz.isAgg291
 z72:=Tryz.sizeOf291
 v72:=Tryz.zeroValue291
 t164:=Tryz.underlying300
 a164:=Tryz.isAgg300
 z164:=Tryz.sizeOf300
 v164:=Tryz.zeroValue300 }
abbrev Tryz.lays169_ren:Go.Shelf.Ren:=Tryz.uniR
def Tryz.lays169:Go.Proofs.Lays.n169 Tryz.prog Tryz.lays169_ren:={
 mixed:=by kernel_rfl
 f169:=Tryz.func247.trans (congrArg some (by kernel_rfl))
 t0:=Tryz.underlying0
 a0:=Tryz.isAgg0
 z0:=Tryz.sizeOf0
 v0:=Tryz.zeroValue0
 t3:=Tryz.underlying3
 a3:=Tryz.isAgg3
 z3:=Tryz.sizeOf3
 v3:=Tryz.zeroValue3
 t9:=Tryz.underlying9
 a9:=Tryz.isAgg9
 z9:=Tryz.sizeOf9
 v9:=Tryz.zeroValue9
 t37:=Tryz.underlying23
 a37:=Tryz.isAgg23
 z37:=Tryz.sizeOf23
 v37:=Tryz.zeroValue23
 t70:=Tryz.underlying289
 a70:=Tryz.isAgg289
 z70:=Tryz.sizeOf289
 v70:=Tryz.zeroValue289
 t72:=Tryz.underlying291
 a72:=Tryz.isAgg291
 z72:=Tryz.sizeOf291
 v72:=Tryz.zeroValue291
 t127:=Tryz.underlying322
 a127:=Tryz.isAgg322
 z127:=Tryz.sizeOf322
 v127:=Tryz.zeroValue322 }
abbrev Tryz.lays196_ren:Go.Shelf.Ren:=Tryz.uniR
def Tryz.lays196:Go.Proofs.Lays.n196 Tryz.prog Tryz.lays196_ren:={
 mixed:=by kernel_rfl
 f196:=Tryz.func137.trans (congrArg some (by kernel_rfl))
 f259:=Tryz.func173.trans (congrArg some (by kernel_rfl))
 t0:=Tryz.underlying0
 a0:=Tryz.isAgg0
 z0:=Tryz.sizeOf0
 v0:=Tryz.zeroValue0
 t3:=Tryz.underlying3
 a3:=Tryz.isAgg3
 z3:=Tryz.sizeOf3
 v3:=Tryz.zeroValue3
 t4:=Tryz.underlying4
 a4:=Tryz.isAgg4
 z4:=Tryz.sizeOf4
 v4:=Tryz.zeroValue4
 t5:=Tryz.underlying5
 a5:=Tryz.isAgg5
 z5:=Tryz.sizeOf5
 v5:=Tryz.zeroValue5
 t9:=Tryz.underlying9
 a9:=Tryz.isAgg9
 z9:=Tryz.sizeOf9
 v9:=Tryz.zeroValue9
 t12:=Tryz.underlying12
 a12:=Tryz.isAgg12
 z12:=Tryz.sizeOf12
 v12:=Tryz.zeroValue12
 t46:=Tryz.underlying202
 a46:=Tryz.isAgg202
 z46:=Tryz.sizeOf202
 v46:=Tryz.zeroValue202
 t53:=Tryz.underlying120
 a53:=Tryz.isAgg120
 z53:=Tryz.sizeOf120
 v53:=Tryz.zeroValue120
 t119:=Tryz.underlying215
 a119:=Tryz.isAgg215
 z119:=Tryz.sizeOf215
 t138:=Tryz.underlying217
 a138:=Tryz.isAgg217
 z138:=Tryz.sizeOf217
 v138:=Tryz.zeroValue217
 t139:=Tryz.underlying218
 a139:=Tryz.isAgg218
 z139:=Tryz.sizeOf218
 v139:=Tryz.zeroValue218
 g3:=by kernel_rfl
 g4:=by kernel_rfl }
abbrev Tryz.lays197_ren:Go.Shelf.Ren:=Tryz.uniR
def Tryz.lays197:Go.Proofs.Lays.n197 Tryz.prog Tryz.lays197_ren:={
 mixed:=by kernel_rfl
 f197:=Tryz.func180.trans (congrArg some (by kernel_rfl))
 f260:=Tryz.func202.trans (congrArg some (by kernel_rfl))
 t0:=Tryz.underlying0
 a0:=Tryz.isAgg0
 z0:=Tryz.sizeOf0
 v0:=Tryz.zeroValue0
 t3:=Tryz.underlying3
 a3:=Tryz.isAgg3
 z3:=Tryz.sizeOf3
 v3:=Tryz.zeroValue3
 t4:=Tryz.underlying4
 a4:=Tryz.isAgg4
 z4:=Tryz.sizeOf4
 v4:=Tryz.zeroValue4
 t5:=Tryz.underlying5
 a5:=Tryz.isAgg5
 z5:=Tryz.sizeOf5
 v5:=Tryz.zeroValue5
 t9:=Tryz.underlying9
 a9:=Tryz.isAgg9
 z9:=Tryz.sizeOf9
 v9:=Tryz.zeroValue9
 t21:=Tryz.underlying21
 a21:=Tryz.isAgg21
 z21:=Tryz.sizeOf21
 v21:=Tryz.zeroValue21
 t46:=Tryz.underlying202
 a46:=Tryz.isAgg202
 z46:=Tryz.sizeOf202
 v46:=Tryz.zeroValue202
 t105:=Tryz.underlying220
 a105:=Tryz.isAgg220
 z105:=Tryz.sizeOf220
 v105:=Tryz.zeroValue220
 t119:=Tryz.underlying215
 a119:=Tryz.isAgg215
 z119:=Tryz.sizeOf215
 t138:=Tryz.underlying217
 a138:=Tryz.isAgg217
 z138:=Tryz.sizeOf217
 v138:=Tryz.zeroValue217
 t139:=Tryz.underlying218
 a139:=Tryz.isAgg218
 z139:=Tryz.sizeOf218
 v139:=Tryz.zeroValue218
 g3:=by kernel_rfl
 g4:=by kernel_rfl }
def Tryz.sortP_ren:Go.Shelf.Ren:=⟨fun|6=>221|15=>241|14=>240|28=>271|29=>212|20=>263|21=>264|22=>265|23=>266|24=>267|25=>268|26=>269|27=>270|46=>285|47=>286|48=>287|49=>288|50=>289|57=>294|n=>n,fun|22=>207|24=>209|25=>267|3=>3|39=>202|0=>0|53=>179|55=>120|4=>4|46=>316|45=>315|50=>235|5=>5|9=>9|66=>331|70=>335|76=>342|77=>170|n=>n,fun|n=>n⟩
def Tryz.sortP:Go.Proofs.SlLaysF0.n6 Tryz.prog Tryz.sortP_ren:={
 mixed:=by kernel_rfl
 f6:=⟨Tryz.f221.name,by decide,Tryz.func221.trans (congrArg some (by kernel_rfl))⟩
 f14:=⟨Tryz.f240.name,by decide,Tryz.func240.trans (congrArg some (by kernel_rfl))⟩
 f15:=Tryz.func241.trans (congrArg some (by kernel_rfl))
 f20:=⟨Tryz.f263.name,by decide,Tryz.func263.trans (congrArg some (by kernel_rfl))⟩
 f21:=⟨Tryz.f264.name,by decide,Tryz.func264.trans (congrArg some (by kernel_rfl))⟩
 f22:=⟨Tryz.f265.name,by decide,Tryz.func265.trans (congrArg some (by kernel_rfl))⟩
 f23:=⟨Tryz.f266.name,by decide,Tryz.func266.trans (congrArg some (by kernel_rfl))⟩
 f24:=⟨Tryz.f267.name,by decide,Tryz.func267.trans (congrArg some (by kernel_rfl))⟩
 f25:=⟨Tryz.f268.name,by decide,Tryz.func268.trans (congrArg some (by kernel_rfl))⟩
 f26:=⟨Tryz.f269.name,by decide,Tryz.func269.trans (congrArg some (by kernel_rfl))⟩
 f27:=⟨Tryz.f270.name,by decide,Tryz.func270.trans (congrArg some (by kernel_rfl))⟩
 f28:=Tryz.func271.trans (congrArg some (by kernel_rfl))
 f29:=Tryz.func212.trans (congrArg some (by kernel_rfl))
 f46:=⟨Tryz.f285.name,by decide,Tryz.func285.trans (congrArg some (by kernel_rfl))⟩
 f47:=Tryz.func286.trans (congrArg some (by kernel_rfl))
 f48:=Tryz.func287.trans (congrArg some (by kernel_rfl))
 f49:=⟨Tryz.f288.name,by decide,Tryz.func288.trans (congrArg some (by kernel_rfl))⟩
 f50:=⟨Tryz.f289.name,by decide,Tryz.func289.trans (congrArg some (by kernel_rfl))⟩
 f57:=⟨Tryz.f294.name,by decide,Tryz.func294.trans (congrArg some (by kernel_rfl))⟩
 t0:=Tryz.underlying0
 a0:=Tryz.isAgg0
 z0:=Tryz.sizeOf0
 v0:=Tryz.zeroValue0
 t3:=Tryz.underlying3
 a3:=Tryz.isAgg3
 z3:=Tryz.sizeOf3
 v3:=Tryz.zeroValue3
 t4:=Tryz.underlying4
 a4:=Tryz.isAgg4
 z4:=Tryz.sizeOf4
 v4:=Tryz.zeroValue4
 t5:=Tryz.underlying5
 a5:=Tryz.isAgg5
 z5:=Tryz.sizeOf5
 v5:=Tryz.zeroValue5
 t9:=Tryz.underlying9
 a9:=Tryz.isAgg9
 z9:=Tryz.sizeOf9
 v9:=Tryz.zeroValue9
 t22:=Tryz.underlying207
 a22:=Tryz.isAgg207
 z22:=Tryz.sizeOf207
 v22:=Tryz.zeroValue207
 t25:=Tryz.underlying267
 a25:=Tryz.isAgg267
 z25:=Tryz.sizeOf267
 v25:=Tryz.zeroValue267
 t39:=Tryz.underlying202
 a39:=Tryz.isAgg202
 z39:=Tryz.sizeOf202
 v39:=Tryz.zeroValue202
 t45:=Tryz.underlying315
 a45:=Tryz.isAgg315
 z45:=Tryz.sizeOf315
 v45:=Tryz.zeroValue315
 t46:=Tryz.underlying316
 a46:=Tryz.isAgg316
 z46:=Tryz.sizeOf316
 v46:=Tryz.zeroValue316
 t50:=Tryz.underlying235
 a50:=Tryz.isAgg235
 z50:=Tryz.sizeOf235
 v50:=Tryz.zeroValue235
 t53:=Tryz.underlying179
 a53:=Tryz.isAgg179
 z53:=Tryz.sizeOf179
 v53:=Tryz.zeroValue179
 t55:=Tryz.underlying120
 a55:=Tryz.isAgg120
 z55:=Tryz.sizeOf120
 v55:=Tryz.zeroValue120
 t66:=Tryz.underlying331
 a66:=Tryz.isAgg331
 z66:=Tryz.sizeOf331
 v66:=Tryz.zeroValue331
 t70:=Tryz.underlying335
 a70:=Tryz.isAgg335
 z70:=Tryz.sizeOf335
 v70:=Tryz.zeroValue335
 t76:=Tryz.underlying342
 a76:=Tryz.isAgg342
 z76:=Tryz.sizeOf342
 v76:=Tryz.zeroValue342
 t77:=Tryz.underlying170
 a77:=Tryz.isAgg170
 z77:=Tryz.sizeOf170
 v77:=Tryz.zeroValue170 }
end Go.Proofs
namespace Go.Sym
open Go.RowKit
variable[LC]
def c7.data{P:Program}{f:FuncId}{xs:List AV}{r:AV}
  (h:∀(w:World)(G:Gh)(vs:List Value),ci G [] w->ak xs G vs->Calls P f vs.toArray w fun e w'=>∃v,e = .returned v/\ai r G v/\bz w w'):c7 P f xs [] r []:=by
 intro w G vs hm hr;refine(h w G vs hm hr).mono ?_;rintro e w' ⟨v,rfl,hv,hs⟩
 refine⟨v,G,rfl,?_,hv⟩;exact(zt hm).extend (new:=[]) (Gh.le.refl G) hs (fun _ _ _ h => .inl h) (fun b o v hv=>by
  have hc:=hm.agree b o v hv;have hlt:=World.block_lt_of_cell? _ _ hc;rw[World.cell?_of_block (w:=w) (hs.block b hlt (fun h=>h))];exact hc) hm.one (fun n bx h=>by cases h) (fun n bx h=>by cases h) (fun n m bx bx' b h=>by cases h)
def bz.of_below{w w':World}(h:Below w.heap.size w w'):bz w w':=⟨h.os,h.tape,h.output,h.size,fun k hk _=>h.block k hk⟩
def bz.refl(w:World):bz w w:=⟨rfl,rfl,rfl,wF _,fun _ _ _=>rfl⟩
def c7.fresh{P:Program}{f:FuncId}{xs:List AV}{τ:Ty}{l:List τ.den}{E:TypeId}
  (h:∀(w:World)(G:Gh)(vs:List Value),ci G [] w->ak xs G vs->Calls P f vs.toArray w fun e w'=>∃ad c us,e = .returned (.slice ad l.length c)/\fj w' E τ.sz ad l.length c us/\ak (l.flatMap τ.enc) G.data us/\(∀b,ck ad=some b->w.heap.size<=b)/\bz w w') :
  c7 P f xs [] (.own 0) [(0,.row τ l E)]:=by
 intro w G vs hm hr;refine(h w G vs hm hr).mono ?_;rintro e w' ⟨ad,c,us,rfl,hrow,hus,hb,hs⟩
 let G':Gh:={ imm:=G.imm,box:=fun _=>none,own:=fun m=>bif Nat.beq m 0 then some (ad,l.length,c) else none }
 have hself:(G'.own 0)=some (ad,l.length,c):=rfl;have hag:∀b o v,G.imm b o=some v->w'.cell? ⟨b,o,none⟩=some v:=fun b o v hv=>by
  have hc:=hm.agree b o v hv;have hlt:=World.block_lt_of_cell? _ _ hc;rw[World.cell?_of_block (w:=w) (hs.block b hlt (fun h=>h))];exact hc
 have hlt:∀b o v,G.imm b o=some v->b<w.heap.size:=fun b o v hv=>World.block_lt_of_cell? _ _ (hm.agree b o v hv)
 have hlk:∀m b,ae [(0,ag.row τ l E)] m=some b->m=0/\b = .row τ l E:=fun m b hh=>by
  simp only[ae]at hh;cases hb:Nat.beq 0 m
  ·rw[hb]at hh;cases hh
  ·rw[hb]at hh;simp only[qT,qI]at hh;exact⟨(qN hb).symm,hh.symm⟩
 have hat:G'.at 0 (.row τ l E)=ck ad:=by
  simp only[Gh.at,hself];cases ad<;>rfl
 refine⟨.slice ad l.length c,G',rfl,⟨⟨hag,hm.one,fun m b hh => ?_,fun m m' b b' c' h1 h2 _ _ => ?_,LC.mono (fun _ _ _ h=>h) (fun b o v h=>hs.block b (hlt b o v h) fun h=>h) hm.tab⟩,⟨hs.os,hs.tape,hs.output,hs.size,fun k hk _=>hs.block k hk fun h=>h⟩,fun _ _ _ h=>h,fun _ _ _ h => .inl h,fun m b c' h1 h2 => ?_,fun _ _ _ h=>(by cases h),fun _ _ _ h=>(by cases h)⟩,ad,l.length,c,hself,rfl⟩
 ·obtain⟨rfl,rfl⟩:=hlk m b hh;refine db.row hself hrow (ak.data_le (fun _ _ _ h=>h) hus) fun b hb' o => ?_
  cases hq:G.imm b o with|none=>rfl|some v=>have:=hlt b o v hq;have:=hb b hb';omega
 ·obtain⟨rfl,_⟩:=hlk m b h1;obtain⟨rfl,_⟩:=hlk m' b' h2;rfl
 ·obtain⟨rfl,rfl⟩:=hlk m b h1;rw[hat]at h2;exact .inl (hb c' h2)
def qum{P:Program}{G:Gh}{w:World}(hm:ci G [] w){τ:Ty}{l:List τ.den}{v:Value}(h:ai (.sl τ l) G v) :
  ∃news,(∀w,(Builtin.lenOf v).run P w = .ok l.length w)/\(∀w',(∀k,k<w.heap.size->w'.heap[k]? = w.heap[k]?)->(Builtin.firstCells τ.sz l.length v).run P w' = .ok news.toArray w')/\ak (l.flatMap τ.enc) G.data news/\∀u∈news,u.oneCell'=true:=by
 let s:St:={ n:=0,fr:=[],hp:=[],nx:=0,df:=[] }
 have hr:ah w G.data [] G.data s { tmps:=#[],defers:=[] } w:=
  ⟨⟨[],rfl,rfl⟩,rfl,fun i x h=>(by cases h),fun _ _ _=>⟨rfl,rfl⟩,zt ⟨hm.agree,hm.one,fun _ _ h=>(by cases h),fun _ _ _ _ _ h=>(by cases h),hm.tab⟩⟩
 rcases qe9 hr (x := .sl τ l) (v:=v) (flat:=l.flatMap τ.enc) (n:=l.length) h rfl with⟨b,hb,_⟩|⟨ad,c,us,rfl,h1,h2,h3⟩
 ·cases hb
 ·refine⟨us,fun w=>by simp[Builtin.lenOf],fun w' hw' => ?_,h1,h2⟩
  have hul:us.length=l.length*τ.sz:=by rw[← h1.length,lg]
  cases ad with
  |none=>
   have:us=[]:=by
    rcases h3 with h3|⟨_,_,h3,_⟩
    ·exact h3
    ·cases h3
   subst this;simp[Builtin.firstCells]
  |some ad=>
   have h3':us=[]\/∃b o,some ad=some (⟨b,o,none⟩:Addr)/\∀j u,us[j]? = some u->w'.cell? ⟨b,o+j,none⟩=some u:=by
    rcases h3 with h3|⟨b,o,h4,h5⟩
    ·exact .inl h3
    ·refine .inr ⟨b,o,h4,fun j u hu => ?_⟩
     have hc:=h5 j u hu;rw[World.cell?_of_block (w:=w) (hw' _ (World.block_lt_of_cell? _ _ hc))];exact hc
   have:=qce (P:=P) (w:=w') (ad:=ad) h3';rw[hul]at this;simp[Builtin.firstCells,this]
def qsb{P:Program}{ops:Array Oper}{rest:List Oper}{o:Oper}{a:Act}{w:World}{Q:Exit->Act->World->Prop}(hgd:o.guard=none)(s x:Operand)(t:TypeId)
  (ho:o.op = .call { callee := .builtin .append,args:=#[s,x],argTypes:=#[t,t] }) {E:TypeId} {sz:Nat} (ht:P.underlying t=some (.slice E)) (hz:lj P E=true) (hsz:dz P E=some sz) (ht2:yp P t=true)
  {ad:Option Addr} {n c:Nat} {us:List Value} (hs:a.eval s = .slice ad n c) (hrow:fj w E sz ad n c us) {v:Value} (hx:a.eval x=v) {m:Nat} {news:List Value}
  (ac:∀w,(Builtin.lenOf v).run P w = .ok m w) (hcells:∀w',w'.heap=w.heap->(Builtin.firstCells sz m v).run P w' = .ok news.toArray w') (hnl:news.length=m*sz) (hn1:∀v∈news,v.oneCell'=true) (hmax:n+m<=bg)
  (h:∀ad' c' w',fj w' E sz ad' (n+m) c' (us++news)->(ck ad'=ck ad\/∃g,ck ad'=some g/\w.heap.size<=g)->ee (fun b=>ck ad=some b) w w'->wpList P ops Q rest (a.put o.dst (.slice ad' (n+m) c')) w'):wpList P ops Q (o::rest) a w:=by
 obtain⟨i,z,hi,hz',z1,z2,z3,z4,zs⟩:=qdw hz hsz;rw[← zs]at hrow hcells hnl h;refine wpList_plain hgd fun _ hK => ?_
 obtain⟨ad',c',w',r1,r2,r3,r4⟩:=q8y (ty:=o.type) ht hi hz' z1 z2 z3 z4 ht2 hrow ac hcells hnl hn1 hmax;unfold Oper.wp execOp;simp only[ho,resolve,invoke,builtin,Sem.run_bind,Sem.run_pure,Result.andThen_ok,List.map_toArray,List.map_cons,List.map_nil,hs,hx,r1];exact hK _ _ (h ad' c' w' r2 r3 r4)
end Go.Sym
namespace Go.Sym
open Go.Proofs Go.RowKit Go.Sort
open Go.Proofs.Tryz
variable[LC]
def bz.below{w w':World}(h:bz w w'):Below w.heap.size w w':=⟨h.os,h.tape,h.output,h.size,fun k hk=>h.block k hk (fun h=>h)⟩
def ci.still{G:Gh}{w w':World}(hm:ci G [] w)(hs:bz w w'):ci G [] w':=
 have hlt:∀b o v,G.imm b o=some v->w'.heap[b]? = w.heap[b]? := fun b o v hv=>hs.block b (World.block_lt_of_cell? _ _ (hm.agree b o v hv)) (fun h=>h)
 ⟨fun b o v hv=>by rw[World.cell?_of_block (w:=w) (hlt b o v hv)];exact hm.agree b o v hv,hm.one,fun n bx h=>(by cases h),fun n m bx bx' b h=>(by cases h),LC.mono (fun _ _ _ h=>h) hlt hm.tab⟩
def z1f{G:Gh}{w:World}(hm:ci G [] w)(hg:LC.glob 3=some ⟨.int .u64,Lib.pow10Tab⟩)(hs:(3,20)∈LC.sizes):∃t fr,w.heap[3]? = some (.cells (Lib.pow10Tab.map fun z=>Value.int .u64 z).toArray t fr):=by
 obtain⟨_,cs,t,fr,hh,hz⟩:=hm.tab.2.2.2 _ hs;refine⟨t,fr,hh.trans ?_⟩;congr 2;apply Array.ext
 ·rw[hz];simp[Lib.pow10Tab]
 ·intro j h1 h2;have hj:j<Lib.pow10Tab.length:=by simpa using h2
  have h3:=hm.agree _ _ _ (hm.tab.1 _ _ _ hg j _ (List.getElem?_eq_getElem hj));rw[show j*(Ty.int .u64).sz=j from Nat.mul_one j]at h3
  simp only[World.cell?,hh]at h3;rw[Array.getElem?_eq_getElem h1]at h3;simp only[List.getElem_toArray,List.getElem_map];exact qJ h3
def zbe{G:Gh}{w:World}(hm:ci G [] w)(hg:LC.glob 3=some ⟨.int .u64,Lib.pow10Tab⟩)(hs:(3,20)∈LC.sizes)(n:Int)(h0 : -9223372036854775808<=n)(h1:n<=9223372036854775807) :
  Calls Tryz.prog 94 #[.int .i64 n] w fun e w'=>e = .returned (.string ⟨(Lib.itoa n).toArray⟩)/\bz w w':=
 (Any.strconv_Itoa Tryz.laysM171 n h0 h1 w (by
  unfold Lib.TabIs World.var?;obtain⟨t,fr,hh⟩:=z1f hm hg hs;rw[show Tryz.prog.globalNamed _=some 3 by kernel_rfl,qB,hh])).mono fun e w'⟨he,k,os,hw⟩=>⟨he,by
   subst hw;refine⟨rfl,rfl,rfl,by simp[grow],fun j hj _ => ?_⟩
   show(w.heap++os)[j]? = _;rw[Array.getElem?_append_left hj]⟩
def qqk:IF:=⟨.fn 94,[.h (.int .i64)],[],_,RS.mk (.h .str) []⟩
def q6q(hg:LC.glob 3=some ⟨.int .u64,Lib.pow10Tab⟩)(hs:(3,20)∈LC.sizes):(qqk.e oe).Sound Tryz.prog:=fun d d' r h=>by
 have h:oe d.1=some r:=h;unfold oe at h;cases hd:decide (-9223372036854775808<=(show Int from d.1)/\(show Int from d.1)<=9223372036854775807)<;>rw[hd]at h<;>simp only[qT,qF,reduceCtorEq]at h
 have h:=qJ h;subst h;have hd:=of_decide_eq_true hd;refine⟨call94,c7.data fun w G vs hm hr => ?_⟩
 match vs,hr with
 |[v],⟨h1,_⟩=>
  have h1:v = .int .i64 d.1:=h1;subst h1;exact(zbe hm hg hs _ hd.1 hd.2).mono fun e w'⟨he,hw⟩=>⟨_,he,rfl,hw⟩
def zox{G:Gh}{w:World}(hm:ci G [] w)(hi:0∈LC.ints){a b:Bs}{u v:Value}(hu:ai (.sl .byte a) G u)(hv:ai (.sl .byte b) G v)(h2:2<=b.length)(hb:b.length<=maxLen)(ha:a.length<4294967281) :
  Calls Tryz.prog 131 #[u,v] w fun e w'=>e = .returned (.int .i64 (Lib.index a b))/\bz w w':=by
 obtain⟨p,c,rfl,hc,hp⟩:jf 1 (Ty.byte.At G.imm) a u:=hu;obtain⟨q,d,rfl,hd,hq⟩:jf 1 (Ty.byte.At G.imm) b v:=hv;by_cases hlt:a.length<b.length
 ·have h:=Any.bytes_Index_longer Tryz.lays185 p q a.length c b.length d w h2 hlt (by unfold maxLen at hb;omega)
  rw[Lib.index_past (i:=0) (by intro e;subst e;simp at h2) (fun j hj=>absurd hj (Nat.not_lt_zero _)) (by simpa using hlt)]
  exact h.mono fun e w'⟨he,hw⟩=>⟨he,by subst hw;exact bz.refl _⟩
 ·rcases hp with rfl|⟨g,o,rfl,hcells⟩
  ·exact absurd (show([]:Bs).length<b.length from by show 0<_;omega) hlt
  rcases hq with rfl|⟨g',o',rfl,hcells'⟩
  ·exact absurd h2 (by show ¬2<=0;omega)
  obtain⟨k,hk⟩:=hm.tab.2.1 _ hi;have hk:=hm.agree _ _ _ hk;have bb:∀l:Bs,Lib.bytesOf (l.map fun x=>(x.toNat:Int))=l:=fun l=>by
   unfold Lib.bytesOf;rw[List.map_map];have:((fun n:Int=>UInt8.ofNat n.toNat) ∘ fun x:UInt8=>(x.toNat:Int))=id:=by funext x;simp
   rw[this,List.map_id]
  have cl:∀(l:Bs)(g o:Nat),(∀(j:Nat)(x:UInt8),l[j]? = some x->Ty.byte.At G.imm x g (o+j*1))->∀i,i<l.length->w.cell? ((⟨g,o,none⟩:Addr).add i)=some (.int .u8 ((l.map fun x=>(x.toNat:Int)).getD i 0)):=fun l g o h i hi=>by
   have h1:G.imm g (o+i*1)=some (.int .u8 l[i].toNat):=h i _ (List.getElem?_eq_getElem hi);have h1:=hm.agree _ _ _ h1;rw[Nat.mul_one]at h1;rw[Lib.add_plain',h1];simp[List.getD_eq_getElem?_getD,hi]
  have rg:∀l:Bs,∀x∈l.map (fun x=>(x.toNat:Int)),0<=x/\x<256:=fun l x hx=>by
   obtain⟨c,_,rfl⟩:=List.mem_map.1 hx;have:=c.toNat_lt;omega
  have h:=Any.bytes_Index_at Tryz.lays185 ⟨g,o,none⟩ ⟨g',o',none⟩ a.length c b.length d (a.map fun x=>(x.toNat:Int)) (b.map fun x=>(x.toNat:Int)) k w (by simp) (by simp) (rg a) (rg b) (cl a g o hcells) (cl b g' o' hcells') hc ha (by unfold maxLen at hb;omega) hk
  rw[bb,bb]at h;exact h.mono fun e w'⟨he,n,hw⟩=>⟨he,by subst hw;exact⟨rfl,rfl,rfl,wF _,fun _ _ _=>rfl⟩⟩
def qsg:IF:=⟨.fn 131,[.h (.list .byte),.h (.list .byte)],[],_,RS.mk (.h (.int .i64)) []⟩
def q73(hi:0∈LC.ints):(qsg.e oo).Sound Tryz.prog:=fun d d' r h=>by
 obtain⟨a,b,_⟩:=d;have h:oo a b=some r:=h;unfold oo at h;cases hd:decide (2<=List.length (α:=UInt8) b/\List.length (α:=UInt8) a<4294967281/\List.length (α:=UInt8) b<=maxLen)<;>rw[hd]at h<;>simp only[qT,qF,reduceCtorEq]at h
 have h:=qJ h;subst h;have hd:=of_decide_eq_true hd;refine⟨call131,c7.data fun w G vs hm hr => ?_⟩
 match vs,hr with
 |[u,v],⟨h1,h2,_⟩=>
  exact(zox hm hi h1 h2 hd.1 hd.2.2 hd.2.1).mono fun e w'⟨he,hw⟩=>⟨_,he,rfl,hw⟩
end Go.Sym
namespace Go.Sym
open Go.Proofs Go.RowKit Go.Sort
variable[LC]
def bz.trans{w w1 w2:World}(h:bz w w1)(k:bz w1 w2):bz w w2:=
 ⟨k.os.trans h.os,k.tape.trans h.tape,k.output.trans h.output,Nat.le_trans h.size k.size,fun j hj _=>(k.block j (Nat.lt_of_lt_of_le hj h.size) (fun h=>h)).trans (h.block j hj (fun h=>h))⟩
def zg5{l:Bs}{v:Int}(h:Lib.atoiAll l = .ok v) : -9223372036854775808<=v/\v<=9223372036854775807:=by
 unfold Lib.atoiAll at h;split at h
 ·cases h
 ·simp only at h;split at h
  ·cases h
  ·cases h
  ·split at h
   ·cases h
   ·split at h
    ·cases h
    ·rename_i h1 h2;injection h with h
     split at h<;>rename_i h3
     ·simp only[h3,not_true_eq_false,false_and,true_and]at h1 h2;omega
     ·simp only[h3,not_false_eq_true,true_and,false_and]at h1 h2;omega
def zjl{G:Gh}{w:World}(hm:ci G [] w)(hg:LC.glob 3=some ⟨.int .u64,Lib.pow10Tab⟩)(hs:(3,20)∈LC.sizes)(h1:6∈LC.ifs)(h2:7∈LC.ifs)(s:Bs)(most:Int)(hl:s.length<=281474976710656) :
  Calls Tryz.prog 195 #[.string ⟨s.toArray⟩,.int .i64 most] w fun e w'=>e = .returned (.tuple #[.int .i64 (kp s most).1,.bool (kp s most).2])/\bz w w':=by
 have hsz:(⟨s.toArray⟩:ByteArray).size=s.length:=pw s;have hd:(⟨s.toArray⟩:ByteArray).data.toList=s:=by simp
 have bw:∀t:ByteArray,bz w (Lib.bytesWorld w 5 t):=fun t=>by
  refine⟨rfl,rfl,rfl,?_,fun j hj _ => ?_⟩
  ·simp[Lib.bytesWorld,World.freeze]
  ·show((w.heap.push _).modify w.heap.size _)[j]? = _;rw[Array.getElem?_modify,qW,Array.getElem?_push_lt (by omega)]
   exact(Array.getElem?_eq_getElem hj).symm
 have bad:(Calls Tryz.prog 219 #[.string ⟨s.toArray⟩] w fun e w'=>(∃n t v,e = .returned (.tuple #[.int .i64 n,.iface t v]))/\bz w w') ->
   Calls Tryz.prog 195 #[.string ⟨s.toArray⟩,.int .i64 most] w fun e w'=>e = .returned (.tuple #[.int .i64 0,.bool false])/\bz w w':=fun cA=>by
  clear hg hs hm
  go_enter Tryz.func195,Tryz.ntmps195
  go_wp2_with (go_at_call 219;refine cA.mono ?_;rintro e wa ⟨⟨n,t,v,rfl⟩,sa⟩)
  all_goals (clear cA;go_ret2;exact⟨rfl,sa⟩)
 unfold kp
 cases hA:Lib.atoiAll s with
 |ok v=>
  obtain⟨b1,b2⟩:=zg5 hA;have cA:Calls Tryz.prog 219 #[.string ⟨s.toArray⟩] w fun e w'=>e = .returned (.tuple #[.int .i64 v,.nilIface])/\bz w w':=
   (Any.strconv_Atoi_ok Tryz.laysC172 ⟨s.toArray⟩ (by omega) v (by rw[hd];exact hA) w).mono fun e w'⟨he,hw⟩=>⟨he,by
    rcases hw with rfl|⟨t,rfl⟩
    ·exact bz.refl _
    ·exact bw t⟩
  have cI:∀w',bz w w'->Calls Tryz.prog 94 #[.int .i64 v] w' fun e w''=>e = .returned (.string ⟨(Lib.itoa v).toArray⟩)/\bz w' w'':=fun w' h=>zbe (hm.still h) hg hs v b1 b2
  have hse:(⟨(Lib.itoa v).toArray⟩:ByteArray)=⟨s.toArray⟩↔Lib.itoa v=s:=by
   constructor
   ·intro h;have:=congrArg (fun x:ByteArray=>x.data.toList) h;simpa using this
   ·intro h;rw[h]
  show Calls Tryz.prog 195 _ w fun e w'=>e = .returned (.tuple #[.int .i64 (if Lib.itoa v=s/\0<=v/\v<=most then(v,true) else(0,false)).1,.bool (if Lib.itoa v=s/\0<=v/\v<=most then(v,true) else(0,false)).2])/\bz w w'
  generalize Lib.itoa v=t at cI hse ⊢;obtain⟨r,hr⟩:∃r,r=(if t=s/\0<=v/\v<=most then(v,true) else(0,false)):=⟨_,rfl⟩
  rw[← hr];clear hA hg hs hm
  go_enter Tryz.func195,Tryz.ntmps195
  go_wp2_with (first|(go_at_call 219;refine cA.mono ?_;rintro e wa ⟨rfl,sa⟩)|(go_at_call 94;refine(cI _ (by assumption)).mono ?_;rintro e wb ⟨rfl,sb⟩))
  all_goals (clear cA cI;go_ret2)
  all_goals (by_cases q:t=s/\0<=v/\v<=most)
  all_goals first
   |(rw[qX q]at hr;subst hr;first|exact⟨rfl,sa.trans sb⟩|(exfalso;omega)|(exfalso;exact absurd q.1 (by assumption)))
   |(rw[qW q]at hr;subst hr;first|exact⟨rfl,sa.trans sb⟩|(exfalso;exact q ⟨by assumption,by omega,by omega⟩))
 |range=>
  obtain⟨te,pe,hv⟩:=hm.tab.2.2.1 _ h2;have cA:Calls Tryz.prog 219 #[.string ⟨s.toArray⟩] w fun e w'=>(∃n t v,e = .returned (.tuple #[.int .i64 n,.iface t v]))/\bz w w':=
   (Any.strconv_Atoi_range Tryz.laysC172 ⟨s.toArray⟩ (by omega) (by rw[hd];exact hA) _ w (hm.agree _ _ _ hv) (.inr ⟨_,_,rfl⟩)).mono fun e w'⟨N,he,_,_,hw⟩=>⟨⟨_,_,_,he⟩,bz.of_below hw⟩
  exact bad cA
 |_=>
  obtain⟨te,pe,hv⟩:=hm.tab.2.2.1 _ h1;have cA:Calls Tryz.prog 219 #[.string ⟨s.toArray⟩] w fun e w'=>(∃n t v,e = .returned (.tuple #[.int .i64 n,.iface t v]))/\bz w w':=
   (Any.strconv_Atoi_syntax Tryz.laysC172 ⟨s.toArray⟩ (by omega) (by rw[hd];exact hA) _ w (hm.agree _ _ _ hv) (.inr ⟨_,_,rfl⟩)).mono fun e w'⟨N,he,_,_,hw⟩=>⟨⟨_,_,_,he⟩,bz.of_below hw⟩
  exact bad cA
def q03:IF:=⟨.fn 195,[.h .str,.h (.int .i64)],[],_,RS.mk (.tup [.h (.int .i64),.h .bool]) []⟩
def zjj(hg:LC.glob 3=some ⟨.int .u64,Lib.pow10Tab⟩)(hs:(3,20)∈LC.sizes)(h1:6∈LC.ifs)(h2:7∈LC.ifs):(q03.e yl).Sound Tryz.prog:=fun d d' r h=>by
 obtain⟨s,most,_⟩:=d;have h:yl s most=some r:=h;unfold yl at h;cases hd:decide (List.length (α:=UInt8) s<=281474976710656)<;>rw[hd]at h<;>simp only[qT,qF,reduceCtorEq]at h
 have h:=qJ h;subst h;refine⟨Tryz.call195,c7.data fun w G vs hm hr => ?_⟩
 match vs,hr with
 |[u,v],⟨e1,e2,_⟩=>
  have e1:u = .string ⟨List.toArray s⟩:=e1;have e2:v = .int .i64 most:=e2;subst e1 e2;exact(zjl hm hg hs h1 h2 s most (of_decide_eq_true hd)).mono fun e w'⟨he,hw⟩=>⟨_,he,⟨_,rfl,rfl,rfl,trivial⟩,hw⟩
end Go.Sym
namespace Go.Sym
open Go.Proofs Go.RowKit
variable[LC]
def zy(w:World)(o:Obj){k:Nat}(hk:k<w.heap.size):(w.alloc o).heap[k]? = w.heap[k]? := by
 show(w.heap.push _)[k]? = _;rw[Array.getElem?_push_lt hk];exact(Array.getElem?_eq_getElem hk).symm
def qqp(w:World)(E:TypeId)(sz:Nat):fj (w.alloc (.cells #[] E)) E sz (some ⟨w.heap.size,0,none⟩) 0 0 []:=
 ⟨by simp,.inr ⟨w.heap.size,#[],(0,0),rfl,by show(w.heap.push _)[w.heap.size]? = _;simp,.inl rfl,wF _,by unfold maxLen;omega,by simp,by simp,by simp⟩⟩
def zev(l:List (.prod .str .str:Ty).den)(hd:l.length<=bg):c7 Tryz.prog 38 [.sl (.prod .str .str) l] [] (.own 0) [(0,.row (.prod .str .str) l 50)]:=by
 refine c7.fresh fun w G vs hm hr => ?_
 match vs,hr with
 |[v],⟨h1,_⟩=>
  obtain⟨news,k1,k2,k3,k4⟩:=qum (P:=Tryz.prog) hm h1;have hnl:news.length=l.length*(.prod .str .str:Ty).sz:=by rw[← k3.length];exact lg l
  obtain⟨p,c,rfl,hc,hp⟩:jf (.prod .str .str:Ty).sz ((.prod .str .str:Ty).At G.imm) l v:=h1
  cases p with
  |none=>
   have hl:l=[]:=by
    rcases hp with h|⟨_,_,h,_⟩
    ·exact h
    ·cases h
   subst hl;have e0:news=[]:=List.eq_nil_of_length_eq_zero (by rw[hnl];exact Nat.zero_mul _)
   subst e0;have hg:Calls Tryz.prog 38 #[.slice none 0 c] w fun e w'=>e = .returned (.slice none 0 0)/\w'=w:=by
    clear hp hr k1 k2 hm hnl hc hd k3 k4;have q22:∀(w:World)(a:Option Addr)(n c n' c':Nat),(binOp .eql 22 (.slice a n c) (.slice none n' c')).run Tryz.prog w = .ok (.bool a.isNone) w:=fun w a n c n' c'=>Lib.run_eql_slice_nil w _ _ a n c n' c' Tryz.underlying22
    have u22:∀w,Sem.run Tryz.prog (underlying 22) w = .ok (TypeDesc.slice 50) w:=run_underlying Tryz.underlying22
    go_enter Tryz.func38,Tryz.ntmps38
    go_wp2
    go_ret
    exact⟨rfl,rfl⟩
   exact hg.mono fun e w'⟨he,hw⟩=>⟨none,0,[],he,⟨rfl,.inl ⟨rfl,rfl,rfl⟩⟩,k3,fun b hb=>(by cases hb),by subst hw;exact bz.refl _⟩
  |some ad=>
   generalize hn:l.length=n at *;have hg:Calls Tryz.prog 38 #[.slice (some ad) n c] w fun e w'=>∃ad' c',e = .returned (.slice ad' n c')/\fj w' 50 (.prod .str .str:Ty).sz ad' n c' news/\(∀b,ck ad'=some b->w.heap.size<=b)/\bz w w':=by
    clear hm k3 hr hp hn;have q22:∀(w:World)(a:Option Addr)(n c n' c':Nat),(binOp .eql 22 (.slice a n c) (.slice none n' c')).run Tryz.prog w = .ok (.bool a.isNone) w:=fun w a n c n' c'=>Lib.run_eql_slice_nil w _ _ a n c n' c' Tryz.underlying22
    have u22:∀w,Sem.run Tryz.prog (underlying 22) w = .ok (TypeDesc.slice 50) w:=run_underlying Tryz.underlying22
    go_enter Tryz.func38,Tryz.ntmps38
    go_wp2_with (at_builtin;refine qsb rfl _ _ 22 rfl (E:=50) (sz:=(.prod .str .str:Ty).sz) (by kernel_rfl) (by kernel_rfl) (by kernel_rfl) (by kernel_rfl) rfl (qqp w 50 _) rfl k1 ?qc hnl k4 (by omega) ?_)
    case qc=>exact fun w' hw'=>k2 w' fun k hk=>by rw[hw'];exact zy w _ hk
    intro ad' c' w1 hrow hblk hbel
    go_wp2
    go_ret
    refine⟨ad',c',rfl,by simpa using hrow,fun b hb => ?_,⟨hbel.os,hbel.tape,hbel.output,Nat.le_trans (by show w.heap.size<=(w.heap.push _).size;simp) hbel.size,fun k hk _ => ?_⟩⟩
    ·rcases hblk with h|⟨g,h,hg⟩
     ·rw[h]at hb;injection hb with hb;have hb:w.heap.size=b:=hb;omega
     ·rw[h]at hb;injection hb with hb
      have:w.heap.size<=(w.alloc (.cells #[] 50)).heap.size:=by show w.heap.size<=(w.heap.push _).size;simp
      omega
    ·rw[hbel.block k (by show k<(w.heap.push _).size;simp;omega) (fun e=>by injection e with e;have e:w.heap.size=k:=e;omega)]
     exact zy w _ hk
   exact hg.mono fun e w'⟨ad',c',he,hrow,hb,hs⟩=>⟨ad',c',news,he,hrow,k3,hb,hs⟩
def wq:IF:=⟨.fn 38,[.h (.list (.prod .str .str))],[],_,RS.mk (.own 0) [(0,.row (.prod .str .str) 50)]⟩
def yv:(wq.e (cd (α:=(.prod .str .str:Ty).den))).Sound Tryz.prog:=fun d d' r h=>by
 obtain⟨l,_⟩:=d;have h:(bif decide (List.length (α:=(.prod .str .str:Ty).den) l<=bg) then some (show List (.prod .str .str:Ty).den from l) else none)=some r:=h
 cases hd:decide (List.length (α:=(.prod .str .str:Ty).den) l<=bg)<;>rw[hd]at h<;>simp only[qT,qF,reduceCtorEq]at h
 have h:=qJ h;subst h;exact⟨Tryz.call38,zev l (of_decide_eq_true hd)⟩
def zbo(l:List (.byte:Ty).den)(hd:l.length<=bg):c7 Tryz.prog 39 [.sl (.byte) l] [] (.own 0) [(0,.row (.byte) l 5)]:=by
 refine c7.fresh fun w G vs hm hr => ?_
 match vs,hr with
 |[v],⟨h1,_⟩=>
  obtain⟨news,k1,k2,k3,k4⟩:=qum (P:=Tryz.prog) hm h1;have hnl:news.length=l.length*(.byte:Ty).sz:=by rw[← k3.length];exact lg l
  obtain⟨p,c,rfl,hc,hp⟩:jf (.byte:Ty).sz ((.byte:Ty).At G.imm) l v:=h1
  cases p with
  |none=>
   have hl:l=[]:=by
    rcases hp with h|⟨_,_,h,_⟩
    ·exact h
    ·cases h
   subst hl;have e0:news=[]:=List.eq_nil_of_length_eq_zero (by rw[hnl];exact Nat.zero_mul _)
   subst e0;have hg:Calls Tryz.prog 39 #[.slice none 0 c] w fun e w'=>e = .returned (.slice none 0 0)/\w'=w:=by
    clear hp hr k1 k2 hm hnl hc hd k3 k4;have q22:∀(w:World)(a:Option Addr)(n c n' c':Nat),(binOp .eql 23 (.slice a n c) (.slice none n' c')).run Tryz.prog w = .ok (.bool a.isNone) w:=fun w a n c n' c'=>Lib.run_eql_slice_nil w _ _ a n c n' c' Tryz.underlying23
    have u22:∀w,Sem.run Tryz.prog (underlying 23) w = .ok (TypeDesc.slice 5) w:=run_underlying Tryz.underlying23
    go_enter Tryz.func39,Tryz.ntmps39
    go_wp2
    go_ret
    exact⟨rfl,rfl⟩
   exact hg.mono fun e w'⟨he,hw⟩=>⟨none,0,[],he,⟨rfl,.inl ⟨rfl,rfl,rfl⟩⟩,k3,fun b hb=>(by cases hb),by subst hw;exact bz.refl _⟩
  |some ad=>
   generalize hn:l.length=n at *;have hg:Calls Tryz.prog 39 #[.slice (some ad) n c] w fun e w'=>∃ad' c',e = .returned (.slice ad' n c')/\fj w' 5 (.byte:Ty).sz ad' n c' news/\(∀b,ck ad'=some b->w.heap.size<=b)/\bz w w':=by
    clear hm k3 hr hp hn;have q22:∀(w:World)(a:Option Addr)(n c n' c':Nat),(binOp .eql 23 (.slice a n c) (.slice none n' c')).run Tryz.prog w = .ok (.bool a.isNone) w:=fun w a n c n' c'=>Lib.run_eql_slice_nil w _ _ a n c n' c' Tryz.underlying23
    have u22:∀w,Sem.run Tryz.prog (underlying 23) w = .ok (TypeDesc.slice 5) w:=run_underlying Tryz.underlying23
    go_enter Tryz.func39,Tryz.ntmps39
    go_wp2_with (at_builtin;refine qsb rfl _ _ 23 rfl (E:=5) (sz:=(.byte:Ty).sz) (by kernel_rfl) (by kernel_rfl) (by kernel_rfl) (by kernel_rfl) rfl (qqp w 5 _) rfl k1 ?qc hnl k4 (by omega) ?_)
    case qc=>exact fun w' hw'=>k2 w' fun k hk=>by rw[hw'];exact zy w _ hk
    intro ad' c' w1 hrow hblk hbel
    go_wp2
    go_ret
    refine⟨ad',c',rfl,by simpa using hrow,fun b hb => ?_,⟨hbel.os,hbel.tape,hbel.output,Nat.le_trans (by show w.heap.size<=(w.heap.push _).size;simp) hbel.size,fun k hk _ => ?_⟩⟩
    ·rcases hblk with h|⟨g,h,hg⟩
     ·rw[h]at hb;injection hb with hb;have hb:w.heap.size=b:=hb;omega
     ·rw[h]at hb;injection hb with hb
      have:w.heap.size<=(w.alloc (.cells #[] 5)).heap.size:=by show w.heap.size<=(w.heap.push _).size;simp
      omega
    ·rw[hbel.block k (by show k<(w.heap.push _).size;simp;omega) (fun e=>by injection e with e;have e:w.heap.size=k:=e;omega)]
     exact zy w _ hk
   exact hg.mono fun e w'⟨ad',c',he,hrow,hb,hs⟩=>⟨ad',c',news,he,hrow,k3,hb,hs⟩
def qf5:IF:=⟨.fn 39,[.h (.list (.byte))],[],_,RS.mk (.own 0) [(0,.row (.byte) 5)]⟩
def qh6:(qf5.e (cd (α:=(.byte:Ty).den))).Sound Tryz.prog:=fun d d' r h=>by
 obtain⟨l,_⟩:=d;have h:(bif decide (List.length (α:=(.byte:Ty).den) l<=bg) then some (show List (.byte:Ty).den from l) else none)=some r:=h
 cases hd:decide (List.length (α:=(.byte:Ty).den) l<=bg)<;>rw[hd]at h<;>simp only[qT,qF,reduceCtorEq]at h
 have h:=qJ h;subst h;exact⟨Tryz.call39,zbo l (of_decide_eq_true hd)⟩
def zoh(l:List (.prod .str .str:Ty).den)(hd:l.length<=bg):c7 Tryz.prog 71 [.sl (.prod .str .str) l] [] (.own 0) [(0,.row (.prod .str .str) l 86)]:=by
 refine c7.fresh fun w G vs hm hr => ?_
 match vs,hr with
 |[v],⟨h1,_⟩=>
  obtain⟨news,k1,k2,k3,k4⟩:=qum (P:=Tryz.prog) hm h1;have hnl:news.length=l.length*(.prod .str .str:Ty).sz:=by rw[← k3.length];exact lg l
  obtain⟨p,c,rfl,hc,hp⟩:jf (.prod .str .str:Ty).sz ((.prod .str .str:Ty).At G.imm) l v:=h1
  cases p with
  |none=>
   have hl:l=[]:=by
    rcases hp with h|⟨_,_,h,_⟩
    ·exact h
    ·cases h
   subst hl;have e0:news=[]:=List.eq_nil_of_length_eq_zero (by rw[hnl];exact Nat.zero_mul _)
   subst e0;have hg:Calls Tryz.prog 71 #[.slice none 0 c] w fun e w'=>e = .returned (.slice none 0 0)/\w'=w:=by
    clear hp hr k1 k2 hm hnl hc hd k3 k4;have q22:∀(w:World)(a:Option Addr)(n c n' c':Nat),(binOp .eql 81 (.slice a n c) (.slice none n' c')).run Tryz.prog w = .ok (.bool a.isNone) w:=fun w a n c n' c'=>Lib.run_eql_slice_nil w _ _ a n c n' c' Tryz.underlying81
    have u22:∀w,Sem.run Tryz.prog (underlying 81) w = .ok (TypeDesc.slice 86) w:=run_underlying Tryz.underlying81
    go_enter Tryz.func71,Tryz.ntmps71
    go_wp2
    go_ret
    exact⟨rfl,rfl⟩
   exact hg.mono fun e w'⟨he,hw⟩=>⟨none,0,[],he,⟨rfl,.inl ⟨rfl,rfl,rfl⟩⟩,k3,fun b hb=>(by cases hb),by subst hw;exact bz.refl _⟩
  |some ad=>
   generalize hn:l.length=n at *;have hg:Calls Tryz.prog 71 #[.slice (some ad) n c] w fun e w'=>∃ad' c',e = .returned (.slice ad' n c')/\fj w' 86 (.prod .str .str:Ty).sz ad' n c' news/\(∀b,ck ad'=some b->w.heap.size<=b)/\bz w w':=by
    clear hm k3 hr hp hn;have q22:∀(w:World)(a:Option Addr)(n c n' c':Nat),(binOp .eql 81 (.slice a n c) (.slice none n' c')).run Tryz.prog w = .ok (.bool a.isNone) w:=fun w a n c n' c'=>Lib.run_eql_slice_nil w _ _ a n c n' c' Tryz.underlying81
    have u22:∀w,Sem.run Tryz.prog (underlying 81) w = .ok (TypeDesc.slice 86) w:=run_underlying Tryz.underlying81
    go_enter Tryz.func71,Tryz.ntmps71
    go_wp2_with (at_builtin;refine qsb rfl _ _ 81 rfl (E:=86) (sz:=(.prod .str .str:Ty).sz) (by kernel_rfl) (by kernel_rfl) (by kernel_rfl) (by kernel_rfl) rfl (qqp w 86 _) rfl k1 ?qc hnl k4 (by omega) ?_)
    case qc=>exact fun w' hw'=>k2 w' fun k hk=>by rw[hw'];exact zy w _ hk
    intro ad' c' w1 hrow hblk hbel
    go_wp2
    go_ret
    refine⟨ad',c',rfl,by simpa using hrow,fun b hb => ?_,⟨hbel.os,hbel.tape,hbel.output,Nat.le_trans (by show w.heap.size<=(w.heap.push _).size;simp) hbel.size,fun k hk _ => ?_⟩⟩
    ·rcases hblk with h|⟨g,h,hg⟩
     ·rw[h]at hb;injection hb with hb;have hb:w.heap.size=b:=hb;omega
     ·rw[h]at hb;injection hb with hb
      have:w.heap.size<=(w.alloc (.cells #[] 86)).heap.size:=by show w.heap.size<=(w.heap.push _).size;simp
      omega
    ·rw[hbel.block k (by show k<(w.heap.push _).size;simp;omega) (fun e=>by injection e with e;have e:w.heap.size=k:=e;omega)]
     exact zy w _ hk
   exact hg.mono fun e w'⟨ad',c',he,hrow,hb,hs⟩=>⟨ad',c',news,he,hrow,k3,hb,hs⟩
def q29:IF:=⟨.fn 71,[.h (.list (.prod .str .str))],[],_,RS.mk (.own 0) [(0,.row (.prod .str .str) 86)]⟩
def zm7:(q29.e (cd (α:=(.prod .str .str:Ty).den))).Sound Tryz.prog:=fun d d' r h=>by
 obtain⟨l,_⟩:=d;have h:(bif decide (List.length (α:=(.prod .str .str:Ty).den) l<=bg) then some (show List (.prod .str .str:Ty).den from l) else none)=some r:=h
 cases hd:decide (List.length (α:=(.prod .str .str:Ty).den) l<=bg)<;>rw[hd]at h<;>simp only[qT,qF,reduceCtorEq]at h
 have h:=qJ h;subst h;exact⟨Tryz.call71,zoh l (of_decide_eq_true hd)⟩
end Go.Sym
namespace Go.Sym
open Go.Proofs Go.RowKit Go.Sort
variable[LC]
def c7.inPlaceA{ys:List AV}{P:Program}{f:FuncId}{τ:Ty}{l l':List τ.den}{E:TypeId}(ac:l'.length=l.length)(h:∀(w:World)(G:Gh)(ad:Option Addr)(c:Nat)(us vs:List Value),fj w E τ.sz ad l.length c us->ak (l.flatMap τ.enc) G.data us->ak ys G vs ->
  Calls P f (Value.slice ad l.length c::vs).toArray w fun e w'=>e = .returned (.tuple #[])/\∃us',fj w' E τ.sz ad l.length c us'/\ak (l'.flatMap τ.enc) G.data us'/\ee (fun b=>ck ad=some b) w w') :
  c7 P f (.own 0::ys) [(0,.row τ l E)] (.tup []) [(0,.row τ l' E)]:=by
 intro w G vs hm hreps;have hl:ae [(0,ag.row τ l E)] 0=some (.row τ l E):=rfl;obtain⟨ad,c,us,h1,h3,h4,h5⟩:=(hm.holds 0 _ hl).rowAt
 match vs,hreps with
 |v::vs,hreps=>
  obtain⟨⟨a',n',c',q1,rfl⟩,hys⟩:=hreps;rw[h1]at q1;simp only[qI,qP]at q1;obtain⟨rfl,rfl,rfl⟩:=q1;refine(h w G ad c us vs h3 h4 hys).mono ?_;rintro e w' ⟨rfl,us',r1,r2,r3⟩
  refine⟨_,G,rfl,?_,#[],rfl,trivial⟩;have hself:=zt hm;have hbox:db G w' 0 (.row τ l' E):=db.row (by rw[ac];exact h1) (by rw[ac];exact r1) r2 (fun b hb=>h5 b hb)
  cases had:ck ad with
  |none=>
   have hst:bz w w':=⟨r3.os,r3.tape,r3.output,r3.size,fun k hk _=>r3.block k hk (fun e=>by rw[had]at e;cases e)⟩
   have hf:=hself.extend (new:=[]) (Gh.le.refl G) hst (fun _ _ _ h => .inl h) (fun b o v hv=>by
    have hc:=hm.agree b o v hv;have hlt:=World.block_lt_of_cell? _ _ hc;rw[World.cell?_of_block (w:=w) (hst.block b hlt (fun h=>h))];exact hc) hm.one (fun n bx h=>by cases h) (fun n bx h=>by cases h) (fun n m bx bx' b h=>by cases h)
   have hlk:∀m b,ae [(0,ag.row τ l' E)] m=some b->m=0/\b = .row τ l' E:=fun m b hh=>by
    simp only[ae]at hh;cases hb:Nat.beq 0 m
    ·rw[hb]at hh;cases hh
    ·rw[hb]at hh;simp only[qT,qI]at hh;exact⟨(qN hb).symm,hh.symm⟩
   have hat:G.at 0 (.row τ l' E)=none:=by
    simp only[Gh.at,h1]
    cases ad with|none=>rfl|some a=>cases had
   refine⟨⟨hf.mem.agree,hf.mem.one,fun m b hh => ?_,fun m m' b b' c h1 h2 h3 _ => ?_,hf.mem.tab⟩,hf.bel,hf.imm_le,hf.imm_new,fun m b c h1 h2 => ?_,hf.keep,hf.keepOwn⟩
   ·obtain⟨rfl,rfl⟩:=hlk m b hh;exact hbox
   ·obtain⟨rfl,_⟩:=hlk m b h1;obtain⟨rfl,_⟩:=hlk m' b' h2;rfl
   ·obtain⟨rfl,rfl⟩:=hlk m b h1;rw[hat]at h2;cases h2
  |some B=>
   have hat:∀l:List τ.den,G.at 0 (.row τ l E)=some B:=fun l=>by
    simp only[Gh.at,h1]
    cases ad with
    |none=>cases had
    |some a=>exact had
   have hf:=hself.update (bx' := .row τ l' E) hl (hat l) (hat l') ⟨r3.os,r3.tape,r3.output,r3.size,fun k hk hne=>r3.block k hk (fun e=>by rw[had]at e;injection e with e;exact hne e.symm)⟩ hbox (h5 B had)
   have hlk:∀m b,ae [(0,ag.row τ l' E)] m=some b->ae (qz [(0,ag.row τ l E)] 0 (.row τ l' E)) m=some b:=fun m b hh=>by
    simp only[ae]at hh;simp only[qz,ae];cases hb:Nat.beq 0 m
    ·rw[hb]at hh;cases hh
    ·rw[hb]at hh;exact hh
   exact⟨⟨hf.mem.agree,hf.mem.one,fun m b hh=>hf.mem.holds m b (hlk m b hh),fun m m' b b' c h1 h2 h3 h4=>hf.mem.apart m m' b b' c (hlk _ _ h1) (hlk _ _ h2) h3 h4,hf.mem.tab⟩,hf.bel,hf.imm_le,hf.imm_new,fun m b c h1 h2=>hf.base m b c (hlk _ _ h1) h2,hf.keep,hf.keepOwn⟩
 |[],hreps=>exact hreps.elim
def zd4(w:World)(n g:Nat)(d:Array Value)(os:Array Obj)(k:Nat)(hk:k<w.heap.size)(hne:k≠g):(grow (putRow id (Sort.ahead w n) g 0 d) os).heap[k]? = w.heap[k]? := by
 show((w.heap.modify g (onCells (putCells id 0 d)))++os)[k]? = _;rw[Array.getElem?_append_left (by simpa using hk),Array.getElem?_modify,qW]
def zly(w:World)(n g:Nat)(d:Array Value)(os:Array Obj){cur:Array Value}{e:TypeId}{fr:Nat×Nat}(hh:w.heap[g]? = some (.cells cur e fr)) :
  (grow (putRow id (Sort.ahead w n) g 0 d) os).heap[g]? = some (.cells (putCells id 0 d cur) e fr):=by
 have hg:g<w.heap.size:=(Array.getElem?_eq_some_iff.1 hh).1;show((w.heap.modify g (onCells (putCells id 0 d)))++os)[g]? = _;rw[Array.getElem?_append_left (by simpa using hg),Array.getElem?_modify,qX rfl,hh]
 rfl
def zcq(zs:List Value)(cur:Array Value)(h:zs.length<=cur.size):(putCells id 0 zs.toArray cur).toList.take zs.length=zs:=by
 apply List.ext_getElem?;intro j;rw[List.getElem?_take];by_cases hj:j<zs.length
 ·rw[qX hj,Array.getElem?_toList];unfold putCells;rw[Array.getElem?_mapIdx,Array.getElem?_eq_getElem (by omega)]
  simp[hj]
 ·rw[qW hj];exact(List.getElem?_eq_none (by omega)).symm
def zwg(w:World)(n g:Nat)(d:Array Value)(os:Array Obj):w.heap.size<=(grow (putRow id (Sort.ahead w n) g 0 d) os).heap.size:=by
 show w.heap.size<=((w.heap.modify g (onCells (putCells id 0 d)))++os).size;simp
def zb7(zs:List Value)(cur:Array Value)(v:Value)(hv:v∈(putCells id 0 zs.toArray cur).toList):v∈cur.toList\/v∈zs:=by
 unfold putCells at hv;rw[Array.mem_toList_iff,Array.mem_mapIdx]at hv;obtain⟨j,hj,rfl⟩:=hv;split
 ·rename_i hj2;have hj3:j<zs.length:=by simpa using hj2
  refine .inr ?_;simp[hj3]
 ·exact .inl (by simp)
end Go.Sym
namespace Go.Sym
open Go.Proofs Go.RowKit Go.Sort
variable[LC]
def q14{α:Type}[Inhabited α](enc:α->List Value)(k:Nat)(hk:∀x,(enc x).length=k)(l:List α):flatK enc k l.toArray=(l.flatMap enc).toArray:=by
 have key:∀(l:List α)(t:Nat),t<l.length*k->(l.flatMap enc)[t]? = some ((enc l[t/k]!)[t%k]!):=by
  intro l
  induction l with
  |nil=>intro t ht;simp at ht|cons x l ih=>
   intro t ht;have k0:0<k:=by
    rcases Nat.eq_zero_or_pos k with h|h;· subst h;simp at ht
    ·exact h
   rw[List.flatMap_cons];by_cases h:t<k
   ·rw[List.getElem?_append_left (by rw[hk];exact h),Nat.div_eq_of_lt h,Nat.mod_eq_of_lt h,List.getElem?_eq_getElem (by rw[hk];exact h)]
    simp[hk,h]
   ·rw[List.getElem?_append_right (by rw[hk];omega),hk,ih (t-k) (by rw[qL,Nat.add_mul,Nat.one_mul]at ht;omega)]
    obtain⟨u,rfl⟩:∃u,t=u+k:=⟨t-k,by omega⟩
    rw[Nat.add_sub_cancel,Nat.add_mod_right,Nat.add_div_right _ k0];simp
 have ac:(l.flatMap enc).length=l.length*k:=by
  clear key
  induction l with|nil=>simp|cons x l ih=>rw[List.flatMap_cons,qM,hk,ih,qL,Nat.add_mul,Nat.one_mul,Nat.add_comm]
 refine ext_get! (by simp[ac]) fun t ht => ?_
 have ht':t<l.length*k:=by simpa using ht
 rw[get_flatK enc k l.toArray t (by simpa using ht')]
 have:=key l t ht';simp only[List.getElem!_toArray];rw[List.getElem!_eq_getElem?_getD (l:=l.flatMap enc),this];rfl
def eq(x:Pq):List Value:=[.string ⟨x.1.1.toArray⟩,.int .i64 x.1.2.1,.bool x.1.2.2.1,.string ⟨x.1.2.2.2.toArray⟩]
def q9k:SWO (ltOf jk):=by
 have e:∀x y:Pq,ltOf jk x y=decide (x.1.2.1<y.1.2.1):=fun x y=>by
  have:=x.2;have:=y.2;unfold ltOf jk;have h:af (x.1.2.1-y.1.2.1)=x.1.2.1-y.1.2.1:=by unfold af;simp[IntKind.wrap,IntKind.bits,IntKind.signed];omega
  rw[h];by_cases q:x.1.2.1<y.1.2.1<;>simp[q]<;>omega
 exact⟨fun x=>by rw[e];simp,fun x y z h1 h2=>by rw[e]at *;simp at *;omega,fun x y z h1 h2=>by rw[e]at *;simp at *;omega⟩
set_option maxHeartbeats 1000000 in
def zw6(x y:Pq)(W:World):Calls Tryz.prog 222 #[.agg (eq x).toArray,.agg (eq y).toArray] W fun e w'=>e = .returned (.int .i64 (jk x y))/\∃q os',w'=grow (W.drewN q) os':=by
 unfold eq jk;obtain⟨⟨a,n,s,v⟩,hx⟩:=x;obtain⟨⟨a',n',s',v'⟩,hy⟩:=y;simp only;have hw:af (n-n')=wrap64 (n-n'):=by show IntKind.i64.wrap (n-n')=_;rw[IntKind.wrap_i64];unfold Go.RowKit.wrap64;rfl
 rw[hw];clear hx hy hw
 go_enter Tryz.func222,Tryz.ntmps222
 go_wp2
 go_ret
 exact⟨rfl,0,_,by rw[alloc_eq_grow,alloc_eq_grow,grow_grow];rfl⟩
abbrev τQ:Ty := .prod .str (.prod (.int .i64) (.prod .bool .str))
def q4r{G:Gh}:∀{l:List Pq}{us:List Value},ak (List.flatMap (β:=AV) τQ.enc (l.map (·.1))) G us->us=l.flatMap eq
 |[],[],_=>rfl|[],_::_,h=>h.elim|x::l,us,h=>by
  match us,h with
  |a::b::c::d::us,h=>
   have h1:a = .string ⟨x.1.1.toArray⟩:=h.1;have h2:b = .int .i64 x.1.2.1:=h.2.1;have h3:c = .bool x.1.2.2.1:=h.2.2.1;have h4:d = .string ⟨x.1.2.2.2.toArray⟩:=h.2.2.2.1;have h5:=q4r (l:=l) h.2.2.2.2;rw[h1,h2,h3,h4,h5];rfl
  |[],h=>exact h.elim|[_],h=>exact h.2.elim|[_,_],h=>exact h.2.2.elim|[_,_,_],h=>exact h.2.2.2.elim
def q9i{G:Gh}:∀(l:List Pq),ak (List.flatMap (β:=AV) τQ.enc (l.map (·.1))) G (l.flatMap eq)
 |[]=>trivial|_::l=>⟨rfl,rfl,rfl,rfl,q9i l⟩
def q6c:∀(l:List Pc)(q:List Pq),ph l=some q->l=q.map (·.1)
 |[],_,h=>by cases h;rfl
 |x::l,q,h=>by
  unfold ph at h;split at h
  ·split at h
   ·rename_i r hr;cases h;rw[q6c l r hr];rfl
   ·cases h
  ·cases h
def qtc(l:List Pq):(ij l).length=l.length:=by
 have h:=(pdq_sorts (ltOf jk) q9k l.toArray 0 l.length (Lib.bitLen l.length) true true (Nat.zero_le _) (by simp) (Or.inl rfl)).1.1
 unfold ij;rw[Array.length_toList,h];simp
def qjf(x:Pq):(eq x).length=4:=rfl
def q7g(l:List Pq):(l.flatMap eq).length=l.length*4:=by
 induction l with|nil=>rfl|cons x l ih=>rw[List.flatMap_cons,qM,qjf,ih,qL];omega
def zsb{w:World}{g:Nat}{vs:Array Value}{fz:Nat×Nat}{E:TypeId}{l:List Pq}(h2:w.heap[g]? = some (.cells vs E fz))(h3:fz=(0,0)\/vs.size<=fz.1)(h4:l.length*4<=vs.size)(h7:vs.toList.take (l.length*4)=l.flatMap eq):HoldsK eq 4 w g 0 l.toArray:=by
 unfold HoldsK;rw[q14 eq 4 qjf];intro j hj;have hl:=q7g l;have hj':j<(l.flatMap eq).length:=by simpa using hj
 have hjv:j<vs.size:=by omega
 refine⟨?_,?_⟩
 ·have hc:(vs.toList.take (l.length*4))[j]? = some ((l.flatMap eq)[j]):=by
   rw[h7,List.getElem?_eq_getElem hj']
  rw[List.getElem?_take,qX]at hc
  simp only[World.cell?,h2,wO];have hg:(l.flatMap eq).toArray[j]! = (l.flatMap eq)[j]:=by rw[getElem!_pos _ j hj];rfl
  rw[hg];simpa using hc
 ·simp only[World.frozen?,h2];rcases h3 with rfl|h3
  ·simp
  ·simp;omega
set_option maxHeartbeats 1000000 in
def zer(q:List Pq)(ac:q.length<=bg):c7 Tryz.prog 221 [.own 0,.fn (.func 222) [] []] [(0,.row τQ (q.map (·.1)) 209)] (.tup []) [(0,.row τQ ((ij q).map (·.1)) 209)]:=by
 unfold bg at ac
 refine c7.inPlaceA (by show((ij q).map (·.1)).length=(q.map (·.1)).length;rw[wC,wC,qtc]) (fun w G ad c us fvs hrow hreps hfv => ?_)
 have hus:=q4r hreps;have hfv:fvs=[.func (.func 222) #[] #[]]:=by
  match fvs,hfv with
  |[v],⟨h,_⟩=>
   obtain⟨us1,us2,k1,k2,k3⟩:=h;have e1:us1=#[]:=Array.eq_empty_of_size_eq_zero k2.length.symm;have e2:us2=#[]:=Array.eq_empty_of_size_eq_zero k3.length.symm;subst e1;subst e2;rw[k1]
 subst hfv;have hml:(q.map (fun x=>x.1)).length=q.length:=wC ..
 obtain⟨hul,hrow⟩:=hrow
 have hnone:q=[]->Calls Tryz.prog 221 (Value.slice ad (q.map (fun x=>x.1)).length c::[.func (.func 222) #[] #[]]).toArray w fun e w'=>e = .returned (.tuple #[])/\∃us',fj w' 209 τQ.sz ad (q.map (fun x=>x.1)).length c us'/\ak (List.flatMap (β:=AV) τQ.enc ((ij q).map (·.1))) G.data us'/\ee (fun b=>ck ad=some b) w w':=fun hq=>by
  subst hq;refine(AnyF.slices_SortFunc_none Tryz.sortP ad c (.func (.func 222) #[] #[]) w).mono ?_;rintro e w' ⟨rfl,rfl⟩
  refine⟨rfl,us,⟨hul,hrow⟩,?_,⟨rfl,rfl,rfl,wF _,fun _ _ _=>rfl⟩⟩
  rw[hus];have e:ij []=[]:=List.eq_nil_of_length_eq_zero (qtc []);rw[e];exact trivial
 by_cases hq:q=[]
 ·exact hnone hq
 rcases hrow with⟨rfl,h2,rfl⟩|⟨g,vs,fz,rfl,h2,h3,h4,h5,h6,h7,h8⟩
 ·exact absurd (List.eq_nil_of_length_eq_zero (by rw[← hml];exact h2)) hq
 ·have hlt:g<w.heap.size:=(Array.getElem?_eq_some_iff.1 h2).1;have hs4:τQ.sz=4:=rfl;rw[hs4]at h6 h7 hul;have h4':q.length<=c:=by rw[← hml];exact h4
  have hH:=zsb (l:=q) h2 h3 (by omega) (by rw[← hus];have h7':=h7;rw[show(List.length (α:=τQ.den) (q.map fun x=>x.1))=q.length from hml]at h7';exact h7')
  have hcmp:CmpLays Tryz.prog 222 #[] eq 4 jk g 0 q.toArray.size w:=fun m os dk _ x y=>zw6 x y _
  have key:=AnyQ.slices_SortFunc_eq (P:=Tryz.prog) Tryz.sortP 4 Tryz.isAgg209 Tryz.sizeOf209 eq qjf (by intro x v hv;simp only[eq,wE,List.not_mem_nil,or_false]at hv;rcases hv with rfl|rfl|rfl|rfl<;>rfl) jk q9k 222 #[] g 0 c q.toArray w Tryz.call222 hcmp hH hlt (by simp;omega)
  have hargs:#[Value.slice (some ⟨g,0,none⟩) (List.length (α:=τQ.den) (List.map (β:=τQ.den) (fun x:Pq=>x.1) q)) c,Value.func (.func 222) #[] #[]]=#[.slice (some ⟨g,0,none⟩) q.toArray.size c,.func (.func 222) #[] #[]]:=by
   rw[show List.length (α:=τQ.den) (List.map (β:=τQ.den) (fun x:Pq=>x.1) q)=q.toArray.size from hml.trans (by simp)]
  refine Eq.mpr (congrArg (fun a=>Calls _ _ a _ _) hargs) (key.mono ?_)
  rintro e w' ⟨rfl,n,os,rfl⟩
  have hsl:=qtc q;have hw:sortWorldK eq 4 w g 0 n (pdq (ltOf jk) q.toArray 0 q.toArray.size (Lib.bitLen q.toArray.size) true true) os=grow (putRow id (Sort.ahead w n) g 0 ((ij q).flatMap eq).toArray) os:=by
   unfold sortWorldK putRowK;rw[show pdq (ltOf jk) q.toArray 0 q.toArray.size (Lib.bitLen q.toArray.size) true true=(ij q).toArray from by unfold ij;simp,q14 eq 4 qjf]
  rw[hw];have hzl:((ij q).flatMap eq).length=q.length*4:=by rw[q7g,hsl]
  refine⟨rfl,(ij q).flatMap eq,⟨?_,.inr ⟨g,putCells id 0 ((ij q).flatMap eq).toArray vs,fz,rfl,zly w n g _ os h2,?_,h4,h5,?_,?_,?_⟩⟩,q9i _,⟨rfl,rfl,rfl,zwg w n g _ os,fun k hk hne=>zd4 w n g _ os k hk (fun e=>hne (by subst e;rfl))⟩⟩
  ·rw[hzl];show q.length*4=(q.map (fun x=>x.1)).length*4;rw[hml]
  ·have:(putCells id 0 ((ij q).flatMap eq).toArray vs).size=vs.size:=by unfold putCells;rw[Array.size_mapIdx]
   rw[this];exact h3
  ·unfold putCells;rw[Array.size_mapIdx];exact h6
  ·rw[show List.length (α:=τQ.den) (q.map (fun x=>x.1))*τQ.sz=((ij q).flatMap eq).length from by rw[hzl];show(q.map (fun x=>x.1)).length*4=_;rw[hml]]
   exact zcq _ vs (by rw[hzl];omega)
  ·intro v hv;rcases zb7 _ _ _ hv with h|h
   ·exact h8 v h
   ·obtain⟨x,_,hx⟩:=List.mem_flatMap.1 h;simp only[eq,wE,List.not_mem_nil,or_false]at hx;rcases hx with rfl|rfl|rfl|rfl<;>rfl
def q5q:IF:=⟨.fn 221,[.own 0,.fn 222 []],[(0,.row τQ 209)],_,RS.mk (.tup []) [(0,.row τQ 209)]⟩
def zpk:(q5q.e yc).Sound Tryz.prog:=fun d d' r h=>by
 obtain⟨l,_⟩:=d';have h:yc l=some r:=h;unfold yc at h;cases hd:decide (List.length (α:=Pc) l<=bg)<;>rw[hd]at h<;>simp only[qT,qF,reduceCtorEq]at h
 cases hq:ph l with
 |none=>rw[hq]at h;cases h
 |some q=>
  rw[hq]at h;have h:=qJ h;subst h;have hl:=q6c l q hq;subst hl;refine⟨Tryz.call221,zer q ?_⟩;have:=of_decide_eq_true hd
  rwa [wC]at this
end Go.Sym
set_option linter.unusedVariables false
namespace Go.Proofs.ToValid
open Go.Shelf Go.RowKit Go.Lib Go.Sym
def bx:Builder.Extra Tryz.prog Tryz.uniR:={
 sizeBuilder:=by kernel_rfl
 liesBuilder:=by kernel_rfl
 t5:=Tryz.laysM171.t5
 a5:=Tryz.laysM171.a5
 z5:=Tryz.laysM171.z5
 v5:=Tryz.laysM171.v5
 infoByte:=by kernel_rfl
 cellsByte:=by kernel_rfl
 sizeByte:=by kernel_rfl
 neB5:=by decide }
def z0e:Lays.n166 Tryz.prog Tryz.uniR:={ Tryz.lays165,Tryz.lays169,Tryz.laysC172 with f166:=Tryz.func244.trans (congrArg some (by kernel_rfl)) }
def zwk:Lays.n167 Tryz.prog Tryz.uniR:={ Tryz.lays165,Tryz.lays169,Tryz.laysC172 with f167:=Tryz.func246.trans (congrArg some (by kernel_rfl)) }
def qy1(b:Nat)(p:Option Addr)(n cap:Nat)(w:World)(c1:w.cell? ⟨b,1,none⟩=some (.slice p n cap)) :
  Calls Tryz.prog 245 #[.pointer (some ⟨b,0,none⟩)] w fun e w'=>e = .returned (.int .i64 cap)/\w'=w:=by
 go_enter Tryz.func245,Tryz.ntmps245
 go_wp2
 go_ret
 exact⟨rfl,rfl⟩
def z1h(b n:Nat)(w:World)(hbk:w.heap[b]? = some (.cells #[.pointer none,.slice none 0 0] 291 (0,0)))(hBw:b<=w.heap.size)(hn:n<=281474976710656) :
  Calls Tryz.prog 243 #[.pointer (some ⟨b,0,none⟩),.int .i64 n] w fun e w'=>e = .returned (.tuple #[])/\(Lib.BuilderAt 291 5 b b (.pointer (some ⟨b,0,none⟩)) [] w'/\Below b w w')/\∃p cap,w'.cell? ⟨b,1,none⟩=some (.slice p 0 cap)/\n<=cap:=
 Any.Builder_Grow_fresh_cap Tryz.lays165 bx b b n w (wF _) hbk hBw hn
def qyd(b:Nat)(bs:List Value)(s:ByteArray)(w:World)(h:Lib.IsBuilderF 291 5 b b bs w)(ac:bs.length+s.size<=140737488355328)(hBw:b<=w.heap.size) :
  Calls Tryz.prog 244 #[.pointer (some ⟨b,0,none⟩),.string s] w fun e w'=>e = .returned (.tuple #[.int .i64 s.size,.nilIface])/\(Lib.BuilderAtF 291 5 b b (.pointer (some ⟨b,0,none⟩)) (bs++Lib.strCells s) w'/\Below b w w'/\Lib.OthersKept 5 (some b) w w')/\∀v0,w.cell? ⟨b,1,none⟩=some v0->∃v1,w'.cell? ⟨b,1,none⟩=some v1/\v0.capOf<=v1.capOf:=
 Any.Builder_WriteString_kc z0e bx b b bs s w h ac hBw
def zvu(b:Nat)(bs:List Value)(c:Int)(w:World)(h:Lib.IsBuilderF 291 5 b b bs w)(ac:bs.length+1<=140737488355328)(hBw:b<=w.heap.size) :
  Calls Tryz.prog 246 #[.pointer (some ⟨b,0,none⟩),.int .u8 c] w fun e w'=>e = .returned .nilIface/\(Lib.BuilderAtF 291 5 b b (.pointer (some ⟨b,0,none⟩)) (bs++[.int .u8 c]) w'/\Below b w w'/\Lib.OthersKept 5 (some b) w w'):=
 Any.Builder_WriteByte_k zwk bx b b bs c w h ac hBw
def zrq(b:Nat)(l:List UInt8)(w:World)(h:Lib.IsBuilderF 291 5 b b (Lib.byteCells l) w)(hBw:b<=w.heap.size) :
  Calls Tryz.prog 247 #[.pointer (some ⟨b,0,none⟩)] w fun e w'=>e = .returned (.string ⟨l.toArray⟩)/\(Lib.IsBuilderF 291 5 b b (Lib.byteCells l) w'/\Below b w w'):=
 Any.Builder_String_any_f Tryz.lays169 bx b b l w h hBw
def q4y(s:ByteArray)(w:World)(hT:Lib.Utf8Tabs 1 2 w) :
  Calls Tryz.prog 180 #[.string s] w fun e w'=>e = .returned (.tuple #[.int .i32 (Lib.decodeGo s).1,.int .i64 (Lib.decodeGo s).2])/\Below w.heap.size w w':=
 Any.utf8_DecodeRuneInString Tryz.lays197 s w hT
def q5m(s:ByteArray)(pos:Nat)(h:pos<s.size):decodeGo (s.extract pos s.size)=Utf8.decode s pos:=by
 have hx:(s.extract pos s.size).data.toList=s.data.toList.drop pos:=by
  rw[extract_data,List.take_of_length_le (by rw[List.length_drop,← size_eq];omega)]
 have hsz:(s.extract pos s.size).size≠0:=by rw[size_eq,hx,List.length_drop,← size_eq];omega
 unfold decodeGo;rw[qW hsz,← decodeL_drop s pos,← hx];rfl
def zac(n:Int)(h0:0<=n:=by omega)(h1:n<=4000000:=by omega):wrap64 n=n:=by unfold wrap64;omega
def zst(p n:Nat)(h:p+n<=4000000):wrap64 ((p:Int)+(n:Int))=(p:Int)+(n:Int):=zac _
def zpm(p:Nat)(h:p+1<=4000000):wrap64 ((p:Int)+1)=(p:Int)+1:=zac _
def vI(p k:Nat):Value.int .i64 ((p:Int)+(k:Int)) = .int .i64 ((p+k:Nat):Int):=by rw[Int.natCast_add]
def o8(p:Nat):Value.int .i64 ((p:Int)+1) = .int .i64 ((p+1:Nat):Int):=by rw[Int.natCast_add];rfl
def qu8(rep:Bs)(n:Nat)(inv:Bool)(l:Bs)(hne:l≠[])(h:(Lib.decodeL l).1=65533/\(Lib.decodeL l).2=1):vu rep (n+1) inv l=(if inv then[] else rep)++vu rep n true (l.drop 1):=by
 cases l with|nil=>exact absurd rfl hne|cons c l=>rw[vu,qX h];rfl
def qmw(rep:Bs)(n:Nat)(inv:Bool)(l:Bs)(hne:l≠[])(h:¬((Lib.decodeL l).1=65533/\(Lib.decodeL l).2=1)):vu rep (n+1) inv l=l.take (Lib.decodeL l).2++vu rep n false (l.drop (Lib.decodeL l).2):=by
 cases l with|nil=>exact absurd rfl hne|cons c l=>rw[vu,qW h]
def ud(rep:Bs)(n:Nat)(inv:Bool):vu rep n inv []=[]:=by cases n<;>rfl
def qap(rep:Bs):∀(n m:Nat)(inv:Bool)(l:Bs),l.length<=n->l.length<=m->vu rep n inv l=vu rep m inv l
 |0,m,inv,l,h1,_=>by
  have:l=[]:=by cases l with|nil=>rfl|cons c l=>simp at h1
  subst this;rw[ud,ud]
 |n+1,0,inv,l,_,h2=>by
  have:l=[]:=by cases l with|nil=>rfl|cons c l=>simp at h2
  subst this;rw[ud,ud]
 |n+1,m+1,inv,l,h1,h2=>by
  cases l with
  |nil=>rw[ud,ud]|cons c l=>
   have hw:=Lib.decodeL_width (c::l);simp only[qL]at h1 h2;by_cases h:(Lib.decodeL (c::l)).1=65533/\(Lib.decodeL (c::l)).2=1
   ·rw[qu8 rep n inv _ (by simp) h,qu8 rep m inv _ (by simp) h,qap rep n m true _ (by simp;omega) (by simp;omega)]
   ·rw[qmw rep n inv _ (by simp) h,qmw rep m inv _ (by simp) h,qap rep n m false _ (by simp only[List.length_drop,qL];omega) (by simp only[List.length_drop,qL];omega)]
def zng(s:ByteArray)(pos:Nat)(h:pos<s.size)(hc:(s.get! pos).toNat<128):Utf8.decode s pos=((s.get! pos).toNat,1):=by
 unfold Utf8.decode;simp only[Nat.add_zero,hc,if_true]
def zc8(s:ByteArray)(pos:Nat)(h:pos<s.size)(hc:¬(s.get! pos).toNat<128)(h1:(Utf8.decode s pos).2=1):(Utf8.decode s pos).1=65533:=by
 revert h1;unfold Utf8.decode;simp only[Nat.add_zero,hc,if_false]
 repeat' split
 all_goals first|(intro _;rfl)|(intro h1;exact absurd h1 (by simp))
def qw5{T e:TypeId}{B b:Nat}{bs:List Value}{W W':World}(h:Lib.IsBuilderF T e B b bs W)(hb:Below W.heap.size W W'):Lib.IsBuilderF T e B b bs W':=by
 have k:∀p,Lib.BuilderAtF T e B b p bs W->Lib.BuilderAtF T e B b p bs W':=fun p h=>by
  have hlt:=h.lt;obtain⟨hB,v,hv,hown,hne⟩:=h;exact⟨hB,v,(hb.block b hlt).trans hv,hown.kept (row:=none) ⟨hb.os,hb.tape,hb.output,hb.size,fun k hk _=>hb.block k hk⟩ (Classical.em _),hne⟩
 exact h.elim (fun x => .inl (k _ x)) (fun x => .inr (k _ x))
set_option maxHeartbeats 4000000 in
set_option maxRecDepth 1000000 in
def tovalid(s rep:ByteArray)(w:World)(hs:s.size<=1000000)(hr:rep.size<=1000)(hT:Lib.Utf8Tabs 1 2 w) :
  Calls Tryz.prog 224 #[.string s,.string rep] w fun e w'=>e = .returned (.string ⟨(vu rep.data.toList s.size false s.data.toList).toArray⟩)/\Below w.heap.size w w':=by
 obtain⟨ANS,hANS⟩:∃ANS,vu rep.data.toList s.size false s.data.toList=ANS:=⟨_,rfl⟩;rw[hANS];have ac:s.data.toList.length=s.size:=(Lib.size_eq s).symm
 go_enter Tryz.func224,Tryz.ntmps224
 go_wp2
 go_loopg [0] s.size (fun gk s0 wx=>s0 = .string s/\∃pos:Nat,wx.heap[w.heap.size]? = some (.cells #[.pointer none,.slice none 0 0] 291 (0,0))/\wx.heap[w.heap.size+1]? = some (.stringIter s pos)/\Below w.heap.size w wx /\
  s.data.toList.take pos++vu rep.data.toList (s.size-pos) false (s.data.toList.drop pos)=ANS/\s.size<=pos+gk/\pos<=s.size)
 case atStart=>
  refine⟨rfl,0,?_,?_,((Below.refl _ w).alloc (wF _) _).alloc (by simp) _,by simpa using hANS,by omega,by omega⟩
  ·have h1:=heap_alloc_new w (.cells #[.pointer none,.slice none 0 0] 291);exact(Below.heap_alloc _ _ _ (by simp)).trans h1
  ·have:=World.iter_heap (w.alloc (.cells #[.pointer none,.slice none 0 0] 291)) s 0;simpa using this
 case round=>
  obtain⟨rfl,pos,hfr,hit,hbw,hsp,hfu,hps⟩:=hrel;by_cases hlt:pos<s.size
  ·obtain⟨g',rfl⟩:∃g',gk=g'+1:=⟨gk-1,by omega⟩
   have hnx:∀ty,(Instr.next (.pointer (some ⟨w.heap.size+1,0,none⟩)) true ty).run Tryz.prog wr=_:=fun ty=>Lib.run_next_any_at wr (w.heap.size+1) s pos ty hit hlt
   have hne:s.data.toList.drop pos≠[]:=by
    intro h0;have:=congrArg List.length h0;rw[List.length_drop,ac]at this;simp at this;omega
   have hwd:=Lib.width_pos s pos;have hwn:pos+(Utf8.decode s pos).2<=s.size:=by
    have:=Lib.decodeL_le _ hne;rw[Lib.decodeL_drop,List.length_drop,ac]at this;omega
   have hgood:=qmw rep.data.toList (s.size-pos-1) false _ hne;have hdg:=q5m s pos hlt;rw[Lib.decodeL_drop]at hgood;obtain⟨R,hR⟩:∃R,(Utf8.decode s pos).1=R:=⟨_,rfl⟩;obtain⟨K,hK⟩:∃K,(Utf8.decode s pos).2=K:=⟨_,rfl⟩;rw[hR,hK]at hnx hgood;rw[hK]at hwd hwn;rw[List.drop_drop,show s.size-pos-1+1=s.size-pos by omega]at hgood
   have hit2:=Lib.iterAt_heap wr (w.heap.size+1) s pos (pos+K) hit;have hbw2:=Lib.below_iterAt hbw (k:=w.heap.size+1) (by omega) s (pos+K)
   have hfr2:(wr.iterAt (w.heap.size+1) s (pos+K)).heap[w.heap.size]? = _:=(Lib.iterAt_other wr (w.heap.size+1) w.heap.size s (pos+K) (by omega)).trans hfr
   obtain⟨W,hWd⟩:∃W,wr.iterAt (w.heap.size+1) s (pos+K)=W:=⟨_,rfl⟩;rw[hWd]at hnx hit2 hbw2 hfr2;clear hit hbw hfr hWd;have HS:Aside (¬(R=65533/\K=1)->s.data.toList.take (pos+K)++vu rep.data.toList (s.size-(pos+K)) false (s.data.toList.drop (pos+K))=ANS):=by
    intro h;rw[← hsp,hgood h,← qS,← List.take_add];congr 1;exact qap _ _ _ _ _ (by rw[List.length_drop,ac];omega) (by rw[List.length_drop,ac];omega)
   have HP:Aside (s.data.toList.take pos++vu rep.data.toList (s.size-pos) false (s.data.toList.drop pos)=ANS):=hsp;clear hgood hsp;have hszW:w.heap.size+1<W.heap.size:=(Array.getElem?_eq_some_iff.1 hit2).1;by_cases h5:R=65533
   ·have h5z:(R:Int)=65533:=by omega
    have cD:=q4y (s.extract pos s.size) W (Utf8Tabs_below hT hbw2);rw[hdg,hR,hK]at cD;by_cases hk:K=1
    ·
     have hkz:(K:Int)=1:=by omega
     have hkb:((K:Int)==1)=true:=by simp[hkz]
     go_wp2_with (go_at_call 180;go_must (refine cD.mono ?_;rintro e W3 ⟨rfl,b3⟩))
     have hfr3:=(b3.block _ (show w.heap.size<W.heap.size by omega)).trans hfr2
     have hbw3:=hbw2.trans (b3.mono (show w.heap.size<=W.heap.size by omega))
     have hs0:=HP.out;clear cD hnx hit2 hfr2 hbw2 hdg HS hszW HP;have cG:=z1h w.heap.size (s.size+rep.size) W3 hfr3 hbw3.size (by omega)
     go_fit cG
     rintro e W4 ⟨rfl,⟨h4,b4⟩,p4,cap4,hc4,hcap4⟩
     have hxs:(s.extract 0 pos).size=pos:=by rw[Lib.size_eq,Lib.extract_data,List.length_take,List.length_drop,ac];omega
     have hxd:(s.extract 0 pos).data.toList=s.data.toList.take pos:=by rw[Lib.extract_data];simp
     have cW:=qyd w.heap.size [] (s.extract 0 pos) W4 (Lib.IsBuilderF.of (Or.inr h4)) (by rw[hxs];simp;omega) (Nat.le_trans hbw3.size b4.size)
     go_wp2_with (go_at_call 244;go_must (refine cW.mono ?_;rintro e W5 ⟨rfl,⟨h5w,b5,-⟩,hcp⟩))
     have hb5:Below w.heap.size w W5:=(hbw3.trans b4).trans b5;have hcells:[]++Lib.strCells (s.extract 0 pos)=Lib.byteCells (s.data.toList.take pos):=by
      rw[List.nil_append,Lib.strCells_eq,hxd]
     rw[hcells]at h5w;obtain⟨p5,n5,cap5,hc5,hcap5⟩:∃p5 n5 cap5,W5.cell? ⟨w.heap.size,1,none⟩=some (.slice p5 n5 cap5)/\1<=cap5:=by
      obtain⟨v1,hv1,hle⟩:=hcp _ hc4;obtain⟨_,v6,hv6,hown6,_⟩:=h5w;have hv:W5.cell? ⟨w.heap.size,1,none⟩=some v6:=by rw[Lib.cell_of_heap hv6];rfl
      rw[hv1]at hv;have:=qJ hv;subst this;have hle:cap4<=v1.capOf:=hle;rcases hown6.2 with⟨rfl,h0⟩|⟨g6,cap6,_,_,rfl,_⟩
      ·have:cap4<=0:=hle;omega
      ·have:cap4<=cap6:=hle;exact⟨_,_,cap6,hv1,by omega⟩
     clear hcp hc4;have hcapz:¬((cap5:Int)=0):=by omega
     have hcapb:((cap5:Int)==0)=false:=by simp;omega
     have cC:=qy1 w.heap.size p5 n5 cap5 W5 hc5;obtain⟨s2,hs2⟩:∃s2,s.extract pos s.size=s2:=⟨_,rfl⟩;have hl2:s2.data.toList=s.data.toList.drop pos:=by
      rw[← hs2,Lib.extract_data,List.take_of_length_le (by rw[List.length_drop,ac];omega)]
     have hz2:s2.size=s.size-pos:=by rw[Lib.size_eq,hl2,List.length_drop,ac]
     go_wp2_with (go_at_call 245;go_must (refine cC.mono ?_;rintro e W6 ⟨rfl,rfl⟩))
     have hrl:rep.data.toList.length=rep.size:=(Lib.size_eq rep).symm
     go_loopg [10,11] s2.size (fun gk s10 s11 wx=>∃(p2:Nat)(acc:List UInt8)(inv:Bool),s10 = .bool inv/\s11 = .int .i64 p2/\Lib.IsBuilderF 291 5 w.heap.size w.heap.size (Lib.byteCells acc) wx/\Below w.heap.size w wx /\
      acc++vu rep.data.toList (s2.size-p2) inv (s2.data.toList.drop p2)=ANS/\s2.size<=p2+gk/\p2<=s2.size/\acc.length<=pos+1001*p2)
     case atStart=>
      refine⟨0,s.data.toList.take pos,false,rfl,rfl,Or.inr h5w,hb5,?_,by omega,by omega,?_⟩
      ·rw[List.drop_zero,hl2,hz2];exact hs0
      ·rw[List.length_take,ac];omega
     case round=>
      obtain⟨p2,acc,inv,rfl,rfl,hI,hbw,hacc,hfu2,hp2,hal⟩:=hrel;have hbs:w.heap.size<=wr.heap.size:=hbw.size;by_cases hlt2:p2<s2.size
      ·obtain⟨g2,rfl⟩:∃g2,gk=g2+1:=⟨gk-1,by omega⟩
       have hne2:s2.data.toList.drop p2≠[]:=by
        intro h0;have:=congrArg List.length h0;rw[List.length_drop,← Lib.size_eq,qZ]at this;omega
       have hwd2:=Lib.width_pos s2 p2;have hwn2:p2+(Utf8.decode s2 p2).2<=s2.size:=by
        have:=Lib.decodeL_le _ hne2;rw[Lib.decodeL_drop,List.length_drop,← Lib.size_eq]at this;omega
       have hgood:=qmw rep.data.toList (s2.size-p2-1) inv _ hne2;have hbad:=qu8 rep.data.toList (s2.size-p2-1) inv _ hne2;have hdg:=q5m s2 p2 hlt2;have hlow:=zng s2 p2 hlt2;have hhigh:=zc8 s2 p2 hlt2;rw[Lib.decodeL_drop,List.drop_drop,show s2.size-p2-1+1=s2.size-p2 by omega]at hgood hbad
       have hl3:s2.data.toList.length=s2.size:=(Lib.size_eq s2).symm;obtain⟨c,hc⟩:∃c,s2[p2]'hlt2=c:=⟨_,rfl⟩;have hd2:p2<s2.data.size:=hlt2;have hcd:s2.data[p2]'hd2=c:=hc;have hcg:s2.get! p2=c:=by
        show s2.data[p2]! = c;rw[getElem!_pos s2.data p2 hd2];exact hcd
       rw[hcg]at hlow hhigh;obtain⟨R2,hR2⟩:∃R2,(Utf8.decode s2 p2).1=R2:=⟨_,rfl⟩;obtain⟨K2,hK2⟩:∃K2,(Utf8.decode s2 p2).2=K2:=⟨_,rfl⟩;rw[hK2]at hwd2 hwn2;have HG:Aside (¬(R2=65533/\K2=1)->(acc++(s2.data.toList.drop p2).take K2)++vu rep.data.toList (s2.size-(p2+K2)) false (s2.data.toList.drop (p2+K2))=ANS):=by
        intro h;rw[← hacc,hgood (by rw[hR2,hK2];exact h),hK2,qS]
        congr 2;exact qap _ _ _ _ _ (by rw[List.length_drop,hl3];omega) (by rw[List.length_drop,hl3];omega)
       have HB:Aside (R2=65533/\K2=1->(acc++(if inv then[] else rep.data.toList))++vu rep.data.toList (s2.size-(p2+1)) true (s2.data.toList.drop (p2+1))=ANS):=by
        intro h;rw[← hacc,hbad (by rw[hR2,hK2];exact h),qS]
        congr 2
       have hxl:(s2.extract p2 (p2+K2)).data.toList=(s2.data.toList.drop p2).take K2:=by
        rw[Lib.extract_data,Nat.add_sub_cancel_left]
       have hxz:(s2.extract p2 (p2+K2)).size=K2:=by rw[Lib.size_eq,hxl,List.length_take,List.length_drop,hl3];omega
       have hcl:acc.length<=1001000000:=by omega
       have hbl:(Lib.byteCells acc).length=acc.length:=Lib.byteCells_length acc;clear hgood hbad hacc hs0;have H1:Aside (s2.data.toList.length=s2.size/\(s2.extract p2 (p2+K2)).data.toList=(s2.data.toList.drop p2).take K2/\(Lib.byteCells acc).length=acc.length/\rep.data.toList.length=rep.size):=⟨hl3,hxl,hbl,hrl⟩;have H2:Aside (c.toNat<128->R2=c.toNat/\K2=1):=fun h=>by
        have hd:=hlow h;rw[hd]at hR2 hK2;exact⟨hR2.symm,hK2.symm⟩
       have H3:Aside (¬c.toNat<128->K2=1->R2=65533):=fun h hk=>by
        have:=hhigh h (by rw[hK2];exact hk)
        rw[← hR2];exact this
       have H4:Aside ((List.drop p2 s2.data.toList).take 1=[c]):=by
        show _=_;have hlt':p2<s2.data.toList.length:=by rw[hl3];exact hlt2
        rw[List.drop_eq_getElem_cons hlt',List.take_succ_cons,List.take_zero,Array.getElem_toList,hcd]
       have cD:=q4y (s2.extract p2 s2.size) wr (Utf8Tabs_below hT hbw);rw[hdg,hR2,hK2]at cD;have hsz2:s2.size<=s.size:=by rw[hz2];exact Nat.sub_le _ _
       have HW1:Aside (wrap64 ((p2:Int)+1)=(p2:Int)+1):=zpm _ (Nat.le_trans hlt2 (Nat.le_trans hsz2 (Nat.le_trans hs (by decide))))
       have HWK:Aside (wrap64 ((p2:Int)+(K2:Int))=(p2:Int)+(K2:Int)):=zst _ _ (Nat.le_trans hwn2 (Nat.le_trans hsz2 (Nat.le_trans hs (by decide))))
       have HM:Aside (s2.size<=p2+1+g2/\s2.size<=p2+K2+g2/\acc.length+1<=pos+1001*(p2+1)/\acc.length+rep.size<=pos+1001*(p2+1)/\acc.length+K2<=pos+1001*(p2+K2)/\acc.length<=pos+1001*(p2+1)/\acc.length+1<=140737488355328/\acc.length+rep.size<=140737488355328/\acc.length+K2<=140737488355328):=by
        refine⟨?_,?_,?_,?_,?_,?_,?_,?_,?_⟩<;>omega
       clear hal hcl hfu2;clear hcd hcg hlow hhigh hdg hR2 hK2 hl3 hxl hbl hrl hs2 hl2 ac hne2 hz2 hxs hxd hcells hne hR hK;by_cases h128:c.toNat<128
       ·
        obtain⟨_,hk1⟩:=H2.out h128;subst hk1;have H5:Aside (acc++[c]++vu rep.data.toList (s2.size-(p2+1)) false (List.drop (p2+1) s2.data.toList)=ANS):=by
         have:=HG.out (by omega)
         rw[H4.out]at this;exact this
        have cB:=zvu w.heap.size (Lib.byteCells acc) c.toNat wr hI (by rw[H1.out.2.2.1];exact HM.out.2.2.2.2.2.2.1) hbs
        clear HG HB H2 H3 H4 cD;have h128z:(c.toNat:Int)<128:=by omega
        go_wp2_with (go_at_call 246;go_must (refine cB.mono ?_;rintro e W7 ⟨rfl,h7,b7,k7⟩))
        go_roundg g2
        case measure=>exact Nat.lt_succ_self _
        case rel=>
         refine⟨p2+1,acc++[c],false,rfl,by first|exact o8 p2|exact(congrArg (Value.int .i64) HW1.out).trans (o8 p2),Or.inr ?_,hbw.trans b7,H5.out,HM.out.1,hlt2,by rw[qM];exact HM.out.2.2.1⟩
         rw[Lib.byteCells_append];exact h7
       ·have h128z:¬((c.toNat:Int)<128):=by omega
        by_cases hk:K2=1
        ·have hr2:=H3.out h128 hk;have H5:Aside ((acc++(if inv then[] else rep.data.toList))++vu rep.data.toList (s2.size-(p2+1)) true (List.drop (p2+1) s2.data.toList)=ANS):=HB.out ⟨hr2,hk⟩
         have hkz:(K2:Int)=1:=by omega
         have hkb:((K2:Int)==1)=true:=by simp[hkz]
         clear HG HB H2 H3 H4
         cases inv with
         |true=>
          go_wp2_with (go_at_call 180;go_must (refine cD.mono ?_;rintro e W7 ⟨rfl,b7⟩))
          go_roundg g2
          case measure=>exact Nat.lt_succ_self _
          case rel=>
           refine⟨p2+1,acc,true,rfl,by first|exact o8 p2|exact(congrArg (Value.int .i64) HW1.out).trans (o8 p2),qw5 hI b7,hbw.trans (b7.mono hbs),?_,HM.out.1,hlt2,HM.out.2.2.2.2.2.1⟩
           have h:(acc++[])++vu rep.data.toList (s2.size-(p2+1)) true (List.drop (p2+1) s2.data.toList)=ANS:=H5.out;rw[List.append_nil]at h;exact h
         |false=>
          go_wp2_with (go_at_call 180;go_must (refine cD.mono ?_;rintro e W7 ⟨rfl,b7⟩))
          have cW:=qyd w.heap.size (Lib.byteCells acc) rep W7 (qw5 hI b7) (by rw[H1.out.2.2.1];exact HM.out.2.2.2.2.2.2.2.1) (Nat.le_trans hbs b7.size)
          go_wp2_with (go_at_call 244;go_must (refine cW.mono ?_;rintro e W8 ⟨rfl,⟨h8,b8,-⟩,-⟩))
          go_roundg g2
          case measure=>exact Nat.lt_succ_self _
          case rel=>
           refine⟨p2+1,acc++rep.data.toList,true,rfl,by first|exact o8 p2|exact(congrArg (Value.int .i64) HW1.out).trans (o8 p2),Or.inr ?_,(hbw.trans (b7.mono hbs)).trans b8,?_,HM.out.1,hlt2,by rw[qM,H1.out.2.2.2];exact HM.out.2.2.2.1⟩
           ·rw[Lib.byteCells_append,← Lib.strCells_eq];exact h8
           ·have h:(acc++rep.data.toList)++vu rep.data.toList (s2.size-(p2+1)) true (List.drop (p2+1) s2.data.toList)=ANS:=H5.out;exact h
        ·have hkz:¬((K2:Int)=1):=by omega
         have hkb:((K2:Int)==1)=false:=by simp;omega
         have H5:=HG.out (fun h=>hk h.2)
         go_wp2_with (go_at_call 180;go_must (refine cD.mono ?_;rintro e W7 ⟨rfl,b7⟩))
         have cW:=qyd w.heap.size (Lib.byteCells acc) (s2.extract p2 (p2+K2)) W7 (qw5 hI b7) (by rw[H1.out.2.2.1,hxz];exact HM.out.2.2.2.2.2.2.2.2) (Nat.le_trans hbs b7.size)
         go_wp2_with (go_at_call 244;go_must (refine cW.mono ?_;rintro e W8 ⟨rfl,⟨h8,b8,-⟩,-⟩))
         go_roundg g2
         case measure=>exact Nat.lt_succ_self _
         case rel=>
          refine⟨p2+K2,acc++(s2.data.toList.drop p2).take K2,false,rfl,by first|exact vI p2 K2|exact(congrArg (Value.int .i64) HWK.out).trans (vI p2 K2),Or.inr ?_,(hbw.trans (b7.mono hbs)).trans b8,H5,HM.out.2.1,hwn2,?_⟩
          ·rw[Lib.byteCells_append,← H1.out.2.1,← Lib.strCells_eq];exact h8
          ·rw[qM,← H1.out.2.1,← Lib.size_eq,hxz];exact HM.out.2.2.2.2.1
      ·
       obtain rfl:p2=s2.size:=by omega
       have cS:=zrq w.heap.size acc wr hI hbs
       go_wp2_with (go_at_call 247;go_must (refine cS.mono ?_;rintro e W8 ⟨rfl,_,b8⟩))
       go_ret
       refine⟨?_,hbw.trans b8⟩;rw[Lib.size_eq,List.drop_length,ud,List.append_nil]at hacc;subst hacc;rfl
    ·have hkz:¬((K:Int)=1):=by omega
     have hkb:((K:Int)==1)=false:=by simp;omega
     have hs3:=HS.out (fun h=>hk h.2)
     go_wp2_with (go_at_call 180;go_must (refine cD.mono ?_;rintro e W3 ⟨rfl,b3⟩))
     go_roundg g'
     case measure=>omega
     case rel=>exact⟨rfl,pos+K,(b3.block _ (by show _<W.heap.size;omega)).trans hfr2,(b3.block _ (by show _<W.heap.size;omega)).trans hit2,hbw2.trans (b3.mono (by show _<=W.heap.size;omega)),hs3,by omega,hwn⟩
   ·have h5':¬((R:Int)=65533):=by omega
    have hs3:=HS.out (fun h=>h5 h.1)
    go_wp2
    go_roundg g'
    case measure=>omega
    case rel=>exact⟨rfl,pos+K,hfr2,hit2,hbw2,hs3,by omega,hwn⟩
  ·
   obtain rfl:pos=s.size:=by omega
   have hnx:∀ty,(Instr.next (.pointer (some ⟨w.heap.size+1,0,none⟩)) true ty).run Tryz.prog wr=_:=fun ty=>Lib.run_next_end_at wr (w.heap.size+1) s s.size ty hit hlt
   have cC:=qy1 w.heap.size none 0 0 wr (by rw[Lib.cell_of_heap hfr];rfl)
   go_wp2_with (go_at_call 245;go_must (refine cC.mono ?_;rintro e W' ⟨rfl,rfl⟩))
   go_ret
   refine⟨?_,hbw⟩;rw[← hsp,← ac,List.drop_length,List.take_length,ud,List.append_nil];rfl
end Go.Proofs.ToValid
namespace Go.Sym
open Go.Proofs Go.RowKit
open Go.Proofs.Tryz
variable[LC]
def qci(t:List UInt8):Bool:=(List.range 256).all fun c=>match t[c]? with|some x=>Nat.beq x.toNat (Lib.firstT c)|none=>false
def qao(t:List (UInt8×UInt8)):Bool:=(List.range 16).all fun c=>match t[c]? with|some x=>Nat.beq x.1.toNat (Lib.accLo c)&&Nat.beq x.2.toNat (Lib.accHi c)|none=>false
def q71{G:Gh}{w:World}(hm:ci G [] w){t0:List UInt8}{t1:List (UInt8×UInt8)}(h0:LC.glob 1=some ⟨.byte,t0⟩)(h1:LC.glob 2=some ⟨.prod .byte .byte,t1⟩)(e0:qci t0=true)(e1:qao t1=true):Lib.Utf8Tabs 1 2 w:=by
 refine⟨fun c hc => ?_,fun i hi => ?_⟩
 ·have h:=List.all_eq_true.1 e0 c (List.mem_range.2 hc)
  cases hx:t0[c]? with
  |none=>rw[hx]at h;cases h
  |some x=>
   rw[hx]at h;have ha:G.imm 1 (c*1)=some (.int .u8 x.toNat):=hm.tab.1 _ _ _ h0 c x hx;rw[Nat.mul_one]at ha;rw[hm.agree _ _ _ ha,qN h]
 ·have h:=List.all_eq_true.1 e1 i (List.mem_range.2 hi)
  cases hx:t1[i]? with
  |none=>rw[hx]at h;cases h
  |some x=>
   rw[hx]at h;simp only[qA]at h;have ha:G.imm 2 (i*2)=some (.int .u8 x.1.toNat)/\G.imm 2 (i*2+1)=some (.int .u8 x.2.toNat):=hm.tab.1 _ _ _ h1 i x hx;rw[Nat.mul_comm]at ha;exact⟨by rw[hm.agree _ _ _ ha.1,qN h.1],by rw[hm.agree _ _ _ ha.2,qN h.2]⟩
def ztl{G:Gh}{w:World}(hm:ci G [] w){t0:List UInt8}{t1:List (UInt8×UInt8)}(h0:LC.glob 1=some ⟨.byte,t0⟩)(h1:LC.glob 2=some ⟨.prod .byte .byte,t1⟩)(e0:qci t0=true)(e1:qao t1=true)(s o:Bs)(d1:s.length<=1000000)(d2:o.length<=1000) :
  Calls Tryz.prog 224 #[.string ⟨s.toArray⟩,.string ⟨o.toArray⟩] w fun e w'=>e = .returned (.string ⟨(vu o s.length false s).toArray⟩)/\bz w w':=by
 refine(ToValid.tovalid ⟨s.toArray⟩ ⟨o.toArray⟩ w (by rw[pw];exact d1) (by rw[pw];exact d2) (q71 hm h0 h1 e0 e1)).mono ?_
 rintro e w' ⟨rfl,hw⟩
 exact⟨by rw[pw],bz.of_below hw⟩
def zat:IF:=⟨.fn 224,[.h .str,.h .str],[],_,RS.mk (.h .str) []⟩
def zwh{t0:List UInt8}{t1:List (UInt8×UInt8)}(h0:LC.glob 1=some ⟨.byte,t0⟩)(h1:LC.glob 2=some ⟨.prod .byte .byte,t1⟩)(e0:qci t0=true)(e1:qao t1=true):(zat.e v7).Sound Tryz.prog:=fun d d' r h=>by
 obtain⟨s,o,_⟩:=d;have h:v7 s o=some r:=h;unfold v7 at h;cases hd:decide (List.length (α:=UInt8) s<=1000000/\List.length (α:=UInt8) o<=1000)<;>rw[hd]at h<;>simp only[qT,qF,reduceCtorEq]at h
 have h:=qJ h;subst h;obtain⟨d1,d2⟩:=of_decide_eq_true hd;refine⟨call224,c7.data fun w G vs hm hr => ?_⟩
 match vs,hr with
 |[u,v],⟨h1',h2',_⟩=>
  have h1':u = .string ⟨s.toArray⟩:=h1';have h2':v = .string ⟨o.toArray⟩:=h2';subst h1' h2';exact(ztl hm h0 h1 e0 e1 s o d1 d2).mono fun e w'⟨he,hw⟩=>⟨_,he,rfl,hw⟩
def zzl{G:Gh}{w:World}(hm:ci G [] w){t0:List UInt8}{t1:List (UInt8×UInt8)}(h0:LC.glob 1=some ⟨.byte,t0⟩)(h1:LC.glob 2=some ⟨.prod .byte .byte,t1⟩)(e0:qci t0=true)(e1:qao t1=true)(s:Bs)(d1:s.length<=9223372036854775807) :
  Calls Tryz.prog 137 #[.string ⟨s.toArray⟩] w fun e w'=>e = .returned (.bool (Lib.validD s))/\bz w w':=by
 refine(Any.utf8_ValidString Tryz.lays196 ⟨s.toArray⟩ w (by rw[pw];exact d1) (q71 hm h0 h1 e0 e1)).mono ?_
 rintro e w' ⟨rfl,hw⟩
 exact⟨rfl,bz.of_below hw⟩
def q5y:IF:=⟨.fn 137,[.h .str],[],_,RS.mk (.h .bool) []⟩
def z08{t0:List UInt8}{t1:List (UInt8×UInt8)}(h0:LC.glob 1=some ⟨.byte,t0⟩)(h1:LC.glob 2=some ⟨.prod .byte .byte,t1⟩)(e0:qci t0=true)(e1:qao t1=true):(q5y.e wo).Sound Tryz.prog:=fun d d' r h=>by
 obtain⟨s,_⟩:=d;have h:wo s=some r:=h;unfold wo at h;cases hd:decide (List.length (α:=UInt8) s<=9223372036854775807)<;>rw[hd]at h<;>simp only[qT,qF,reduceCtorEq]at h
 have h:=qJ h;subst h;have d1:=of_decide_eq_true hd;refine⟨call137,c7.data fun w G vs hm hr => ?_⟩
 match vs,hr with
 |[u],⟨h1',_⟩=>
  have h1':u = .string ⟨s.toArray⟩:=h1';subst h1';exact(zzl hm h0 h1 e0 e1 s d1).mono fun e w'⟨he,hw⟩=>⟨_,he,rfl,hw⟩
end Go.Sym
namespace Go.Sym
open Go.RowKit
variable[LC]
section
variable{P:Program}{z2m:World}{z2h:Gh}{z2j:List (Nat×ag)}{G:Gh}{s:St}{a:Act}{w:World}
def ah.drewOk(hr:ah z2m z2h z2j G s a w):ah z2m z2h z2j G s a w.drew:=
 ⟨hr.defers,hr.size,hr.frame,hr.fresh,⟨⟨hr.fin.mem.agree,hr.fin.mem.one,hr.fin.mem.holds,hr.fin.mem.apart,LC.mono (fun _ _ _ h=>h) (fun _ _ _ _=>rfl) hr.fin.mem.tab⟩,⟨hr.fin.bel.os,hr.fin.bel.tape,hr.fin.bel.output,hr.fin.bel.size,hr.fin.bel.block⟩,hr.fin.imm_le,hr.fin.imm_new,hr.fin.base,hr.fin.keep,hr.fin.keepOwn⟩⟩
def ak.setAt{G:Gh}{x:AV}{v:Value}(hx:ai x G v):∀{xs:List AV}{vs:List Value}{i:Nat},ak xs G vs->ak (xs.set i x) G (vs.set i v)|[],[],_,_=>trivial|_::_,_::_,0,h=>⟨hx,h.2⟩|_::_,_::_,_+1,h=>⟨h.1,ak.setAt hx h.2⟩|[],_::_,_,h=>h.elim|_::_,[],_,h=>h.elim
def ah.setCellAt(hr:ah z2m z2h z2j G s a w){n B i:Nat}{cs:List AV}{T:TypeId}{x:AV}{v:Value}(hn:ae s.hp n=some (.cells cs T))(hB:G.box n=some B)(hx:ai x G v)(h1:v.oneCell'=true) :
  ah z2m z2h z2j G { s with hp:=(n,.cells (cs.set i x) T)::s.hp } a (w.setCell ⟨B,i,none⟩ v):=by
 obtain⟨B',vs,k1,k2,k3,k4,k5⟩:=hr.fin.mem.holds n _ hn;rw[hB]at k1;cases k1;have hheap:(w.setCell ⟨B,i,none⟩ v).heap[B]? = some (.cells (vs.setIfInBounds i v) T (0,0)):=by
  simp[World.setCell,Array.getElem?_modify,k2]
 have hbel:ee (fun b=>b=B) w (w.setCell ⟨B,i,none⟩ v):=
  ⟨rfl,rfl,rfl,by simp[World.setCell],fun k _ hne=>by
   simp only[World.setCell,Array.getElem?_modify];rw[qW (fun e=>hne e.symm)]⟩
 have hat:∀cs',G.at n (.cells cs' T)=some B:=fun _=>hB
 refine⟨hr.defers,hr.size,hr.frame,fun m hm hl=>hr.fresh m hm (by
  simp only[ae]at hl;cases hb:Nat.beq n m
  ·rw[hb]at hl;exact hl
  ·rw[hb]at hl;cases hl),hr.fin.update hn (hat cs) (hat _) hbel ⟨B,_,hB,hheap,?_,?_,k5⟩ k5⟩
 ·rw[Array.toList_setIfInBounds];exact ak.setAt hx k3
 ·intro u hu;rw[Array.toList_setIfInBounds]at hu;rcases List.mem_or_eq_of_mem_set hu with hu|hu
  ·exact k4 u hu
  ·rw[hu];exact h1
def ah.cellAt(hr:ah z2m z2h z2j G s a w){n B i:Nat}{cs:List AV}{T:TypeId}{x:AV}(hn:ae s.hp n=some (.cells cs T))(hB:G.box n=some B)(hx:cs[i]? = some x) :
  ∃v,w.cell? ⟨B,i,none⟩=some v/\ai x G v/\w.frozen? ⟨B,i,none⟩=false:=by
 obtain⟨B',vs,k1,k2,k3,k4,k5⟩:=hr.fin.mem.holds n _ hn;rw[hB]at k1;cases k1;obtain⟨v,v1,v2⟩:=jv k3 hx;refine⟨v,cell_of_heap k2 v1,v2,?_⟩;simp only[World.frozen?,k2];simp
def ah.start{G:Gh}{hp:List (Nat×ag)}{w:World}{N:NM}(hm:ci G hp w)(h:∀n b,ae hp n=some b->ar N n=some n/\dt (ar N) b=b)(hN:∀n,ae hp n=none->aw N n=none)(k:Nat) :
  ah w (G.view N) hp (G.view N) { n:=k,fr:=[],hp:=hp,nx:=64,df:=[] } { tmps:=Array.replicate k undef,defers:=[] } w:=by
 refine⟨⟨[],rfl,rfl⟩,by simp,fun i x hx=>(by cases hx),fun m _ hl => ?_,zt (hm.only h)⟩
 have:=hN m hl;simp[Gh.view,this]
end
end Go.Sym
