/- What the claim rests on, part 3: gathered texts. -/
import Derived.RangeFuncRecord
import Derived.Lib.ItoaNum
import Derived.Lib.Index
import Derived.Lib.AtoiAll
import Derived.Shelf.SlSortCmp.Insertion
import Derived.Lib.Replace
import Derived.Lib.Repeat
import Derived.Lib.MapLaws
import Derived.Lib.ValidLaws
import Derived.Lib.Join
import Derived.Lib.FieldsP
import Derived.Lib.TrimUEq
import Derived.Lib.BytesEntry
import Derived.Laws.Externs
import Derived.Lib.Bytealg
import Derived.WalkKit
import Derived.ProofKit
import Derived.OpenShut
import Derived.ShutString
import Derived.ChangeOld
import Derived.Carry
import Derived.Handed
import Derived.Deep.DeepHandedRow
import Derived.LaidMore
import Derived.Lay
import Derived.LaidHandle
import Derived.MakeChecks
import Derived.LaidLaws
import Derived.Test.YtboiflmddgacmabGreatDoorSyO2
set_option linter.defProp false
set_option linter.unusedSimpArgs false
set_option linter.unusedVariables false
namespace Go.Sym
open Go.RowKit
variable[LC]
def pm(i:Nat)(c:Code):Code:=match c with
 |.seq a b=>match i with|0=>a|_=>b
 |.cond _ a b=>match i with|0=>a|_=>b
 |.block _ a=>a|.loop a=>a|.scope a=>a|.rangeFunc _ _ a b=>match i with|0=>a|_=>b
 |c=>c
def sub(body:Code):List Nat->Code|[]=>body|i::p=>pm i (sub body p)
structure cz where
 kd:Nat
 path:List Nat
 it:Item
def sk(body:Code)(kd:Nat)(p:List Nat):Item:=match kd with
 |0 => .code (sub body p)|1=>match sub body p with|.block id _ => .inBlock id|c => .code c
 |2=>match sub body p with|.loop x => .inLoop x|c => .code c
 |3=>match sub body p with|.scope x => .inScope x|c => .code c
 |_ => .beginRound
def cz.Ok(body:Code)(i:cz):Prop:=i.it=sk body i.kd i.path
abbrev o7:=List (Nat×List Nat)
def jz(body:Code):o7->List cz|[]=>[]|(kd,p)::r=>⟨kd,p,sk body kd p⟩::jz body r
def db:List cz->List Item|[]=>[]|i::r=>i.it::db r
def yt:o7->List cz->Bool|[],[]=>true|(kd,p)::r,i::k=>Nat.beq kd i.kd&&mc p i.path&&yt r k|_,_=>false
def q4l{body:Code}:∀{key:o7}{k:List cz},yt key k=true->(∀i∈k,i.Ok body)->db (jz body key)=db k
 |[],[],_,_=>rfl|(kd,p)::r,⟨kd',p',it⟩::k,h,hk=>by
  simp only[yt,qA]at h;obtain⟨⟨h1,h2⟩,h3⟩:=h;have h1:=qN h1;have h2:=qhu h2;subst h1 h2;have ho:it=sk body kd p:=hk _ qH;simp only[jz,db];rw[q4l h3 (fun i hi=>hk i (qE _ hi)),ho]
 |[],_::_,h,_=>by cases h
 |_::_,[],h,_=>by cases h
def qs0{body:Code}:∀{key:o7},∀i∈jz body key,i.Ok body
 |[],i,h=>by cases h
 |(kd,p)::r,i,h=>by
  rcases List.mem_cons.1 h with rfl|h
  ·rfl
  ·exact qs0 i h
def zhv{body:Code}{kd:Nat}{p:List Nat}{c:Code}(h:Item.code c=sk body kd p):sub body p=c:=by
 unfold sk at h;split at h
 ·injection h with h;exact h.symm
 ·split at h
  ·cases h
  ·injection h with h;exact h.symm
 ·split at h
  ·cases h
  ·injection h with h;exact h.symm
 ·split at h
  ·cases h
  ·injection h with h;exact h.symm
 ·cases h
def zhw{body:Code}{kd:Nat}{p:List Nat}{c:Code}(h:Item.inLoop c=sk body kd p):sub body p = .loop c:=by
 unfold sk at h;split at h
 ·cases h
 ·split at h<;>cases h
 ·split at h
  ·rename_i e;injection h with h;subst h;exact e
  ·cases h
 ·split at h<;>cases h
 ·cases h
def mf(id:Nat):List cz->Option (List cz)
 |[]=>none|i::k=>match i.it with|.inBlock id'=>if id'==id then some k else mf id k|_=>mf id k
def qsi{id:Nat}:∀{k k':List cz},mf id k=some k'->exitTo id (db k)=some (db k')/\∀i∈k',i∈k
 |[],_,h=>by cases h
 |⟨kd,p,it⟩::k,k',h=>by
  simp only[mf]at h;split at h
  ·rename_i id';split at h
   ·rename_i he;simp only[qI]at h;subst h;exact⟨by simp only[db,exitTo];rw[qX he],fun i hi=>qE _ hi⟩
   ·rename_i he;obtain⟨h1,h2⟩:=qsi h;exact⟨by simp only[db,exitTo];rw[qW he];exact h1,fun i hi=>qE _ (h2 i hi)⟩
  ·rename_i hne;obtain⟨h1,h2⟩:=qsi h;refine⟨?_,fun i hi=>qE _ (h2 i hi)⟩
   (try simp only at hne)
   simp[db];cases it<;>first
    |(exfalso;exact hne _ rfl)
    |(simp[exitTo];exact h1)
def qq1(P:Program)(s:St):ResultVar->Option AV
 |.tmp t=>ae s.fr t|.cell t T=>match ae s.fr t with
  |some (.ptr b off)=>match ae s.hp b with|some (.cells cs _)=>jp P T cs off|_=>none
  |some (.rop cs)=>jp P T cs 0|some (.oel k sz 0 0)=>match ae s.hp k,tc P T,c8 P T with|some (.row τ l _),some true,some _=>bif τ.is1&&Nat.beq sz 1 then some (.arr τ l) else none|_,_,_=>none
  |_=>none
def qt4(P:Program)(s:St):ResultVar->Bool
 |.tmp _=>true|.cell t T=>match ae s.fr t with
  |some (.oel k _ 0 0)=>match ae s.hp k,c8 P T with|some (.row _ l _),some n=>decide (l.length=n)|_,_=>true
  |_=>true
def qdp(P:Program)(s:St):List ResultVar->Bool|[]=>true|x::xs=>qt4 P s x&&qdp P s xs
def x6(P:Program)(s:St):List ResultVar->Option (List AV)
 |[]=>some []|x::xs=>match qq1 P s x with
  |some v=>match x6 P s xs with|some vs=>some (v::vs)|none=>none
  |none=>none
def qq2(P:Program)(fn:Func)(s:St):Option AV:=
 match x6 P s fn.results.toList with
 |some vs=>match vs with|[v]=>some v|vs=>some (.tup vs)
 |none=>none
def frzC(p:Pt)(b off:Nat)(s:St):St:=match ae s.hp b with|some (.cells cs _)=>frzL (qib p (.agg (cs.drop off))) s|_=>s
def coR(bs:List (Nat×aw)):List ResultVar->List Pt->St->St
 |[],_,s=>s|x::xs,ps,s=>match ps with
  |[]=>s|p::ps=>match x with
   |.tmp t=>coR bs xs ps (coF bs [(t,p)] s)|.cell t _=>match ae s.fr t with|some (.ptr b off)=>coR bs xs ps (frzC p b off (coB1 bs b [p] off s))|_=>coR bs xs ps s
def qi4:Pt->List Pt|.tup ps=>ps|p=>[p]
def qh2(v:AV)(ids:NM)(p:Pt)(hp:List (Nat×aw))(s:St):Option (p.den×eh hp):=
 match p.get v ids with
 |some (d,nm)=>match nq s.hp hp nm with|some (d',nm')=>bif c7 nm'&&pg nm' hp then some (d,d') else none|none=>none
 |none=>none
def qsl(P:Program)(fn:Func)(ids:NM)(rv:Option AV)(p:Pt)(hp:List (Nat×aw))(s:St):Option (p.den×eh hp):=
 match rv with
 |some v=>qh2 v ids p hp (coB hp ids hp s)|none=>match qq2 P fn (coR hp fn.results.toList (qi4 p) (coB hp ids hp s)) with|some v=>qh2 v ids p hp (coR hp fn.results.toList (qi4 p) (coB hp ids hp s))|none=>none
def qsm(P:Program)(fn:Func)(ids:NM)(rv:Option AV)(p:Pt)(hp:List (Nat×aw))(s:St):Bool:=
 match rv with|some _=>true|none=>qdp P (coR hp fn.results.toList (qi4 p) (coB hp ids hp s)) fn.results.toList
def RS.fin(P:Program)(fn:Func)(ids:NM)(rv:Option AV)(s:St):{α:Type}->RS α->Option α
 | _,.one p hp _ fro _=>bif qsm P fn ids rv p hp s then(match qsl P fn ids rv p hp s with
  |some y=>some (fro y)| none=>none) else none
 |_,.two l r=>match l.fin P fn ids rv s with
  |some a=>some (.inl a)|none=>match r.fin P fn ids rv s with|some b=>some (.inr b)|none=>none
structure dy(R:Type) where
 key:o7
 ls:LS
 F:ls.den->Option R
def vv{R:Type}(ids:NM)(s:St)(k:List cz):List (dy R)->Option (dy R)
 |[]=>none| l::ls=>bif yt l.key k then(match vv ids s k ls with
   |none=>some l|some l'=>match l.ls.get ids (l.ls.co ids s) with
    |some _=>some l| none=>some l') else vv ids s k ls
structure Cx:Type 1 where
 P:Program
 tb:Tb
 fn:Func
 f:FuncId
 ids:NM
 rd:Option Nat
 tags:List (List Nat×Nat)
def St.noDf(s:St):Bool:=match s.df with|[]=>true|_=>false
def qcq:List Nat->St->Option St
 |[],s=>some { s with df:=[] }|n::ns,s=>match ae s.hp n with|some .dfr=>qcq ns { s with hp:=(n,.dead)::s.hp,df:=ns }|_=>none
def pz:Option cr->Bool|none=>true|some _=>false
def kz(cx:Cx){R:Type}(enc:RS R)(j:Option cr)(s:St):Option R:=
 match cx.rd with
 |none=>match qcq s.df s with|some s'=>enc.fin cx.P cx.fn cx.ids none s'|none=>none
 |some m=>bif s.noDf then
   (match ae s.hp m with
   |some (.loop _ _ f n fr ps tag D)=>enc.fin cx.P cx.fn cx.ids (some (.val (.bool (pz j)))) { s with hp:=(m,.loop (bif pz j then .ready else .done) j f n fr ps tag D)::s.hp }| _=>none)
  else none
def St.enterRF(s:St)(f:FuncId)(ps:List Tmp)(tag:Nat)(around:Option Nat):Option St:=
 bif au s.nx s.hp then
  (match around with
  |none=>some { s with hp:=(s.nx,.loop .ready none f s.n s.fr ps tag (s.nx+1))::(s.nx+1,.dfr)::s.hp,df:=(s.nx+1)::s.df,nx:=s.nx+32 }|some m=>match ae s.hp m with
   |some (.loop _ _ _ _ _ _ _ D)=>some { s with hp:=(s.nx,.loop .ready none f s.n s.fr ps tag D)::s.hp,nx:=s.nx+32 }| _=>none)
 else none
def q71(s:St)(ys:List AV)(d:D):Option St:=match d with
 |.mem names xs hp _ hp'=>
  bif c7 names&&ny names&&au s.nx s.hp then
   (match fm (ap names) s.hp names,a8 false [] (AV.rens (ap names) ys) xs with
   |some hpv,some _=>match ie hpv hp with|some _=>some { s with hp:=iy (iw names hp' s.nx) hp'++(jt names++s.hp),nx:=s.nx+32 }|none=>none
   | _,_=>none)
  else none
 |_=>none
def ke(p:List Nat):List (List Nat×Nat)->Option Nat|[]=>none|(q,t)::r=>bif mc q p then some t else ke p r
def q6s:LoopState->Bool|.busy=>false|_=>true
def qja(cx:Cx)(p:List Nat)(g:Operand)(ps:List Tmp)(s:St):Option (Rq×St×List AV):=
 match ke p cx.tags,s.ev g with
 |some tag,some (.fn (.func h) [] cap)=>match s.enterRF cx.f ps tag cx.rd with
  |some s1=>match u7 (qco s1 h (.yld s.nx::cap)) cx.tb.ents with|some q=>some (q,s1,.yld s.nx::cap)|none=>none
  |none=>none
 |_,_=>none
def q73(cx:Cx)(p:List Nat)(g:Operand)(ps:List Tmp)(s:St):Option St:=
 match ke p cx.tags,s.ev g with
 |some tag,some (.fn (.func h) [] cap)=>match s.enterRF cx.f ps tag cx.rd with
  |some s1=>match qhs (fun e=>n9 h e.key) cx.tb.ents with|some e=>some (coB e.hp (p8 s1 e.hp (sv e.args (.yld s.nx::cap))) e.hp (frzL (vc e.args (.yld s.nx::cap)) s))|none=>none
  |none=>none
 |_,_=>none
def qjb{R:Type}(nl:Nat)(a:Rq×St×List AV)(K:Option cr->St->Option R):Option R:=
 a.1.K fun d=>match q71 a.2.1 a.2.2 d with
  |some s3=>match ae s3.hp nl with|some (.loop st pe _ _ _ _ _ _)=>bif q6s st then K pe { s3 with hp:=(nl,.dead)::s3.hp } else none|_=>none
  |none=>none
def rfR(cx:Cx){R:Type}(p:List Nat)(g:Operand)(ps:List Tmp)(s:St)(K:Option cr->St->Option R):Option R:=
 match qja cx p g ps s with
 |some a=>qjb s.nx a K|none=>match q73 cx p g ps s with
  |some s'=>match qja cx p g ps s' with|some a=>qjb s'.nx a K|none=>none
  |none=>none
def run(cx:Cx){R:Type}(enc:RS R)(labs:List (dy R)):Nat->Bool->List cz->St->Option R
 |0,_,_,_=>none|n+1,chk,k,s=>match(bif chk then vv cx.ids s k labs else none) with
  |some lab=>match lab.ls.get cx.ids (lab.ls.co cx.ids s) with|some d=>lab.F d|none=>none
  |none=>match k with
   |[]=>kz cx enc none s|⟨_,p,it⟩::k'=>match it with
    |.code c=>match c with
     |.skip=>run cx enc labs n true k' s|.label _=>run cx enc labs n true k' s|.seq x y=>run cx enc labs n true (⟨0,0::p,.code x⟩::⟨0,1::p,.code y⟩::k') s|.cond c x y=>match s.ev c with|some (.bool b)=>bif b then run cx enc labs n true (⟨0,0::p,.code x⟩::k') (s.know c true) else run cx enc labs n true (⟨0,1::p,.code y⟩::k') (s.know c false)|some (.val (.bool b))=>bif b then run cx enc labs n true (⟨0,0::p,.code x⟩::k') s else run cx enc labs n true (⟨0,1::p,.code y⟩::k') s|_=>none
     |.block id x=>run cx enc labs n true (⟨0,0::p,.code x⟩::⟨1,p,.inBlock id⟩::k') s|.loop x=>run cx enc labs n true (⟨0,0::p,.code x⟩::⟨2,p,.inLoop x⟩::k') s|.scope x=>run cx enc labs n true (⟨0,0::p,.code x⟩::⟨3,p,.inScope x⟩::k') s|.exit id=>match mf id k' with
      |some k''=>run cx enc labs n true k'' s|none=>match cx.rd with|some _=>kz cx enc (some (.exit id)) s|none=>none
     |.region _ ops d=>bif d then qr8 cx.P cx.tb ops s (fun s'=>run cx enc labs n true k' s'.bump) else vq cx.P cx.tb ops ops.toList s (fun s'=>run cx enc labs n true k' s'.bump)
     |.ret=>kz cx enc (some .ret) s|.rangeFunc g ps _ _=>rfR cx p g ps.toList s fun j s'=>match j with
      |none=>run cx enc labs n true k' s'|some .ret=>kz cx enc (some .ret) s'|some (.exit id)=>match mf id k' with
       |some k''=>run cx enc labs n true k'' s'|none=>match cx.rd with|some _=>kz cx enc (some (.exit id)) s'|none=>none
     |_=>none
    |.inBlock _=>run cx enc labs n true k' s|.inScope _=>run cx enc labs n true k' s|.inLoop x=>run cx enc labs n true (⟨0,0::p,.code x⟩::⟨2,p,.inLoop x⟩::k') s|.beginRound=>match cx.rd with
     |some m=>match ae s.hp m with|some (.loop .ready pe f n' fr ps tag D)=>run cx enc labs n true k' { s with hp:=(m,.loop .busy pe f n' fr ps tag D)::s.hp }|_=>none
     |none=>none
    |_=>none
def t6(P:Program)(ro:Option Nat)(f:FuncId)(x:Machine)(cs:List Frame)(Q:Value->World->Prop):Prop:=
 match ro with|none=>∃v w' fr,Q v w'/\Steps P x (lone fr cs w')/\fr.fn=f/\fr.leaving P w' (.returned v)|some _=>∀c cs',cs=c::cs'->∃v w',Q v w'/\Steps P x (lone (c.finish v) cs' w')
def t6.head{P:Program}{ro:Option Nat}{f:FuncId}{x y:Machine}{cs:List Frame}{Q:Value->World->Prop}(h:Steps P x y)(k:t6 P ro f y cs Q):t6 P ro f x cs Q:=by
 cases ro with
 |none=>obtain⟨v,w',fr,h1,h2,h3⟩:=k;exact⟨v,w',fr,h1,h.trans h2,h3⟩
 |some l=>exact fun c cs' e=>by obtain⟨v,w',h1,h2⟩:=k c cs' e;exact⟨v,w',h1,h.trans h2⟩
section
variable{P:Program}{zw0:World}{zwv:Gh}{zwx:List (Nat×ag)}{G:Gh}{s:St}{a:Act}{w:World}
def vy(tmps:Array Value)(x:ResultVar):Sem Value:=match x with|.tmp t=>pure (tmps.getD t undef)|.cell a t=>do loadVar t (← asAddr (tmps.getD a undef))
def zj7(fn:Func)(tmps:Array Value):results fn tmps=(do let vs ← fn.results.mapM (vy tmps);pure (if h:vs.size=1 then vs[0] else .tuple vs)):=rfl
def zd9(hr:ah zw0 zwv zwx G s a w){x:ResultVar}{v:AV}(hq:qt4 P s x=true)(h:qq1 P s x=some v):∃u,(vy a.tmps x).run P w = .ok u w/\ai v G u:=by
 cases x with
 |tmp t=>
  obtain⟨u,h1,h2⟩:=hr.frame t v h;exact⟨u,by simp[vy,Array.getD_eq_getD_getElem?,h1],h2⟩
 |cell t T=>
  simp only[qq1]at h;split at h
  ·rename_i b off hb;split at h
   ·rename_i cs T' hc;obtain⟨u,h1,B,hB,rfl⟩:=hr.frame _ _ hb;obtain⟨B',vs,k1,k2,k3,_⟩:=hr.fin.mem.holds _ _ hc;rw[k1]at hB;injection hB with hB;subst hB
    obtain⟨z,hz,hrz⟩:=v7 (P:=P) (w:=w) h (o:=0) k3 (fun j u hu=>by rw[wO];exact cell_of_heap k2 hu)
    rw[wO]at hz;exact⟨z,by simp[vy,Array.getD_eq_getD_getElem?,h1,asAddr,hz],hrz⟩
   ·cases h
  ·rename_i cs hb;obtain⟨u,h1,b,o,rfl,hc⟩:=hr.frame _ _ hb;obtain⟨vs,k1,k2⟩:=hc.values;obtain⟨z,hz,hrz⟩:=v7 (P:=P) (w:=w) h (o:=o) k1 (fun j u hu=>hr.fin.mem.agree _ _ _ (k2 j u hu))
   exact⟨z,by simpa [vy,Array.getD_eq_getD_getElem?,h1,asAddr] using hz,hrz⟩
  ·rename_i k sz hb;split at h
   ·rename_i τ l E n hl hagg hn;simp only[qt4,hb,hl,hn,decide_eq_true_eq]at hq;cases hbb:τ.is1&&Nat.beq sz 1<;>rw[hbb]at h<;>simp only[qT,qF,reduceCtorEq,qI]at h
    subst h;simp only[qA]at hbb;have hsz:τ.sz=1:=yy hbb.1;obtain⟨u,h1,B,n0,c0,ho,rfl⟩:=hr.frame _ _ hb;obtain⟨ad,c',q1,q2⟩:=hr.fin.mem.holds _ _ hl;rw[ho]at q1;simp only[qI,qP]at q1;obtain⟨rfl,rfl,rfl⟩:=q1;rcases q2 with⟨q2,_⟩|⟨g,vs,fz,k1,k2,k3,k4,k5,k6,k7,k8,k9⟩
    ·cases q2
    ·simp only[qI,Addr.mk.injEq,and_true]at k1;subst k1;have hfl:(l.flatMap τ.enc).length=n:=by rw[jw,hsz,hq,Nat.mul_one]
     have hload:jp P T (l.flatMap τ.enc) 0=some (.agg (l.flatMap τ.enc)):=by
      unfold jp;rw[hagg,hn];have:Nat.ble (0+n) (l.flatMap τ.enc).length=true:=by rw[hfl,wO];simp
      simp only[this,qT,List.drop_zero];rw[List.take_of_length_le (by rw[hfl];exact wF _)]
     obtain⟨u,hu,us,rfl,hru⟩:=v7 (P:=P) (w:=w) hload (B:=B) (o:=0) k7 (fun j u hu=>by
      rw[List.getElem?_take]at hu;split at hu
      ·rw[wO];exact cell_of_heap k2 hu
      ·cases hu)
     simp at hu;refine⟨.agg us,by simp[vy,Array.getD_eq_getD_getElem?,h1,asAddr,hu],?_⟩
     have:=qt0 (G:=G) hbb.1 hru;simpa using this
   ·cases h
  ·cases h
def q2r(hr:ah zw0 zwv zwx G s a w):∀{xs:List ResultVar}{vs:List AV},qdp P s xs=true->x6 P s xs=some vs ->
  ∃us:List Value,(xs.mapM (vy a.tmps)).run P w = .ok us w/\aj vs G us
 |[],vs,_,h=>by simp only[x6,qI]at h;subst h;exact⟨[],oC,trivial⟩|x::xs,vs,hq,h=>by
  simp only[qdp,qA]at hq;simp only[x6]at h;split at h
  ·rename_i v hv;split at h
   ·rename_i us hus;simp only[qI]at h;subst h;obtain⟨u,hu,hru⟩:=zd9 hr hq.1 hv;obtain⟨us',hu',hru'⟩:=q2r hr hq.2 hus;refine⟨u::us',?_,hru,hru'⟩;rw[List.mapM_cons];simp[Sem.run_bind,hu,Result.andThen_ok,hu',Sem.run_pure]
   ·cases h
  ·cases h
def zea(hr:ah zw0 zwv zwx G s a w){fn:Func}{v:AV}(hq:qdp P s fn.results.toList=true)(h:qq2 P fn s=some v):∃u,(results fn a.tmps).run P w = .ok u w/\ai v G u:=by
 unfold qq2 at h;have key:∀vs,x6 P s fn.results.toList=some vs->∃us:List Value,(results fn a.tmps).run P w = .ok (if h:us.toArray.size=1 then us.toArray[0] else .tuple us.toArray) w/\aj vs G us:=fun vs hv=>by
  obtain⟨us,h1,h2⟩:=q2r hr hq hv;refine⟨us,?_,h2⟩;rw[zj7,Array.mapM_eq_mapM_toList];simp only[Sem.run_bind,Sem.run_map,h1,Result.andThen_ok,Sem.run_pure]
 split at h
 ·rename_i vs hv;obtain⟨us,h1,h2⟩:=key _ hv;split at h
  ·simp at h;subst h
   match us,h2 with|[u],h2=>exact⟨u,by rw[h1];rfl,h2.1⟩|[],h2=>exact h2.elim|_::_::_,h2=>exact h2.2.elim
  ·rename_i hne;simp at h;subst h;refine⟨.tuple us.toArray,?_,us.toArray,rfl,by simpa using h2⟩
   rw[h1,dif_neg];intro he;have hl:=h2.length;simp at he;rw[he]at hl
   match vs,hl,hne with|[x],_,hne=>exact hne x rfl
 ·cases h
def ah.frzC{p:Pt}{b off:Nat}{s:St}{G:Gh}(hr:ah zw0 zwv zwx G s a w):∃G',ah zw0 zwv zwx G' (frzC p b off s) a w:=by
 unfold Sym.frzC;split
 ·exact hr.frzL
 ·exact⟨G,hr⟩
def ah.coR{bs:List (Nat×aw)}:∀{xs:List ResultVar}{ps:List Pt}{s:St}{G:Gh},ah zw0 zwv zwx G s a w->∃G',ah zw0 zwv zwx G' (coR bs xs ps s) a w
 |[],_,s,G,hr=>⟨G,hr⟩|x::xs,ps,s,G,hr=>by
  unfold Sym.coR;split
  ·exact⟨G,hr⟩
  ·split
   ·obtain⟨G',hr'⟩:=hr.coF (bs:=bs) (l:=[(_,_)]);exact ah.coR hr'
   ·split
    ·obtain⟨G',hr'⟩:=hr.coB1 (bs:=bs);obtain⟨G2,hr2⟩:=hr'.frzC;exact ah.coR hr2
    ·exact ah.coR hr
def qh3(hr:ah zw0 zwv zwx G s a w){ids:NM}(hid:∀n bx,ae zwx n=some bx->ar ids n=some n){v:AV}{p:Pt}{hp:List (Nat×aw)}{y:p.den×eh hp}(h:qh2 v ids p hp s=some y) :
  ∃G',Fin zw0 zwv zwx G' (bt hp y.2) w/\∀u,ai v G u->ai (p.put y.1) G' u:=by
 unfold qh2 at h;split at h
 ·rename_i d nm h1;split at h
  ·rename_i d' nm' h2;cases hq:c7 nm'&&pg nm' hp<;>rw[hq]at h<;>simp only[qT,qF,reduceCtorEq]at h
   have h:=qJ h;subst h;simp at hq;obtain⟨g1,g2⟩:=Pt.get_seen h1;obtain⟨b1,b2⟩:=uv h2;obtain⟨b3,_⟩:=b2 nm' hq.1 (ce.refl _);exact⟨G.view nm',hr.fin.fit hq.1 (fun n bx hb=>b1 _ _ (g1 _ _ (hid n bx hb))) b3,fun u hu=>(g2 nm' hq.1 b1).rep hu⟩
  ·cases h
 ·cases h
def qb4(P:Program)(fn:Func)(rv:Option AV)(a:Act)(w:World)(Q:Value->Prop):Prop:=
 match rv with|none=>∃u,(results fn a.tmps).run P w = .ok u w/\Q u|some x=>∀b,x = .val (.bool b)->Q (.bool b)
def zgy(hr:ah zw0 zwv zwx G s a w){ids:NM}(hid:∀n bx,ae zwx n=some bx->ar ids n=some n){fn:Func}{rv:Option AV}{p:Pt}{hp:List (Nat×aw)}{y:p.den×eh hp}(hq:qsm P fn ids rv p hp s=true)(h:qsl P fn ids rv p hp s=some y) :
  qb4 P fn rv a w fun u=>∃G',Fin zw0 zwv zwx G' (bt hp y.2) w/\ai (p.put y.1) G' u:=by
 unfold qsl at h;split at h
 ·rename_i x;obtain⟨G1,hr1⟩:=hr.coB (bs:=hp) (nm:=ids) (l:=hp);obtain⟨G',h1,h2⟩:=qh3 hr1 hid h;exact fun b e=>⟨G',h1,h2 _ (by subst e;rfl)⟩
 ·split at h
  ·rename_i v hv;obtain⟨G1,hr1⟩:=hr.coB (bs:=hp) (nm:=ids) (l:=hp);obtain⟨G2,hr2⟩:=hr1.coR (bs:=hp) (xs:=fn.results.toList) (ps:=qi4 p);obtain⟨G',h1,h2⟩:=qh3 hr2 hid h;obtain⟨u,hu,hru⟩:=zea hr2 hq hv;exact⟨u,hu,G',h1,h2 _ hru⟩
  ·cases h
def qb4.mono{fn:Func}{rv:Option AV}{Q Q':Value->Prop}(h:qb4 P fn rv a w Q)(k:∀v,Q v->Q' v):qb4 P fn rv a w Q':=by
 cases rv with
 |none=>obtain⟨u,h1,h2⟩:=h;exact⟨u,h1,k _ h2⟩
 |some x=>exact fun b e=>k _ (h b e)
def qh4(hr:ah zw0 zwv zwx G s a w){ids:NM}(hid:∀n bx,ae zwx n=some bx->ar ids n=some n){fn:Func}{rv:Option AV}:∀{α:Type}{enc:RS α}{x:α},enc.fin P fn ids rv s=some x ->
  qb4 P fn rv a w fun u=>∃G',Fin zw0 zwv zwx G' (enc.res x).2 w/\ai (enc.res x).1 G' u
 |_,.one p hp tq fro ok,x,h=>by
  simp[RS.fin]at h;cases hq:qsm P fn ids rv p hp s<;>rw[hq]at h<;>simp at h
  split at h
  ·rename_i y hy;have h:=qJ h;subst h;have:=zgy (P:=P) hr hid hq hy;simp[RS.res,ok];exact this
  ·cases h
 |_,.two l r,x,h=>by
  simp[RS.fin]at h;split at h
  ·rename_i y hy;have h:=qJ h;subst h;have:=qh4 (enc:=l) hr hid hy;exact this
  ·split at h
   ·rename_i y hy;have h:=qJ h;subst h;have:=qh4 (enc:=r) hr hid hy;exact this
   ·cases h
def q3w:∀{ns:List Nat}{s s':St}{G:Gh}{a:Act}{w:World},s.df=ns->qcq ns s=some s'->ah zw0 zwv zwx G s a w->∀(fr:Frame)(cs:List Frame),fr.mode = .returning->fr.defers=a.defers ->
  ∃w',ah zw0 zwv zwx G s' { a with defers:=[] } w'/\Steps P (lone fr cs w) (lone { fr with defers:=[] } cs w')
 |[],s,s',G,a,w,hd,h,hr,fr,cs,hm,hfd=>by
  simp[qcq,qI]at h;subst h;obtain⟨bs,h1,h2⟩:=hr.defers;rw[hd]at h2;have:bs=[]:=by cases bs with|nil=>rfl|cons _ _=>simp at h2
  subst this;refine⟨w,⟨⟨[],rfl,rfl⟩,hr.size,hr.frame,hr.fresh,hr.fin⟩,?_⟩;have e:({ fr with defers:=[] }:Frame)=fr:=by rw[← show fr.defers=[] by rw[hfd,h1];rfl]
  rw[e];exact .refl _ _
 |n::ns,s,s',G,a,w,hd,h,hr,fr,cs,hm,hfd=>by
  simp[qcq]at h;split at h
  ·rename_i hl;obtain⟨bs,h1,h2⟩:=hr.defers;rw[hd]at h2
   cases bs with
   |nil=>simp at h2|cons b bs=>
    simp at h2;obtain⟨B,k1,k2,k3⟩:=hr.fin.mem.holds n _ hl;rw[k1]at h2;obtain⟨e,h2⟩:=h2;injection e with e;subst e
    have hr1:=hr.setBox (bx' := .dead) (o := .deferred none) hl (show G.at n .dfr=some b from k1) (fun c hc=>by cases hc) trivial k3
    have hr2:ah zw0 zwv zwx G { s with hp:=(n,.dead)::s.hp,df:=ns } { a with defers:=bs.map (fun b=>{ target := .collected b,args:=#[] }) } (w.putObj b (.deferred none)):=
     ⟨⟨bs,rfl,h2⟩,hr1.size,hr1.frame,hr1.fresh,hr1.fin⟩
    have hs:=step_collected (P:=P) (cs:=cs) (fr:=fr) (by rw[hm];simp) (by rw[hfd,h1];rfl) rfl (run_takeDeferred k2)
    obtain⟨w',i1,i2⟩:=q3w (a:={ a with defers:=bs.map (fun b=>{ target := .collected b,args:=#[] }) }) rfl h hr2 { fr with defers:=[]++bs.map (fun b=>{ target := .collected b,args:=#[] }) } cs hm rfl
    exact⟨w',i1,(Steps.one hs).trans i2⟩
  ·cases h
end
structure Cx.Ok(cx:Cx)(body:Code):Prop where
 ents:∀e∈cx.tb.ents,e.Sound cx.P
 mixed:cx.P.follows .mixedOrders=true
 func:cx.P.funcs[cx.f]? = some cx.fn
 tags:∀p t,ke p cx.tags=some t->∀g ps x y,sub body p = .rangeFunc g ps x y->LC.lc t=some (x,y)
def nj(cx:Cx)(zwv:Gh)(zwx:List (Nat×ag))(b:Frame):Prop:=match cx.rd with|none=>b.roundOf=none|some m=>∃B bx,zwv.box m=some B/\ae zwx m=some bx/\b.roundOf=some B
section
variable{zw0:World}{zwv:Gh}{zwx:List (Nat×ag)}{G:Gh}{s:St}{a:Act}{w:World}
def zkg{P:Program}(fn:FuncId)(tmps:Array Value)(ps:Array Tmp)(asn bo:Code){l:Nat}{r:Loop}(h:w.heap[l]? = some (.loop r)) :
  (Instr.enterLoop fn tmps ps asn bo (some l)).run P w = .ok (w.heap.size,[]) (w.alloc (.loop { state := .ready,pending:=none,fn,tmps,params:=ps,assign:=asn,body:=bo,defers:=r.defers })):=by
 unfold Instr.enterLoop;simp only[Sem.run_bind,run_getLoop h,run_newObj_alloc,Result.andThen,Sem.run_pure]
def q56(hr:ah zw0 zwv zwx G s a w){k D DB:Nat}{f:FuncId}{ps:Array Tmp}{tag:Nat}{asn bo:Code}(htag:LC.lc tag=some (asn,bo))(hk:ae s.hp k=none)(hkx:s.nx<=k)(hD:G.box D=some DB)(hne:D≠k) :
  ah zw0 zwv zwx (G.addBox k w.heap.size) { s with hp:=(k,.loop .ready none f s.n s.fr ps.toList tag D)::s.hp } a (w.alloc (.loop { state := .ready,pending:=none,fn:=f,tmps:=a.tmps,params:=ps,assign:=asn,body:=bo,defers:=DB })):=by
 have hle:G.le (G.addBox k w.heap.size):=Gh.addBox_le (hr.fresh k hkx hk).1;refine hr.newBox hk hkx (fun b hb => ?_) ⟨w.heap.size,a.tmps,DB,Gh.addBox_self,by rw[Gh.addBox_ne hne];exact hD,⟨asn,bo,htag,?_⟩,hr.size,fun i x hx => ?_,fun o => ?_⟩
 ·have hb:(G.addBox k w.heap.size).box k=some b:=hb;rw[Gh.addBox_self]at hb;injection hb with hb;exact hb.symm
 ·rw[mj];simp
 ·obtain⟨v,h1,h2⟩:=hr.frame i x hx;exact⟨v,h1,h2.le hle⟩
 ·cases hq:(G.addBox k w.heap.size).imm w.heap.size o with
  |none=>rfl|some v=>
   have:=World.block_lt_of_cell? _ _ (hr.fin.mem.agree _ _ _ hq);simp at this
def ah.nx(hr:ah zw0 zwv zwx G s a w){k:Nat}(h:s.nx<=k):ah zw0 zwv zwx G { s with nx:=k } a w:=⟨hr.defers,hr.size,hr.frame,fun m hm hl=>hr.fresh m (Nat.le_trans h hm) hl,hr.fin⟩
def zgs(hr:ah zw0 zwv zwx G s a w){cx:Cx}{ps:Array Tmp}{tag:Nat}{asn bo:Code}(htag:LC.lc tag=some (asn,bo)){s1:St}(h:s.enterRF cx.f ps.toList tag cx.rd=some s1){b:Frame}(hb:b.fn=cx.f)(hrd:nj cx zwv zwx b) :
  ∃G1 l mark w1,(Instr.enterLoop b.fn a.tmps ps asn bo b.roundOf).run cx.P w = .ok (l,mark) w1/\G1.box s.nx=some l/\G.le G1/\ah zw0 zwv zwx G1 s1 { a with defers:=mark++a.defers } w1/\s1.nx=s.nx+32:=by
 unfold St.enterRF at h;cases hn:au s.nx s.hp<;>rw[hn]at h<;>simp only[qT,qF,reduceCtorEq]at h
 have hk0:=jc hn s.nx (wF _) oA
 have hk1:=jc hn (s.nx+1) oA oA
 unfold nj at hrd;split at h
 ·rename_i hc;rw[hc]at hrd;simp only at hrd;simp only[qI]at h;subst h;have hr1:=hr.newBox (k:=s.nx+1) (bx := .dfr) (o := .deferred (some [])) hk1 oA (fun b hb=>by
   have hb:(G.addBox (s.nx+1) w.heap.size).box (s.nx+1)=some b:=hb;rw[Gh.addBox_self]at hb;injection hb with hb;exact hb.symm)
   ⟨w.heap.size,Gh.addBox_self,mj _ _,fun o=>by
    cases hq:(G.addBox (s.nx+1) w.heap.size).imm w.heap.size o with
    |none=>rfl|some v=>
     have:=World.block_lt_of_cell? _ _ (hr.fin.mem.agree _ _ _ hq);simp at this⟩
  have hk0':ae ((s.nx+1,ag.dfr)::s.hp) s.nx=none:=by
   simp only[ae];have:Nat.beq (s.nx+1) s.nx=false:=by
    cases hq:Nat.beq (s.nx+1) s.nx
    ·rfl
    ·have:=qN hq;omega
   rw[this];exact hk0
  have hr2:=q56 hr1 (k:=s.nx) (D:=s.nx+1) (f:=cx.f) (ps:=ps) htag hk0' (wF _) Gh.addBox_self oA
  have hle1:G.le (G.addBox (s.nx+1) w.heap.size):=Gh.addBox_le (hr.fresh (s.nx+1) oA hk1).1
  have hle2:(G.addBox (s.nx+1) w.heap.size).le ((G.addBox (s.nx+1) w.heap.size).addBox s.nx (w.alloc (.deferred (some []))).heap.size):=Gh.addBox_le (hr1.fresh s.nx (wF _) hk0').1;refine⟨_,w.heap.size+1,[{ target := .collected w.heap.size,args:=#[] }],_,by rw[hrd,hb];exact run_enterLoop_outer _ _ _ _ _,?_,hle1.trans hle2,?_,rfl⟩
  ·rw[Gh.addBox_self,World.size_alloc]
  ·have hr3:=hr2.nx (k:=s.nx+32) (by show s.nx<=_;omega)
   refine⟨?_,hr3.size,hr3.frame,hr3.fresh,hr3.fin⟩;obtain⟨bs,h1,h2⟩:=hr3.defers;refine⟨w.heap.size::bs,by rw[h1];rfl,?_⟩
   simp only[List.map_cons,List.cons.injEq];refine⟨?_,h2⟩;rw[Gh.addBox_ne oA,Gh.addBox_self]
 ·rename_i m hc;rw[hc]at hrd;simp only at hrd;obtain⟨B,bx0,e1,e2,e3⟩:=hrd;split at h
  ·rename_i D hm;simp only[qI]at h;subst h;obtain⟨B',tmps,DB,k1,k2,⟨asn',bo',_,k3⟩,_⟩:=hr.fin.mem.holds _ _ hm;have:=hr.fin.keep m bx0 B e2 e1;rw[this]at k1;injection k1 with k1;subst k1
   have hne:D≠s.nx:=fun e=>by subst e;rw[(hr.fresh _ (wF _) hk0).1]at k2;cases k2
   have hr2:=q56 hr (k:=s.nx) (D:=D) (f:=cx.f) (ps:=ps) htag hk0 (wF _) k2 hne;have hle2:G.le (G.addBox s.nx w.heap.size):=Gh.addBox_le (hr.fresh s.nx (wF _) hk0).1;refine⟨_,w.heap.size,[],_,by rw[e3,hb];exact zkg _ _ _ _ _ k3,Gh.addBox_self,hle2,?_,rfl⟩
   exact hr2.nx (k:=s.nx+32) (by show s.nx<=_;omega)
  ·cases h
end
def qs2:Option cr->List Item|none=>[]|some j=>[.code j.code]
section
variable{zw0:World}{zwv:Gh}{zwx:List (Nat×ag)}{G:Gh}{s:St}{a:Act}{w:World}{cx:Cx}{body:Code}{R:Type}
def q72(ok:cx.Ok body)(hr:ah zw0 zwv zwx G s a w){p:List Nat}{g:Operand}{ps:Array Tmp}{asn bo:Code}(hsub:sub body p = .rangeFunc g ps asn bo){q:Rq×St×List AV}(hq:qja cx p g ps.toList s=some q)
  {K:Option cr->St->Option R} {x:R} (h:qjb s.nx q K=some x) {b:Frame} (cs:List Frame) (hb:b.fn=cx.f) (_hkind:b.kind = .normal) (hrd:nj cx zwv zwx b) (k:List Item) :
  ∃j s' G' a' w',K j s'=some x/\ah zw0 zwv zwx G' s' a' w'/\Steps cx.P (lone (b.atR a (.code (.rangeFunc g ps asn bo)::k)) cs w) (lone (b.atR a' (qs2 j++k)) cs w'):=by
 unfold qja at hq;split at hq
 ·rename_i tag h0 cap ht hg;split at hq
  ·rename_i s1 hs1;split at hq
   ·rename_i q1 hq1;have hq:=qJ hq;subst hq;obtain⟨G1,l,mark,w1,he,hl,hle,hr1,hnx⟩:=zgs hr (ok.tags p tag ht g ps asn bo hsub) hs1 hb hrd;unfold qjb at h;obtain⟨d,hd,h⟩:=Rq.K_some h;simp only at h hd;obtain⟨e,hemem,hc⟩:=va hq1;unfold qco at hc;cases hkk:n9 h0 e.key<;>rw[hkk]at hc<;>simp only[qT,qF,reduceCtorEq]at hc
    obtain⟨N,x1,x1',y,k1,k2,k3,k4,k5,k6⟩:=qiv hc hd;subst k2;have hs:=ok.ents e hemem x1 x1' y k1;rw[qs5 hkk]at hs;obtain⟨hpl,hct⟩:=hs;unfold q71 at h;simp only at h;cases hbb:c7 N&&ny N&&au s1.nx s1.hp<;>rw[hbb]at h<;>simp only[qT,qF,reduceCtorEq]at h
    simp only[qA]at hbb;obtain⟨⟨hb1,_⟩,hb2⟩:=hbb
    cases hv:fm (ap N) s1.hp N with
    |none=>rw[hv]at h;simp only[reduceCtorEq]at h|some hpv=>
    cases hvs:a8 false [] (AV.rens (ap N) (.yld s.nx::cap)) (Pts.put e.args x1) with
    |none=>rw[hv,hvs]at h;simp only[reduceCtorEq]at h|some ps1=>
    rw[hv,hvs]at h;simp only at h
    cases hvw:ie hpv (bt e.hp x1') with
    |none=>rw[hvw]at h;simp only[reduceCtorEq]at h|some ps2=>
    rw[hvw]at h;simp only at h;have p1:=k5 _ hvs;have p2:=k6 _ _ hv hvw;obtain⟨fs,cps,hge,hfs,hcs⟩:=a6 hr hg;have hfs0:fs=#[]:=Array.eq_empty_of_size_eq_zero (by simpa using hfs.length.symm)
    subst hfs0;have hge':({ a with defers:=mark++a.defers }:Act).eval g = .func (.func h0) #[] cps:=hge
    have hres:(resolve a.eval (rangeCall g l) 0).run cx.P w1 = .ok { target := .fn (.func h0) cps,args:=#[.func (.yield l) #[] #[]] } w1:=by
     have hy:a.eval (.const (.func (.yield l) #[] #[])) = .func (.yield l) #[] #[]:=rfl;simp[resolve,hge,Deferred.ofValue,hy]
    have hinv:(invoke (.fn (.func h0) cps) #[.func (.yield l) #[] #[]]).run cx.P w1 = .ok (.enter h0 (#[.func (.yield l) #[] #[]]++cps)) w1:=by
     simp[invoke,hpl _ w1]
    have henter:=stepR_rangeFunc (P:=cx.P) (b:=b) (a:=a) (k:=k) (cs:=cs) he hres hinv;have hreps:aj (.yld s.nx::cap) G1 (.func (.yield l) #[] #[]::cps.toList):=⟨⟨l,hl,rfl⟩,hcs.le hle⟩;have hm:bp (G1.view N) (bt e.hp x1') w1:=(hr1.fin.mem.view hv (yn hb1)).vw hvw p2;have hreps2:=io (Gh.le.refl _) (fun e=>by cases e) hvs p1 (aj.ren (G:=G1) (G':=G1.view N) (fun _ _ _ h=>h) (ol N) (qh N) hreps)
    have hcalls:=hct w1 (G1.view N) _ hm hreps2;have e1:(Value.func (.yield l) #[] #[]::cps.toList).toArray=#[.func (.yield l) #[] #[]]++cps:=oC
    rw[e1]at hcalls;obtain⟨en,w2,fr,hpost,hcomes,hfrfn,hleave⟩:=hcalls (b.atR { a with defers:=mark++a.defers } (.inRangeFunc l::k)::cs)
    obtain⟨G2,v,rfl,_,hle2,hr2⟩:=q6f hr1 hb1 hb2 (wF _) hv hvw p2 hpost;have hsteps:Steps cx.P (lone (b.atR a (.code (.rangeFunc g ps asn bo)::k)) cs w) (lone (b.atR { a with defers:=mark++a.defers } (.endRangeFunc l::k)) cs w2):=by
     refine(Steps.one henter).trans (Steps.trans hcomes (.one ?_));rw[← finish_atR_inRangeFunc l v];exact step_leave_returned hleave
    split at h
    ·rename_i st pe f' n' fr' ps' tag' D' hlk;cases hnb:q6s st<;>rw[hnb]at h<;>simp only[qT,qF,reduceCtorEq]at h
     obtain⟨B,tmps,DB,i1,i2,⟨asn',bo',_,i3⟩,i4,i5,i6⟩:=hr2.fin.mem.holds _ _ hlk;have:=hle2.box _ _ hl;rw[this]at i1;injection i1 with i1;subst i1
     have hend:=run_endLoop (P:=cx.P) i3 (by intro e;simp only at e;subst e;cases hnb)
     have hst:=stepR_endRangeFunc (b:=b) (a:={ a with defers:=mark++a.defers }) (k:=k) (cs:=cs) hend
     have e2:(Option.map Item.code (Option.map cr.code pe)).toList=qs2 pe:=by cases pe<;>rfl
     rw[e2]at hst;exact⟨pe,_,G2,{ a with defers:=mark++a.defers },_,h,(hr2.nx (k:=s1.nx+32) (Nat.le_add_right _ _)).setBox (bx' := .dead) hlk (show G2.at s.nx (.loop st pe f' n' fr' ps' tag' D')=some l from this) (fun c hc=>by cases hc) trivial i6,hsteps.trans (.one hst)⟩
    ·cases h
   ·cases hq
  ·cases hq
 ·cases hq
def zj8(ok:cx.Ok body)(hr:ah zw0 zwv zwx G s a w){p:List Nat}{g:Operand}{ps:Array Tmp}{asn bo:Code}(hsub:sub body p = .rangeFunc g ps asn bo)
  {K:Option cr->St->Option R} {x:R} (h:rfR cx p g ps.toList s K=some x) {b:Frame} (cs:List Frame) (hb:b.fn=cx.f) (hkind:b.kind = .normal) (hrd:nj cx zwv zwx b) (k:List Item) :
  ∃j s' G' a' w',K j s'=some x/\ah zw0 zwv zwx G' s' a' w'/\Steps cx.P (lone (b.atR a (.code (.rangeFunc g ps asn bo)::k)) cs w) (lone (b.atR a' (qs2 j++k)) cs w'):=by
 unfold rfR at h;split at h
 ·rename_i q hq;exact q72 ok hr hsub hq h cs hb hkind hrd k
 ·split at h
  ·rename_i s' hs';have:∃G',ah zw0 zwv zwx G' s' a w:=by
    unfold q73 at hs';split at hs'
    ·split at hs'
     ·split at hs'
      ·have hs':=qJ hs';subst hs';obtain⟨G1,hr1⟩:=hr.frzL;exact hr1.coB
      ·cases hs'
     ·cases hs'
    ·cases hs'
   obtain⟨G',hr'⟩:=this;split at h
   ·rename_i q hq;exact q72 ok hr' hsub hq h cs hb hkind hrd k
   ·cases h
  ·cases h
def gz(cx:Cx)(zwx:List (Nat×ag)){R:Type}(enc:RS R)(k:List Item)(s:St)(r:R):Prop:=
 ∀(zw0:World)(zwv G:Gh)(a:Act)(w:World),ah zw0 zwv zwx G s a w->∀(b:Frame)(cs:List Frame),b.fn=cx.f->b.kind = .normal->nj cx zwv zwx b ->
  t6 cx.P b.roundOf cx.f (lone (b.atR a k) cs w) cs fun v w'=>∃G',Fin zw0 zwv zwx G' (enc.res r).2 w'/\ai (enc.res r).1 G' v
def qko(cx:Cx)(j:Option cr)(k:List Item):Prop:=match j with|none=>k=[]|some .ret=>∃k',k = .code .ret::k'|some (.exit id)=>cx.rd≠none/\∃k',k = .code (.exit id)::k'/\exitTo id k'=none
def qhr(ok:cx.Ok body)(hid:∀n bx,ae zwx n=some bx->ar cx.ids n=some n){enc:RS R}{j:Option cr}{r:R}{k:List Item}(hk:qko cx j k)(h:kz cx enc j s=some r):gz cx zwx enc k s r:=by
 intro zw0 zwv G a w hr b cs hb hkind hrd;unfold kz at h;unfold nj at hrd;split at h
 ·rename_i hrdn;rw[hrdn]at hrd;simp only at hrd;split at h
  ·rename_i s' hs';have h1:Steps cx.P (lone (b.atR a k) cs w) (lone { b.atR a k with mode := .returning } cs w):=by
    cases j with
    |none=>simp only[qko]at hk;subst hk;exact .one (stepR_end hrd)|some j=>cases j with
     |ret=>obtain⟨k',rfl⟩:=hk;exact .one (stepR_ret hrd)
     |exit id=>exact absurd hrdn hk.1
   obtain⟨w',i1,i2⟩:=q3w (P:=cx.P) rfl hs' hr { b.atR a k with mode := .returning } cs rfl rfl
   obtain⟨u,u1,u2⟩:=qh4 (P:=cx.P) i1 hid h;rw[hrd];exact⟨u,w',_,u2,h1.trans i2,hb,rfl,rfl,hkind,cx.fn,by rw[← ok.func,← hb];rfl,u1⟩
  ·cases h
 ·rename_i m hrdm;rw[hrdm]at hrd;simp only at hrd;obtain⟨B,bx0,e1,e2,e3⟩:=hrd;cases hd:s.noDf<;>rw[hd]at h<;>simp only[qT,qF,reduceCtorEq]at h
  split at h
  ·rename_i st pe f n fr ps tag D hl;obtain⟨B',tmps,DB,i1,i2,⟨asn,bo,i3,i4⟩,i5,i6,i7⟩:=hr.fin.mem.holds _ _ hl;have:=hr.fin.keep m bx0 B e2 e1;rw[this]at i1;injection i1 with i1;subst i1
   have hend:=run_endRound (P:=cx.P) (j.map cr.code) i4;have hiso:(j.map cr.code).isNone=pz j:=by cases j<;>rfl
   rw[hiso]at hend;have hst:(if pz j=true then LoopState.ready else LoopState.done)=(bif pz j then LoopState.ready else LoopState.done):=by cases pz j<;>rfl
   rw[hst]at hend;have hr2:=hr.setBox (bx' := .loop (bif pz j then .ready else .done) j f n fr ps tag D) (o := .loop { state:=bif pz j then .ready else .done,pending:=j.map cr.code,fn:=f,tmps:=tmps,params:=ps.toArray,assign:=asn,body:=bo,defers:=DB }) hl (show G.box m=some B from this)
    (fun c hc=>by have hc:G.box m=some c:=hc;rw[this]at hc;injection hc with hc;exact hc.symm)
    ⟨B,tmps,DB,this,i2,⟨asn,bo,i3,by rw[World.putObj_heap_same (Array.getElem?_eq_some_iff.1 i4).1]⟩,i5,i6,i7⟩ i7
   have hfin:=qh4 (P:=cx.P) hr2 hid h;rw[e3];intro c cs' hcs;subst hcs;refine⟨.bool (pz j),_,hfin _ rfl,.one ?_⟩
   cases j with
   |none=>simp only[qko]at hk;subst hk;exact stepR_round_end e3 hkind hend|some j=>cases j with
    |ret=>obtain⟨k',rfl⟩:=hk;exact stepR_round_ret e3 hkind hend
    |exit id=>obtain⟨_,k',rfl,hx⟩:=hk;exact stepR_round_exit e3 hkind hx hend
  ·cases h
end
section
variable{zwx:List (Nat×ag)}{s:St}{cx:Cx}{body:Code}{R:Type}{enc:RS R}
def gz.via{k k':List Item}{s':St}{r:R}(h:gz cx zwx enc k' s' r)(hs:∀zw0 zwv G a w,ah zw0 zwv zwx G s a w->∀(b:Frame)(cs:List Frame),b.fn=cx.f->b.kind = .normal->nj cx zwv zwx b ->
  ∃G' a' w',ah zw0 zwv zwx G' s' a' w'/\Steps cx.P (lone (b.atR a k) cs w) (lone (b.atR a' k') cs w')):gz cx zwx enc k s r:=by
 intro zw0 zwv G a w hr b cs hb hk hrd;obtain⟨G',a',w',h1,h2⟩:=hs zw0 zwv G a w hr b cs hb hk hrd;exact(h zw0 zwv G' a' w' h1 b cs hb hk hrd).head h2
def gz.one{k k':List Item}{r:R}(h:gz cx zwx enc k' s r)(hs:∀(a:Act)(w:World)(b:Frame)(cs:List Frame),step cx.P (lone (b.atR a k) cs w) = .next (lone (b.atR a k') cs w)):gz cx zwx enc k s r:=
 h.via fun _ _ G a w hr b cs _ _ _=>⟨G,a,w,hr,.one (hs a w b cs)⟩
def nh(cx:Cx)(zwx:List (Nat×ag)){R:Type}(enc:RS R)(body:Code)(l:dy R):Prop:=∀d r,l.F d=some r->gz cx zwx enc (db (jz body l.key)) (l.ls.st d) r
def qtr{ids:NM}{s:St}{k:List cz}:∀{ls:List (dy R)}{l:dy R},vv ids s k ls=some l->l∈ls/\yt l.key k=true
 |[],_,h=>by cases h
 |x::xs,l,h=>by
  simp only[vv]at h;cases hb:yt x.key k<;>rw[hb]at h<;>simp only[qT,qF]at h
  ·obtain⟨h1,h2⟩:=qtr h;exact⟨qE _ h1,h2⟩
  ·split at h
   ·simp only[qI]at h;subst h;exact⟨qH,hb⟩
   ·rename_i l' hl;split at h
    ·simp only[qI]at h;subst h;exact⟨qH,hb⟩
    ·simp only[qI]at h;subst h;obtain⟨h1,h2⟩:=qtr hl;exact⟨qE _ h1,h2⟩
def q6w{i:cz}{k:List cz}(h:∀x∈i::k,x.Ok body):i.Ok body/\∀x∈k,x.Ok body:=⟨h _ qH,fun x hx=>h x (qE _ hx)⟩
def iz{i:cz}{k:List cz}(h:i.Ok body)(k':∀x∈k,x.Ok body):∀x∈i::k,x.Ok body:=fun x hx=>by
 rcases List.mem_cons.1 hx with rfl|hx
 ·exact h
 ·exact k' x hx
def zfx{kd:Nat}{p:List Nat}{c:Code}(h:(cz.mk kd p (.code c)).Ok body):sub body p=c:=zhv h
def nt{p:List Nat}{c:Code}(i:Nat){x:Code}(h:sub body p=c)(hc:pm i c=x):(cz.mk 0 (i::p) (.code x)).Ok body:=by
 show Item.code x = .code (pm i (sub body p));rw[h,hc]
def ze7{p:List Nat}{id:Nat}{x:Code}(h:sub body p = .block id x):(cz.mk 1 p (.inBlock id)).Ok body:=by
 show Item.inBlock id=(match sub body p with | .block id _ => .inBlock id|c => .code c)
 rw[h]
def q55{p:List Nat}{x:Code}(h:sub body p = .loop x):(cz.mk 2 p (.inLoop x)).Ok body:=by
 show Item.inLoop x=(match sub body p with | .loop x => .inLoop x|c => .code c)
 rw[h]
def zk5{P:Program}{b:Frame}{a:Act}{k:List Item}{cs:List Frame}{w:World}{x:Code}:step P (lone (b.atR a (.inScope x::k)) cs w) = .next (lone (b.atR a k) cs w):=
 step_lone_go (by simp[stepG,stepG.exec,Frame.atR])
def zk6{P:Program}{b:Frame}{a:Act}{k:List Item}{cs:List Frame}{w:World}{c:Code} :
  step P (lone (b.atR a (.code (.scope c)::k)) cs w) = .next (lone (b.atR a (.code c :: .inScope c::k)) cs w):=
 step_lone_go (by simp[stepG,stepG.exec,Frame.atR])
def zkq{p:List Nat}{x:Code}(h:sub body p = .scope x):(cz.mk 3 p (.inScope x)).Ok body:=by
 show Item.inScope x=(match sub body p with | .scope x => .inScope x|c => .code c)
 rw[h]
def qsh{id:Nat}:∀{k:List cz},mf id k=none->(∀i∈k,i.Ok body)->exitTo id (db k)=none
 |[],_,_=>rfl|⟨kd,p,it⟩::k,h,hk=>by
  simp only[mf]at h;have hk':=(q6w hk).2;split at h
  ·rename_i id';split at h
   ·cases h
   ·rename_i he;simp only[db,exitTo];rw[qW he];exact qsh h hk'
  ·rename_i hne;have:=qsh h hk';simp only[db];cases it<;>first
    |(exfalso;exact hne _ rfl)
    |(simp only[exitTo];exact this)
abbrev IH(cx:Cx)(zwx:List (Nat×ag)){R:Type}(enc:RS R)(body:Code)(labs:List (dy R))(n:Nat):Prop:=
 ∀(chk:Bool)(k:List cz)(s:St)(r:R),(∀i∈k,i.Ok body)->run cx enc labs n chk k s=some r->gz cx zwx enc (db k) s r
def vz(cx:Cx){R:Type}(enc:RS R)(labs:List (dy R))(n:Nat)(p:List Nat)(k':List cz)(s:St)(c:Code):Option R:=match c with
 |.skip=>run cx enc labs n true k' s|.label _=>run cx enc labs n true k' s|.seq x y=>run cx enc labs n true (⟨0,0::p,.code x⟩::⟨0,1::p,.code y⟩::k') s|.cond c x y=>match s.ev c with|some (.bool b)=>bif b then run cx enc labs n true (⟨0,0::p,.code x⟩::k') (s.know c true) else run cx enc labs n true (⟨0,1::p,.code y⟩::k') (s.know c false)|some (.val (.bool b))=>bif b then run cx enc labs n true (⟨0,0::p,.code x⟩::k') s else run cx enc labs n true (⟨0,1::p,.code y⟩::k') s|_=>none
 |.block id x=>run cx enc labs n true (⟨0,0::p,.code x⟩::⟨1,p,.inBlock id⟩::k') s|.loop x=>run cx enc labs n true (⟨0,0::p,.code x⟩::⟨2,p,.inLoop x⟩::k') s|.scope x=>run cx enc labs n true (⟨0,0::p,.code x⟩::⟨3,p,.inScope x⟩::k') s|.exit id=>match mf id k' with
  |some k''=>run cx enc labs n true k'' s|none=>match cx.rd with|some _=>kz cx enc (some (.exit id)) s|none=>none
 |.region _ ops d=>bif d then qr8 cx.P cx.tb ops s (fun s'=>run cx enc labs n true k' s'.bump) else vq cx.P cx.tb ops ops.toList s (fun s'=>run cx enc labs n true k' s'.bump)
 |.ret=>kz cx enc (some .ret) s|.rangeFunc g ps _ _=>rfR cx p g ps.toList s fun j s'=>match j with
  |none=>run cx enc labs n true k' s'|some .ret=>kz cx enc (some .ret) s'|some (.exit id)=>match mf id k' with
   |some k''=>run cx enc labs n true k'' s'|none=>match cx.rd with|some _=>kz cx enc (some (.exit id)) s'|none=>none
 |_=>none
def zkf{labs:List (dy R)}{n:Nat}(ih:IH cx zwx enc body labs n){p:List Nat}{k':List cz}{c:Operand}{x y:Code}{r:R}(hsub:sub body p = .cond c x y)(hk':∀i∈k',i.Ok body)(h:vz cx enc labs n p k' s (.cond c x y)=some r):gz cx zwx enc (.code (.cond c x y)::db k') s r:=by
 unfold vz at h;simp only at h;split at h
 ·rename_i t ht;cases t<;>simp only[qT,qF]at h
  ·refine(ih true _ _ r (iz (nt 1 hsub rfl) hk') h).via fun zw0 zwv G a w hr b cs _ _ _ => ?_
   have he:a.eval c = .bool false:=a6 hr ht;exact⟨G,a,w,hr.know he,.one (stepR_cond he)⟩
  ·refine(ih true _ _ r (iz (nt 0 hsub rfl) hk') h).via fun zw0 zwv G a w hr b cs _ _ _ => ?_
   have he:a.eval c = .bool true:=a6 hr ht;exact⟨G,a,w,hr.know he,.one (stepR_cond he)⟩
 ·rename_i t ht;cases t<;>simp only[qT,qF]at h
  ·refine(ih true _ _ r (iz (nt 1 hsub rfl) hk') h).via fun zw0 zwv G a w hr b cs _ _ _ => ?_
   have he:a.eval c = .bool false:=a6 hr ht;exact⟨G,a,w,hr,.one (stepR_cond he)⟩
  ·refine(ih true _ _ r (iz (nt 0 hsub rfl) hk') h).via fun zw0 zwv G a w hr b cs _ _ _ => ?_
   have he:a.eval c = .bool true:=a6 hr ht;exact⟨G,a,w,hr,.one (stepR_cond he)⟩
 ·cases h
def zkk(ok:cx.Ok body){labs:List (dy R)}{n:Nat}(ih:IH cx zwx enc body labs n){p:List Nat}{k':List cz}{id:Nat}{ops:Array Oper}{d:Bool}{r:R}(hk':∀i∈k',i.Ok body)(h:vz cx enc labs n p k' s (.region id ops d)=some r):gz cx zwx enc (.code (.region id ops d)::db k') s r:=by
 unfold vz at h;simp only at h;cases d<;>simp only[qT,qF]at h
 ·intro zw0 zwv G a w hr b cs hb hkd hrd;have hops:=q60 (P:=cx.P) (ops:=ops) ok.ents (N:=fun a' w'=>t6 cx.P b.roundOf cx.f (lone (b.atR a' (db k')) cs w') cs fun v w'=>∃G',Fin zw0 zwv zwx G' (enc.res r).2 w'/\ai (enc.res r).1 G' v)
   (fun s' h' G' a' w' hr'=>ih true k' s'.bump r hk' h' zw0 zwv G' a' w' hr'.bump b cs hb hkd hrd) ops.toList 0 s G a w (fun j hj=>oC) h hr
  have e:List.range' 0 ops.toList.length=List.range ops.size:=by simp[List.range_eq_range']
  rw[e]at hops;obtain⟨a',w',h1,h2⟩:=zf3 (id:=id) hops b (db k') cs hkd;exact h1.head h2
 ·intro zw0 zwv G a w hr b cs hb hkd hrd;obtain⟨a',w',h1,h2⟩:=zgj (P:=cx.P) ok.ents ok.mixed h (N:=fun a' w'=>t6 cx.P b.roundOf cx.f (lone (b.atR a' (db k')) cs w') cs fun v w'=>∃G',Fin zw0 zwv zwx G' (enc.res r).2 w'/\ai (enc.res r).1 G' v)
   (fun s' h' G' a' w' hr'=>ih true k' s'.bump r hk' h' zw0 zwv G' a' w' hr'.bump b cs hb hkd hrd) hr id b (db k') cs hkd
  exact h1.head h2
def q8e(ok:cx.Ok body)(hid:∀n bx,ae zwx n=some bx->ar cx.ids n=some n){labs:List (dy R)}{n:Nat}(ih:IH cx zwx enc body labs n){k':List cz}{id:Nat}{r:R}(hk':∀i∈k',i.Ok body)
  (h:(match mf id k' with
   |some k''=>run cx enc labs n true k'' s|none=>match cx.rd with
    |some _=>kz cx enc (some (.exit id)) s| none=>none)=some r):gz cx zwx enc (.code (.exit id)::db k') s r:=by
 split at h
 ·rename_i k'' hx;obtain⟨h1,h2⟩:=qsi hx;exact(ih true k'' s r (fun i hi=>hk' i (h2 i hi)) h).one fun a w b cs=>stepR_exit h1
 ·rename_i hx;split at h
  ·rename_i m hm;exact qhr ok hid (j:=some (.exit id)) ⟨by rw[hm];simp,_,rfl,qsh hx hk'⟩ h
  ·cases h
def zkj(ok:cx.Ok body)(hid:∀n bx,ae zwx n=some bx->ar cx.ids n=some n){labs:List (dy R)}{n:Nat}(ih:IH cx zwx enc body labs n){p:List Nat}{k':List cz}{g:Operand}{ps:Array Tmp}{asn bo:Code}{r:R}(hsub:sub body p = .rangeFunc g ps asn bo)(hk':∀i∈k',i.Ok body)
  (h:vz cx enc labs n p k' s (.rangeFunc g ps asn bo)=some r):gz cx zwx enc (.code (.rangeFunc g ps asn bo)::db k') s r:=by
 unfold vz at h;simp only at h;intro zw0 zwv G a w hr b cs hb hkd hrd;obtain⟨j,s',G',a',w',h1,h2,h3⟩:=zj8 ok hr hsub h cs hb hkd hrd (db k');refine t6.head h3 ?_
 cases j with
 |none=>exact ih true k' s' r hk' h1 zw0 zwv G' a' w' h2 b cs hb hkd hrd|some j=>cases j with|ret=>exact qhr ok hid (j:=some .ret) (k := .code .ret::db k') ⟨_,rfl⟩ h1 zw0 zwv G' a' w' h2 b cs hb hkd hrd|exit id=>exact q8e ok hid ih hk' h1 zw0 zwv G' a' w' h2 b cs hb hkd hrd
def zke(ok:cx.Ok body)(hid:∀n bx,ae zwx n=some bx->ar cx.ids n=some n){labs:List (dy R)}{n:Nat}(ih:IH cx zwx enc body labs n){kd:Nat}{p:List Nat}{k':List cz}{c:Code}{r:R}(hi:(cz.mk kd p (.code c)).Ok body)(hk':∀i∈k',i.Ok body)
  (h:vz cx enc labs n p k' s c=some r):gz cx zwx enc (.code c::db k') s r:=by
 have hsub:=zfx hi
 cases c with
 |skip=>exact(ih true k' s r hk' h).one fun a w b cs=>stepR_skip
 |label l=>exact(ih true k' s r hk' h).one fun a w b cs=>stepR_label
 |seq x y=>exact(ih true _ s r (iz (nt 0 hsub rfl) (iz (nt 1 hsub rfl) hk')) h).one fun a w b cs=>stepR_seq
 |cond c x y=>exact zkf ih hsub hk' h|block id x=>exact(ih true _ s r (iz (nt 0 hsub rfl) (iz (ze7 hsub) hk')) h).one fun a w b cs=>stepR_block
 |loop x=>exact(ih true _ s r (iz (nt 0 hsub rfl) (iz (q55 hsub) hk')) h).one fun a w b cs=>stepR_loop
 |scope x=>exact(ih true _ s r (iz (nt 0 hsub rfl) (iz (zkq hsub) hk')) h).one fun a w b cs=>zk6
 |exit id=>exact q8e ok hid ih hk' h|region id ops d=>exact zkk ok ih hk' h|ret=>exact qhr ok hid (j:=some .ret) ⟨_,rfl⟩ h|rangeFunc g ps asn bo=>exact zkj ok hid ih hsub hk' h|_=>cases h
def zkd{labs:List (dy R)}{n:Nat}(ih:IH cx zwx enc body labs n){k':List cz}{r:R}(hk':∀i∈k',i.Ok body)
  (h:(match cx.rd with
   |some m=>match ae s.hp m with|some (.loop .ready pe f n' fr ps tag D)=>run cx enc labs n true k' { s with hp:=(m,.loop .busy pe f n' fr ps tag D)::s.hp }|_=>none
   | none=>none)=some r):gz cx zwx enc (.beginRound::db k') s r:=by
 split at h
 ·rename_i m hm;split at h
  ·rename_i pe f n' fr ps tag D hl;refine(ih true k' _ r hk' h).via fun zw0 zwv G a w hr b cs _ _ hrd => ?_
   unfold nj at hrd;rw[hm]at hrd;simp only at hrd;obtain⟨B,bx0,e1,e2,e3⟩:=hrd;obtain⟨B',tmps,DB,i1,i2,⟨asn,bo,i3,i4⟩,i5,i6,i7⟩:=hr.fin.mem.holds _ _ hl;have:=hr.fin.keep m bx0 B e2 e1;rw[this]at i1;injection i1 with i1;subst i1
   have hbr:=run_beginRound (P:=cx.P) i4 rfl;exact⟨G,a,_,hr.setBox (bx' := .loop .busy pe f n' fr ps tag D) hl (show G.box m=some B from this)
    (fun c hc=>by have hc:G.box m=some c:=hc;rw[this]at hc;injection hc with hc;exact hc.symm)
    ⟨B,tmps,DB,this,i2,⟨asn,bo,i3,by rw[World.putObj_heap_same (Array.getElem?_eq_some_iff.1 i4).1]⟩,i5,i6,i7⟩ i7,.one (stepR_beginRound e3 hbr)⟩
  ·cases h
 ·cases h
def qub(ok:cx.Ok body)(hid:∀n bx,ae zwx n=some bx->ar cx.ids n=some n){labs:List (dy R)}(hlab:∀l∈labs,nh cx zwx enc body l) :
  ∀(n:Nat)(chk:Bool)(k:List cz)(s:St)(r:R),(∀i∈k,i.Ok body)->run cx enc labs n chk k s=some r->gz cx zwx enc (db k) s r:=by
 intro n
 induction n with
 |zero=>intro chk k s r _ h;cases h
 |succ n ih=>
  intro chk k s r hk h;unfold run at h
  cases hl:(bif chk then vv cx.ids s k labs else none) with
  |some lab=>
   rw[hl]at h;have hl:vv cx.ids s k labs=some lab:=by cases chk<;>simp only[qT,qF,reduceCtorEq]at hl;exact hl
   obtain⟨hm,hkey⟩:=qtr hl;simp only at h;split at h
   ·rename_i d hd;have hg:=hlab lab hm d r h;rw[q4l hkey hk]at hg;refine hg.via fun zw0 zwv G a w hr b cs _ _ _ => ?_
    obtain⟨G1,hr1⟩:=hr.co lab.ls cx.ids;obtain⟨G2,hr2⟩:=hr1.fit hid hd;exact⟨G2,a,w,hr2,.refl _ _⟩
   ·cases h
  |none=>
   rw[hl]at h;simp only at h;clear hl
   cases k with
   |nil=>exact qhr ok hid (by rfl) h|cons i k'=>
    obtain⟨kd,p,it⟩:=i;obtain⟨hi,hk'⟩:=q6w hk;clear hk
    cases it with
    |code c=>exact zke ok hid ih hi hk' h|inBlock id=>exact(ih true k' s r hk' h).one fun a w b cs=>stepR_inBlock
    |inScope id=>exact(ih true k' s r hk' h).one fun a w b cs=>zk5
    |inLoop x=>
     have hsub:sub body p = .loop x:=zhw hi;exact(ih true _ s r (iz (nt 0 hsub rfl) (iz (q55 hsub) hk')) h).one fun a w b cs=>stepR_inLoop
    |beginRound=>exact zkd ih hk' h|_=>cases h
end
def St.reCell(s:St)(b off:Nat):St:=
 match ae s.hp b with
 |some (.cells cs T)=>match cs[off]? with
  |some (.own k)=>match ae s.hp k with|some (.row τ l E)=>bif au s.nx s.hp then{ s with hp:=(b,.cells (cs.set off (.own s.nx)) T)::(s.nx,.row τ l E)::(k,.dead)::s.hp,nx:=s.nx+32 } else s|_=>s
  |_=>s
 |_=>s
def qil:Pt->Bool|.own _=>true|_=>false
def reB1(b:Nat):List Pt->Nat->St->St|[],_,s=>s|p::ps,off,s=>reB1 b ps (off+1) (bif qil p then s.reCell b off else s)
def reB:List (Nat×aw)->St->St
 |[],s=>s|(n,p)::r,s=>match p with|.cells ps _=>reB r (reB1 n ps 0 s)|_=>reB r s
def St.reSlot(s:St)(i:Nat):St:=
 match ae s.fr i with
 |some (.own k)=>match ae s.hp k with|some (.row τ l E)=>bif au s.nx s.hp&&Nat.blt i s.n then{ s with fr:=(i,.own s.nx)::s.fr,hp:=(s.nx,.row τ l E)::(k,.dead)::s.hp,nx:=s.nx+32 } else s|_=>s
 |_=>s
def reA:List Pt->Nat->St->St|[],_,s=>s|p::ps,i,s=>reA ps (i+1) (bif qil p then s.reSlot i else s)
section
variable{zw0:World}{zwv:Gh}{zwx:List (Nat×ag)}{G:Gh}{s:St}{a:Act}{w:World}
def Fin.rename{hp:List (Nat×ag)}(hf:Fin zw0 zwv zwx G hp w){k k':Nat}{τ:Ty}{l:List τ.den}{E:TypeId}{v:Option Addr×Nat×Nat}(hk:ae hp k=some (.row τ l E))(hk':ae hp k'=none)(hfr:G.own k'=none)(ho:G.own k=some v) :
  Fin zw0 zwv zwx (G.addOwn k' v) ((k',.row τ l E)::(k,.dead)::hp) w:=by
 have hle:G.le (G.addOwn k' v):=Gh.addOwn_le hfr;have hlk:∀m b,ae ((k',ag.row τ l E)::(k,.dead)::hp) m=some b->(m=k'/\b = .row τ l E)\/b = .dead\/(m≠k/\ae hp m=some b):=fun m b h=>by
  simp[ae]at h;cases hb:Nat.beq k' m
  ·rw[hb]at h;cases hb2:Nat.beq k m
   ·rw[hb2]at h;exact .inr (.inr ⟨fun e=>by subst e;simp at hb2,h⟩)
   ·rw[hb2]at h;simp at h;exact .inr (.inl h.symm)
  ·rw[hb]at h;simp at h;exact .inl ⟨(qN hb).symm,h.symm⟩
 have hat:(G.addOwn k' v).at k' (.row τ l E)=G.at k (.row τ l E):=by simp[Gh.at,Gh.addOwn_self,ho]
 refine⟨⟨hf.mem.agree,hf.mem.one,?_,?_,hf.mem.tab⟩,hf.bel,hf.imm_le,hf.imm_new,?_,fun n bx B h1 h2=>hle.box _ _ (hf.keep n bx B h1 h2),fun n bx B h1 h2=>hle.own _ _ (hf.keepOwn n bx B h1 h2)⟩
 ·intro m b h;rcases hlk m b h with⟨rfl,rfl⟩|rfl|⟨_,h⟩
  ·obtain⟨ad,c,i1,i2⟩:=hf.mem.holds k _ hk;rw[ho]at i1;injection i1 with i1;subst i1
   exact⟨ad,c,Gh.addOwn_self,i2⟩
  ·trivial
  ·exact(hf.mem.holds m b h).mono hle (fun _ _=>rfl) (fun _ _ _ h => .inl h)
 ·intro m m' b b' c h1 h2 h3 h4;rcases hlk m b h1 with⟨rfl,rfl⟩|rfl|⟨n1,g1⟩<;>rcases hlk m' b' h2 with⟨e2,rfl⟩|rfl|⟨n2,g2⟩
  ·exact e2.symm
  ·cases h4
  ·rw[hat]at h3;rw[(hf.mem.holds m' b' g2).at_le hle]at h4;exact absurd (hf.mem.apart m' k b' _ c g2 hk h4 h3) n2
  ·cases h3
  ·cases h3
  ·cases h3
  ·subst e2;rw[hat]at h4;rw[(hf.mem.holds m b g1).at_le hle]at h3;exact absurd (hf.mem.apart m k b _ c g1 hk h3 h4) n1
  ·cases h4
  ·rw[(hf.mem.holds m b g1).at_le hle]at h3;rw[(hf.mem.holds m' b' g2).at_le hle]at h4;exact hf.mem.apart m m' b b' c g1 g2 h3 h4
 ·intro m b c h1 h2;rcases hlk m b h1 with⟨rfl,rfl⟩|rfl|⟨n1,h1⟩
  ·rw[hat]at h2;exact hf.base k _ c hk h2
  ·cases h2
  ·rw[(hf.mem.holds m b h1).at_le hle]at h2;exact hf.base m b c h1 h2
def ah.reCell(hr:ah zw0 zwv zwx G s a w)(b off:Nat):∃G',ah zw0 zwv zwx G' (s.reCell b off) a w:=by
 unfold St.reCell;split
 ·rename_i cs T hb0;split
  ·rename_i k hx0;split
   ·rename_i τ l E hk0;cases hn:au s.nx s.hp
    ·exact⟨G,hr⟩
    ·simp;have hk:=jc hn s.nx (wF _) oA
     obtain⟨ad,c,i1,_⟩:=hr.fin.mem.holds k _ hk0;have hfresh:=hr.fresh s.nx (wF _) hk;have hle:G.le (G.addOwn s.nx (ad,l.length,c)):=Gh.addOwn_le hfresh.2;have hf:=hr.fin.rename hk0 hk hfresh.2 i1;have hne:s.nx≠b:=fun e=>by rw[e,hb0]at hk;cases hk
     have hne2:k≠b:=fun e=>by rw[e,hb0]at hk0;cases hk0
     have hb1:ae ((s.nx,ag.row τ l E)::(k,.dead)::s.hp) b=some (.cells cs T):=by
      simp[ae];cases hq:Nat.beq s.nx b
      ·cases hq2:Nat.beq k b
       ·exact hb0
       ·exact absurd (qN hq2) hne2
      ·exact absurd (qN hq) hne
     obtain⟨B,vs,k1,k2,k3,k4,k5⟩:=hf.mem.holds _ _ hb1;have hv:vs.toList[off]? = some (.slice ad l.length c):=by
      obtain⟨v,h1,h2⟩:=gw k3 hx0;obtain⟨a',n',c',q1,q2⟩:=h2;rw[hle.own _ _ i1]at q1;simp at q1;obtain⟨rfl,rfl,rfl⟩:=q1;subst q2;exact h1
     have hset:vs.toList.set off (.slice ad l.length c)=vs.toList:=by
      obtain⟨hlt,he⟩:=List.getElem?_eq_some_iff.1 hv;rw[← he,List.set_getElem_self]
     refine⟨G.addOwn s.nx (ad,l.length,c),⟨by obtain⟨bs,q1,q2⟩:=hr.defers;exact⟨bs,q1,nw hle.box q2⟩,hr.size,fun j x hx=>by obtain⟨v,h1,h2⟩:=hr.frame j x hx;exact⟨v,h1,h2.le hle⟩,fun m hm hl => ?_,?_⟩⟩
     ·simp only at hm;have hmn:s.nx≠m:=oA
      simp[ae]at hl;cases hq:Nat.beq b m<;>rw[hq]at hl<;>simp at hl
      cases hq1:Nat.beq s.nx m<;>rw[hq1]at hl<;>simp at hl
      cases hq2:Nat.beq k m<;>rw[hq2]at hl<;>simp at hl
      obtain⟨h1,h2⟩:=hr.fresh m oA hl
      refine⟨h1,?_⟩;show(bif Nat.beq m s.nx then some _ else G.own m)=none
      cases hbm:Nat.beq m s.nx
      ·exact h2
      ·exact absurd (qN hbm).symm hmn
     ·refine hf.update (bx := .cells cs T) (bx' := .cells (cs.set off (.own s.nx)) T) hb1 (B:=B) k1 k1 ⟨rfl,rfl,rfl,wF _,fun _ _ _=>rfl⟩ ⟨B,vs,k1,k2,?_,k4,k5⟩ k5
      have:=qdo off k3 (x := .own s.nx) (v := .slice ad l.length c) ⟨ad,l.length,c,Gh.addOwn_self,rfl⟩
      rwa [hset]at this
   ·exact⟨G,hr⟩
  ·exact⟨G,hr⟩
 ·exact⟨G,hr⟩
def ah.reSlot(hr:ah zw0 zwv zwx G s a w)(i:Nat):∃G',ah zw0 zwv zwx G' (s.reSlot i) a w:=by
 unfold St.reSlot;split
 ·rename_i k hx0;split
  ·rename_i τ l E hk0;cases hn:au s.nx s.hp&&Nat.blt i s.n
   ·exact⟨G,hr⟩
   ·simp;simp at hn;have hk:=jc hn.1 s.nx (wF _) oA
    obtain⟨ad,c,i1,_⟩:=hr.fin.mem.holds k _ hk0;have hfresh:=hr.fresh s.nx (wF _) hk;have hle:G.le (G.addOwn s.nx (ad,l.length,c)):=Gh.addOwn_le hfresh.2;refine⟨G.addOwn s.nx (ad,l.length,c),⟨by obtain⟨bs,q1,q2⟩:=hr.defers;exact⟨bs,q1,nw hle.box q2⟩,hr.size,fun j x hx => ?_,fun m hm hl => ?_,hr.fin.rename hk0 hk hfresh.2 i1⟩⟩
    ·simp[ae]at hx;cases hq:Nat.beq i j
     ·rw[hq]at hx;obtain⟨v,h1,h2⟩:=hr.frame j x hx;exact⟨v,h1,h2.le hle⟩
     ·rw[hq]at hx;simp at hx;subst hx;have:=qN hq;subst this;obtain⟨v,h1,a',n',c',q1,q2⟩:=hr.frame i _ hx0;rw[i1]at q1;simp at q1;obtain⟨rfl,rfl,rfl⟩:=q1;exact⟨v,h1,ad,l.length,c,Gh.addOwn_self,q2⟩
    ·simp only at hm;have hmn:s.nx≠m:=oA
     simp[ae]at hl;cases hq1:Nat.beq s.nx m<;>rw[hq1]at hl<;>simp at hl
     cases hq2:Nat.beq k m<;>rw[hq2]at hl<;>simp at hl
     obtain⟨h1,h2⟩:=hr.fresh m oA hl
     refine⟨h1,?_⟩;show(bif Nat.beq m s.nx then some _ else G.own m)=none
     cases hbm:Nat.beq m s.nx
     ·exact h2
     ·exact absurd (qN hbm).symm hmn
  ·exact⟨G,hr⟩
 ·exact⟨G,hr⟩
def ah.reA:∀{ps:List Pt}{i:Nat}{s:St}{G:Gh},ah zw0 zwv zwx G s a w->∃G',ah zw0 zwv zwx G' (reA ps i s) a w
 |[],_,s,G,hr=>⟨G,hr⟩|p::ps,i,s,G,hr=>by
  unfold Sym.reA;cases qil p
  ·exact ah.reA hr
  ·obtain⟨G',hr'⟩:=hr.reSlot i;exact ah.reA hr'
def ah.reB1{b:Nat}:∀{ps:List Pt}{off:Nat}{s:St}{G:Gh},ah zw0 zwv zwx G s a w->∃G',ah zw0 zwv zwx G' (reB1 b ps off s) a w
 |[],_,s,G,hr=>⟨G,hr⟩|p::ps,off,s,G,hr=>by
  unfold Sym.reB1;cases qil p
  ·exact ah.reB1 hr
  ·obtain⟨G',hr'⟩:=hr.reCell b off;exact ah.reB1 hr'
def ah.reB:∀{l:List (Nat×aw)}{s:St}{G:Gh},ah zw0 zwv zwx G s a w->∃G',ah zw0 zwv zwx G' (reB l s) a w
 |[],s,G,hr=>⟨G,hr⟩|(n,p)::r,s,G,hr=>by
  unfold Sym.reB;split
  ·obtain⟨G',hr'⟩:=hr.reB1;exact ah.reB hr'
  ·exact ah.reB hr
end
def dc:List (Nat×aw)->NM|[]=>[]|(n,_)::r=>(n,n)::dc r
def g8(N:NM)(n:Nat):Bool:=match ap N n with|some m=>Nat.beq m n|none=>false
def si{N:NM}{n:Nat}(h:g8 N n=true):ap N n=some n:=by
 unfold g8 at h;split at h
 ·rename_i m hm;have:=qN h;subst this;exact hm
 ·cases h
mutual
def qtw(N:NM):Pt->Bool|.agg ps=>mr N ps|.tup ps=>mr N ps|.ptr b _=>g8 N b|.own k=>g8 N k|.el k _=>g8 N k|.iel _ k _=>g8 N k|.yld k=>g8 N k|.pn k=>g8 N k|.fn _ ps=>mr N ps|_=>true
def mr(N:NM):List Pt->Bool|[]=>true|p::ps=>qtw N p&&mr N ps
end
def zeo{ρ:Nat->Option Nat}:∀{τ:Ty}{d:τ.den},(τ.av d).ren ρ=τ.av d|.int _,_=>rfl|.byte,_=>rfl|.bool,_=>rfl|.str,_=>rfl|.unit,_=>rfl|.list _,_=>rfl|.prod a b,d=>by show AV.agg (AV.rens ρ ((Ty.prod a b).enc d))=_;rw[Ty.enc_ren];rfl|.tree a,d=>by show AV.agg (AV.rens ρ ((Ty.tree a).enc d))=_;rw[Ty.enc_ren];rfl
mutual
def q69{N:NM}:∀{p:Pt}{d:p.den},qtw N p=true->(p.put d).ren (ap N)=p.put d|.h τ,d,_=>zeo|.c _,_,_=>rfl|.agg ps,d,h=>congrArg AV.agg (vx (ps:=ps) (d:=d) h)|.tup ps,d,h=>congrArg AV.tup (vx (ps:=ps) (d:=d) h)|.ptr b off,_,h=>by show AV.ren (ap N) (.ptr b off)=_;simp[AV.ren,si (show g8 N b=true from h)];rfl|.own k,_,h=>by show AV.ren (ap N) (.own k)=_;simp[AV.ren,si (show g8 N k=true from h)];rfl|.arr _,_,_=>rfl|.el k sz,_,h=>by show AV.ren (ap N) (.oel k sz 0 0)=_;simp[AV.ren,si (show g8 N k=true from h)];rfl|.iel t k sz,_,h=>by show AV.ren (ap N) (.iface t (.oel k sz 0 0))=_;simp[AV.ren,si (show g8 N k=true from h)];rfl|.yld k,_,h=>by show AV.ren (ap N) (.yld k)=_;simp[AV.ren,si (show g8 N k=true from h)];rfl|.pn k,_,h=>by show AV.ren (ap N) (.pn k)=_;simp[AV.ren,si (show g8 N k=true from h)];rfl|.fn f ps,d,h=>congrArg (AV.fn (.func f) []) (vx (ps:=ps) (d:=d) h)|.u,_,_=>rfl
def vx{N:NM}:∀{ps:List Pt}{d:Pts.den ps},mr N ps=true->AV.rens (ap N) (Pts.put ps d)=Pts.put ps d
 |[],_,_=>rfl|p::ps,d,h=>by
  simp[mr,qA]at h;have h1:=q69 (p:=p) (d:=d.1) h.1;have h2:=vx (ps:=ps) (d:=d.2) h.2;show AV.ren (ap N) (p.put d.1)::AV.rens (ap N) (Pts.put ps d.2)=p.put d.1::Pts.put ps d.2;rw[h1,h2]
end
def fIn(N:NM):List (Nat×Pt)->Bool|[]=>true|(_,p)::r=>qtw N p&&fIn N r
def q5a{N:NM}:∀{l:List (Nat×Pt)}{d:mg l},fIn N l=true->lg (ap N) (ig l d)=ig l d
 |[],_,_=>rfl|(i,p)::r,d,h=>by
  simp[fIn,qA]at h;have h1:=q69 (p:=p) (d:=d.1) h.1;have h2:=q5a (l:=r) (d:=d.2) h.2;show(i,AV.ren (ap N) (p.put d.1))::lg (ap N) (ig r d.2)=(i,p.put d.1)::ig r d.2;rw[h1,h2]
def qrf(N:NM):aw->Bool|.cells ps _=>mr N ps|.loop _ _ _ _ fr _ _ D=>g8 N D&&fIn N fr|_=>true
def uu(N:NM):List (Nat×aw)->Bool|[]=>true|(n,p)::r=>g8 N n&&qrf N p&&uu N r
def ze9{N:NM}:∀{p:aw}{d:p.den},qrf N p=true->cw (ap N) (p.put d)=p.put d
 |.cells ps T,d,h=>congrArg (fun l=>ag.cells l T) (vx (ps:=ps) (d:=d) h)
 |.row _ _,_,_=>rfl|.loop st pe f n fr ps tag D,d,h=>by
  simp[qrf,qA]at h;have h2:=q5a (l:=fr) (d:=d) h.2;have h3:cw (ap N) (.loop st pe f n (ig fr d) ps tag D) = .loop st pe f n (lg (ap N) (ig fr d)) ps tag D:=by simp[cw,si h.1]
  exact h3.trans (congrArg (fun l=>ag.loop st pe f n l ps tag D) h2)
 |.dfr,_,_=>rfl|.it,_,_=>rfl|.dead,_,_=>rfl|.dat τ T,d,_=>congrArg (fun l=>ag.cells l T) (Ty.enc_ren (ap N) τ d)
def qq6{N:NM}:∀{l:List (Nat×aw)}{d:eh l},uu N l=true->∀n b,ae (bt l d) n=some b->ap N n=some n/\cw (ap N) b=b
 |[],_,_,_,_,h=>by cases h
 |(m,p)::r,d,h,n,b,hl=>by
  simp[uu,qA]at h;have hl:(bif Nat.beq m n then some (p.put d.1) else ae (bt r d.2) n)=some b:=hl
  cases hb:Nat.beq m n
  ·rw[hb]at hl;exact qq6 (d:=d.2) h.2 n b hl
  ·rw[hb]at hl;have:=qN hb;subst this;simp at hl;subst hl;exact⟨si h.1.1,ze9 h.1.2⟩
def bp.only{G:Gh}{hp:List (Nat×ag)}{w:World}{N:NM}(hm:bp G hp w)(h:∀n b,ae hp n=some b->ap N n=some n/\cw (ap N) b=b):bp (G.view N) hp w:=by
 have hb:∀n b,ae hp n=some b->(G.view N).box n=G.box n/\(G.view N).own n=G.own n:=fun n b hl=>by
  have:=od (h n b hl).1;exact⟨by simp[Gh.view,this],by simp[Gh.view,this]⟩
 have hat:∀n b c,ae hp n=some b->(G.view N).at n b=some c->G.at n b=some c:=fun n b c hl hc=>by
  have:=(h n b hl).2;exact np (G:=G) (G':=G.view N) (ρ:=ap N) (hb n b hl).1 (hb n b hl).2 (by rw[this];exact hc)
 refine⟨hm.agree,hm.one,fun n b hl => ?_,fun n m b b' c h1 h2 h3 h4=>hm.apart n m b b' c h1 h2 (hat _ _ _ h1 h3) (hat _ _ _ h2 h4),hm.tab⟩
 have:=ck.ren (G:=G) (G':=G.view N) (ρ:=ap N) (n:=n) (m:=n) (fun _ _ _ h=>h) (fun _ _ _ h=>h) (ol N) (qh N) (fun B hB=>by rw[(hb n b hl).1];exact hB) (fun B hB=>by rw[(hb n b hl).2];exact hB) (hm.holds n b hl)
 rw[(h n b hl).2]at this;exact this
def Fin.only{G G':Gh}{hp hp':List (Nat×ag)}{w w':World}{N:NM}(h:∀n b,ae hp n=some b->ap N n=some n/\cw (ap N) b=b)(hf:Fin w (G.view N) hp G' hp' w'):Fin w G hp G' hp' w':=by
 have hb:∀n b,ae hp n=some b->(G.view N).box n=G.box n/\(G.view N).own n=G.own n:=fun n b hl=>by
  have:=od (h n b hl).1;exact⟨by simp[Gh.view,this],by simp[Gh.view,this]⟩
 have hblk:∀c,l9 (G.view N) hp c->l9 G hp c:=fun c⟨n,b,h1,h2⟩=>⟨n,b,h1,np (G:=G) (G':=G.view N) (ρ:=ap N) (hb n b h1).1 (hb n b h1).2 (by rw[(h n b h1).2];exact h2)⟩
 refine⟨hf.mem,⟨hf.bel.os,hf.bel.tape,hf.bel.output,hf.bel.size,fun k hk hS=>hf.bel.block k hk fun hx=>hS (hblk k hx)⟩,hf.imm_le,fun b o v hv => ?_,fun n b c h1 h2 => ?_,fun n b B h1 h2=>hf.keep n b B h1 (by rw[(hb n b h1).1];exact h2),fun n b B h1 h2=>hf.keepOwn n b B h1 (by rw[(hb n b h1).2];exact h2)⟩
 ·rcases hf.imm_new b o v hv with h|h|h
  ·exact .inl h
  ·exact .inr (.inl h)
  ·exact .inr (.inr (hblk _ h))
 ·rcases hf.base n b c h1 h2 with h|h
  ·exact .inl h
  ·exact .inr (hblk _ h)
def qc7:List AV->Nat->List (Nat×AV)|[],_=>[]|x::xs,i=>(i,x)::qc7 xs (i+1)
def q5n:∀{xs:List AV}{G:Gh}{vs:List Value}(i:Nat),aj xs G vs->∀j x,ae (qc7 xs i) j=some x->i<=j/\∃v,vs[j-i]? = some v/\ai x G v
 |[],_,[],_,_,j,x,h=>by cases h
 |x::xs,G,v::vs,i,hr,j,y,h=>by
  simp[qc7,ae]at h;cases hb:Nat.beq i j
  ·rw[hb]at h;obtain⟨h1,u,h2,h3⟩:=q5n (i+1) hr.2 j y h;refine⟨oA,u,?_,h3⟩
   rw[show j-i=(j-(i+1))+1 by omega];simpa using h2
  ·rw[hb]at h;have:=qN hb;subst this;simp at h;subst h;exact⟨wF _,v,oC,hr.1⟩
 |[],_,_::_,_,h,_,_,_=>h.elim|_::_,_,[],_,h,_,_,_=>h.elim
def rl{G:Gh}{w:World}{hp:List (Nat×ag)}(hm:bp G hp w):Fin w G hp G hp w:=
 ⟨hm,⟨rfl,rfl,rfl,wF _,fun _ _ _=>rfl⟩,fun _ _ _ h=>h,fun _ _ _ h => .inl h,fun n bx _b h1 h2 => .inr ⟨n,bx,h1,h2⟩,fun _ _ _ _ h=>h,fun _ _ _ _ h=>h⟩
def NX:Nat:=64
def qt9(cx:Cx)(body:Code){R:Type}(enc:RS R)(labs:List (dy R))(asn:List Pt)(pts:List (Nat×aw))(xs:List AV)(hp:List (Nat×ag)):Option R:=
 run cx enc labs 1000000 true [⟨0,[],.code body⟩] (reB pts (reA (bif cx.tb.sub then asn else[]) 0 { n:=cx.fn.ntmps,fr:=qc7 xs 0,hp:=hp,nx:=NX,df:=[] }))
def qh8(cx:Cx)(args:List Pt)(hp:List (Nat×aw)):Bool:=mr (dc hp) args&&uu (dc hp) hp&&Nat.ble args.length cx.fn.ntmps
def qih:∀{l:List (Nat×aw)}{d:eh l}{n:Nat}{b:ag},ae (bt l d) n=some b->ar (dc l) n=some n
 |[],_,_,_,h=>by cases h
 |(m,p)::r,d,n,b,h=>by
  have h:(bif Nat.beq m n then some (p.put d.1) else ae (bt r d.2) n)=some b:=h
  simp[dc,ar];cases hb:Nat.beq m n
  ·rw[hb]at h;exact qih (d:=d.2) h
  ·have:=qN hb;subst this;rfl
def qtk{m:Nat}:∀{l:List (Nat×aw)}{d:eh l},ae (bt l d) m=none->ar (dc l) m=none
 |[],_,_=>rfl|(n,p)::r,d,h=>by
  have h:(bif Nat.beq n m then some (p.put d.1) else ae (bt r d.2) m)=none:=h
  simp[dc,ar];cases hb:Nat.beq n m
  ·rw[hb]at h;exact qtk (d:=d.2) h
  ·rw[hb]at h;cases h
def q7a:∀{ps:List Pt}{d:Pts.den ps},(Pts.put ps d).length=ps.length|[],_=>rfl|p::ps,d=>by show(p.put d.1::Pts.put ps d.2).length=_;simp[q7a]
def cu.sound_fn{e:cu}{cx:Cx}{body:Code}{labs:List (dy e.R)}(ok:cx.Ok body)(hkey:e.key = .fn cx.f)(hbody:cx.fn.body=some body)(hrd:cx.rd=none)(hids:cx.ids=dc e.hp)(hpl:ni cx.P cx.f)
  (hfine:qh8 cx e.args e.hp=true) (hlab:∀d',∀l∈labs,nh cx (bt e.hp d') e.out body l) (hF:∀d d',qt9 cx body e.out labs e.args e.hp (Pts.put e.args d) (bt e.hp d')=e.F d d'):e.Sound cx.P:=by
 intro d d' r hr;rw[hkey];refine⟨hpl,fun w G vs hm hreps => ?_⟩
 simp only[qh8,qA]at hfine;obtain⟨⟨f1,f2⟩,f3⟩:=hfine;have f3:=Nat.le_of_ble_eq_true f3;have hin:=qq6 (d:=d') f2;have hm':=hm.only hin;have hreps':aj (Pts.put e.args d) (G.view (dc e.hp)) vs:=by
  have:=aj.ren (ρ:=ap (dc e.hp)) (G:=G) (G':=G.view (dc e.hp)) (fun _ _ _ h=>h) (ol _) (qh _) hreps
  rwa [vx f1]at this
 have hlv:=hreps.length;rw[q7a]at hlv;have hrun:=hF d d';rw[hr]at hrun;have hg:=qub (enc:=e.out) ok (zwx:=bt e.hp d') (fun n bx h=>by rw[hids];exact qih h) (hlab d') _ _ _ _ _ (fun i hi=>by
  rcases List.mem_cons.1 hi with rfl|hi
  ·rfl
  ·cases hi) hrun
 have hr0:ah w (G.view (dc e.hp)) (bt e.hp d') (G.view (dc e.hp)) { n:=cx.fn.ntmps,fr:=qc7 (Pts.put e.args d) 0,hp:=bt e.hp d',nx:=NX,df:=[] } { tmps:=vs.toArray++Array.replicate (cx.fn.ntmps-vs.toArray.size) undef,defers:=[] } w:=by
  refine⟨⟨[],rfl,rfl⟩,oD,fun i x hx => ?_,fun m _ hl => ?_,rl hm'⟩
  ·obtain⟨_,v,h2,h3⟩:=q5n 0 hreps' i x hx;refine⟨v,?_,h3⟩;have hlt:i<vs.length:=by have:=(List.getElem?_eq_some_iff.1 h2).1;simpa using this
   rw[Array.getElem?_append_left (by simpa using hlt)]
   simpa using h2
  ·have:ar (dc e.hp) m=none:=qtk hl;simp[Gh.view,this]
 obtain⟨G0,hr0'⟩:=hr0.reA (ps:=bif cx.tb.sub then e.args else[]) (i:=0)
 obtain⟨G1,hr1⟩:=hr0'.reB (l:=e.hp);intro cs
 let b:Frame:={ (default:Frame) with fn:=cx.f,kind := .normal }
 have henter:Frame.enter cx.P cx.f vs.toArray .normal=b.atR { tmps:=vs.toArray++Array.replicate (cx.fn.ntmps-vs.toArray.size) undef,defers:=[] } [.code body]:=by
  simp[Frame.enter,Frame.atR,ok.func,hbody,b];rfl
 have:=hg w _ _ _ w hr1 b cs rfl rfl (by unfold nj;rw[hrd];rfl)
 obtain⟨v,w',fr,⟨G',h1,h2⟩,h3,h4,h5⟩:=this;exact⟨.returned v,w',fr,⟨v,G',rfl,h1.only hin,h2⟩,by rw[henter];exact h3,h4,h5⟩
def qi5:List Tmp->List AV->List (Nat×AV)->List (Nat×AV)|p::ps,x::xs,fr=>qi5 ps xs ((p,x)::fr)|_,_,fr=>fr
def qcf(n:Nat):List Nat->Bool|[]=>true|p::ps=>Nat.blt p n&&qcf n ps
def q7c{G:Gh}{n:Nat}:∀{ps:List Tmp}{xs:List AV}{vs:List Value}{fr:List (Nat×AV)}{tmps:Array Value},qcf n ps=true->tmps.size=n->ps.length=xs.length->aj xs G vs->(∀i x,ae fr i=some x->∃v,tmps[i]? = some v/\ai x G v) ->
  ((ps.zip vs).foldl (fun(tmps:Array Value)(q:Tmp×Value)=>tmps.setIfInBounds q.1 q.2) tmps).size=n/\∀i x,ae (qi5 ps xs fr) i=some x->∃v,((ps.zip vs).foldl (fun(tmps:Array Value)(q:Tmp×Value)=>tmps.setIfInBounds q.1 q.2) tmps)[i]? = some v/\ai x G v
 |[],[],[],fr,tmps,_,hn,_,_,hfr=>⟨hn,hfr⟩|p::ps,x::xs,v::vs,fr,tmps,hlt,hn,hl,hr,hfr=>by
  simp[qcf,qA]at hlt;have hp:p<n:=by have:=hlt.1;simpa using this
  simp;refine q7c hlt.2 (by simp[hn]) (by simpa using hl) hr.2 (fun i y hy => ?_)
  simp[ae]at hy;cases he:Nat.beq p i
  ·rw[he]at hy;simp at hy;have hne:p≠i:=fun e=>by subst e;simp at he
   obtain⟨u,h1,h2⟩:=hfr i y hy;exact⟨u,by simp[hne,h1],h2⟩
  ·rw[he]at hy;simp at hy;subst hy;have:=qN he;subst this;exact⟨v,by simp[hn,hp],hr.1⟩
 |[],_::_,_,_,_,_,_,h,_,_=>by simp at h|_::_,[],_,_,_,_,_,h,_,_=>by simp at h|[],[],_::_,_,_,_,_,_,h,_=>h.elim|_::_,_::_,[],_,_,_,_,_,h,_=>h.elim
def s9(cx:Cx)(body:Code)(p:List Nat)(m:Nat){R:Type}(enc:RS R)(labs:List (dy R))(pts:List (Nat×aw))(xs:List AV)(hp:List (Nat×ag)):Option R:=
 match ae hp m with
 |some (.loop .ready none f n fr ps tag _)=>bif Nat.beq f cx.f&&qcf n ps&&eqLen ps xs&&tagIs tag p cx.tags then
   run cx enc labs 1000000 true (jz body [(0,0::p),(4,[]),(0,1::p)]) (reB pts { n:=n,fr:=qi5 ps xs fr,hp:=hp,nx:=NX,df:=[] })
  else none
 |_=>none
where
 eqLen:List Tmp->List AV->Bool
  |[],[]=>true|_::ps,_::xs=>eqLen ps xs|_,_=>false
 tagIs (tag:Nat) (p:List Nat) (tags:List (List Nat×Nat)):Bool:=match ke p tags with|some t=>Nat.beq t tag|none=>false
def q4m:∀{ps:List Tmp}{xs:List AV},s9.eqLen ps xs=true->ps.length=xs.length
 |[],[],_=>rfl|_::ps,_::xs,h=>by simp[q4m (ps:=ps) (xs:=xs) h]|[],_::_,h=>by cases h
 |_::_,[],h=>by cases h
def qsy:Code->Bool|.rangeFunc _ _ _ _=>true|_=>false
def cu.sound_yld{e:cu}{cx:Cx}{body:Code}{p:List Nat}{m:Nat}{labs:List (dy e.R)}(ok:cx.Ok body)(hkey:e.key = .yld m)(hrd:cx.rd=some m)(hids:cx.ids=dc e.hp)(hrf:qsy (sub body p)=true)
  (hfine:(mr (dc e.hp) e.args&&uu (dc e.hp) e.hp)=true) (hlab:∀d',∀l∈labs,nh cx (bt e.hp d') e.out body l) (hF:∀d d',s9 cx body p m e.out labs e.hp (Pts.put e.args d) (bt e.hp d')=e.F d d'):e.Sound cx.P:=by
 intro d d' r hr;rw[hkey];intro w G vs B hm hreps hB;simp at hfine;obtain⟨f1,f2⟩:=hfine;have hin:=qq6 (d:=d') f2;have hm':=hm.only hin;have hreps':aj (Pts.put e.args d) (G.view (dc e.hp)) vs:=by
  have:=aj.ren (ρ:=ap (dc e.hp)) (G:=G) (G':=G.view (dc e.hp)) (fun _ _ _ h=>h) (ol _) (qh _) hreps
  rwa [vx f1]at this
 have hrun:=hF d d';rw[hr]at hrun;unfold s9 at hrun;split at hrun
 ·rename_i f n fr ps tag D hl;cases hb:Nat.beq f cx.f&&qcf n ps&&s9.eqLen ps (Pts.put e.args d)&&s9.tagIs tag p cx.tags<;>rw[hb]at hrun<;>simp at hrun
  simp only[qA]at hb;obtain⟨⟨⟨b1,b2⟩,b3⟩,b4⟩:=hb;have b1:=qN b1;subst b1;have b3:=q4m b3;unfold s9.tagIs at b4;split at b4
  rotate_left
  ·cases b4
  rename_i t ht;have b4:=qN b4;subst b4;obtain⟨B',tmps,DB,i1,i2,⟨asn,bo,i3,i4⟩,i5,i6,i7⟩:=hm'.holds m _ hl;have hBv:(G.view (dc e.hp)).box m=some B:=by
   have:=od (hin m _ hl).1;simp[Gh.view,this,hB]
  rw[hBv]at i1;injection i1 with i1;subst i1
  obtain⟨g,ps0,x,y,hs⟩:∃g ps x y,sub body p = .rangeFunc g ps x y:=by
   cases hc:sub body p<;>rw[hc]at hrf<;>first|exact⟨_,_,_,_,rfl⟩|cases hrf
  have hcode:=ok.tags p t ht g ps0 x y hs;rw[i3]at hcode;simp at hcode;obtain⟨rfl,rfl⟩:=hcode;have hg:=qub (enc:=e.out) ok (zwx:=bt e.hp d') (fun n bx h=>by rw[hids];exact qih h) (hlab d') _ _ _ _ _ qs0 hrun
  have hlv:=hreps.length;obtain⟨j1,j2⟩:=q7c (n:=n) b2 i5 b3 hreps' i6;have hr0:ah w (G.view (dc e.hp)) (bt e.hp d') (G.view (dc e.hp)) { n:=n,fr:=qi5 ps (Pts.put e.args d) fr,hp:=bt e.hp d',nx:=NX,df:=[] } { tmps:=(ps.zip vs).foldl (fun(tmps:Array Value)(q:Tmp×Value)=>tmps.setIfInBounds q.1 q.2) tmps,defers:=[] } w:=
   ⟨⟨[],rfl,rfl⟩,j1,j2,fun k _ hk=>by simp[Gh.view,qtk hk],rl hm'⟩
  obtain⟨G1,hr1⟩:=hr0.reB (l:=e.hp);refine⟨_,i4,fun c cs=>⟨oD,?_⟩⟩
  let b:Frame:={ (default:Frame) with fn:=cx.f,kind := .normal,roundOf:=some B }
  have:=hg w _ _ _ w hr1 b (c::cs) rfl rfl (by unfold nj;rw[hrd];exact⟨B,_,hBv,hl,rfl⟩)
  obtain⟨v,w',⟨G',h1,h2⟩,h3⟩:=this c cs rfl;refine⟨v,w',⟨v,G',rfl,h1.only hin,h2⟩,?_⟩;have e1:Frame.round B cx.f ((ps.toArray.zip vs.toArray).foldl (fun tmps(t,a)=>tmps.setIfInBounds t a) tmps) asn bo .normal=b.atR { tmps:=(ps.zip vs).foldl (fun(tmps:Array Value)(q:Tmp×Value)=>tmps.setIfInBounds q.1 q.2) tmps,defers:=[] } (db (jz body [(0,0::p),(4,[]),(0,1::p)])):=by
   simp[Frame.round,Frame.atR,b,db,jz,sk,sub,hs,pm,List.zip_toArray]
  simp only at e1 ⊢;rw[e1];exact h3
 ·cases hrun
def nh.of_run{cx:Cx}{body:Code}{zwx:List (Nat×ag)}{R:Type}{enc:RS R}{labs:List (dy R)}(ok:cx.Ok body)(hid:∀n bx,ae zwx n=some bx->ar cx.ids n=some n)(hlab:∀l∈labs,nh cx zwx enc body l){l:dy R}
  (h:∀d,run cx enc labs 1000000 false (jz body l.key) (l.ls.st d)=l.F d):nh cx zwx enc body l:=fun d r hr=>by
 have:=h d;rw[hr]at this;exact qub ok hid hlab _ _ _ _ _ qs0 this
end Go.Sym
namespace Go.Sym
open Go.RowKit
def rn(f:Func):Code:=match f.body with|some c=>c|none => .skip
def af(n:Int):Int:=IntKind.i64.wrap n
section
variable[LC]{cx:Cx}{zwx:List (Nat×ag)}{R:Type}{enc:RS R}{body:Code}{P:Program}
def fk:∀p t,ke p []=some t->∀g ps x y,sub body p = .rangeFunc g ps x y->LC.lc t=some (x,y):=fun _ _ h=>by cases h
def ge{p:List Nat}{t:Nat}{tags:List (List Nat×Nat)}(h:LC.lc t=some (pm 0 (sub body p),pm 1 (sub body p)))(k:∀p t,ke p tags=some t->∀g ps x y,sub body p = .rangeFunc g ps x y->LC.lc t=some (x,y)) :
  ∀q u,ke q ((p,t)::tags)=some u->∀g ps x y,sub body q = .rangeFunc g ps x y->LC.lc u=some (x,y):=fun q u hq g ps x y hs=>by
 simp only[ke]at hq;cases hb:mc p q
 ·rw[hb]at hq;exact k q u hq g ps x y hs
 ·rw[hb]at hq;simp only[qT,qI]at hq;subst hq;have:=qhu hb;subst this;rw[h,hs];rfl
end
abbrev Bs:Type:=List UInt8
def q64:Nat->Nat->List Nat|0,_=>[]|f+1,n=>bif Nat.ble n 1 then[] else Nat.mod n 2::q64 f (Nat.div n 2)
mutual
def Pt.ts:Pt->List Type->List Type|.h τ,a=>τ.den::a|.agg ps,a=>Pts.ts ps a|.tup ps,a=>Pts.ts ps a|.fn _ ps,a=>Pts.ts ps a|.arr τ,a=>List τ.den::a|_,a=>a
def Pts.ts:List Pt->List Type->List Type|[],a=>a|p::ps,a=>p.ts (Pts.ts ps a)
end
def HL:List Type->Type|[]=>Unit|t::l=>t×HL l
abbrev jy:HL []:=()
mutual
def Pt.pk:(p:Pt)->{a:List Type}->p.den->HL a->HL (p.ts a)|.h _,_,d,x=>(d,x)|.agg ps,_,d,x=>Pts.pk ps d x|.tup ps,_,d,x=>Pts.pk ps d x|.fn _ ps,_,d,x=>Pts.pk ps d x|.arr _,_,d,x=>(d,x)|.c _,_,_,x=>x|.ptr _ _,_,_,x=>x|.own _,_,_,x=>x|.el _ _,_,_,x=>x|.iel _ _ _,_,_,x=>x|.yld _,_,_,x=>x|.pn _,_,_,x=>x|.u,_,_,x=>x
def Pts.pk:(ps:List Pt)->{a:List Type}->Pts.den ps->HL a->HL (Pts.ts ps a)|[],_,_,x=>x|p::ps,_,d,x=>p.pk d.1 (Pts.pk ps d.2 x)
end
mutual
def Pt.un:(p:Pt)->{a:List Type}->HL (p.ts a)->p.den×HL a|.h _,_,x=>x|.agg ps,_,x=>Pts.un ps x|.tup ps,_,x=>Pts.un ps x|.fn _ ps,_,x=>Pts.un ps x|.arr _,_,x=>x|.c _,_,x=>((),x)|.ptr _ _,_,x=>((),x)|.own _,_,x=>((),x)|.el _ _,_,x=>((),x)|.iel _ _ _,_,x=>((),x)|.yld _,_,x=>((),x)|.pn _,_,x=>((),x)|.u,_,x=>((),x)
def Pts.un:(ps:List Pt)->{a:List Type}->HL (Pts.ts ps a)->Pts.den ps×HL a|[],_,x=>((),x)|p::ps,_,x=>(((p.un x).1,(Pts.un ps (p.un x).2).1),(Pts.un ps (p.un x).2).2)
end
mutual
def Pt.un_pk:∀(p:Pt){a:List Type}(d:p.den)(x:HL a),p.un (p.pk d x)=(d,x)|.h _,_,_,_=>rfl|.agg ps,_,d,x=>Pts.un_pk ps d x|.tup ps,_,d,x=>Pts.un_pk ps d x|.fn _ ps,_,d,x=>Pts.un_pk ps d x|.arr _,_,_,_=>rfl|.c _,_,_,_=>rfl|.ptr _ _,_,_,_=>rfl|.own _,_,_,_=>rfl|.el _ _,_,_,_=>rfl|.iel _ _ _,_,_,_=>rfl|.yld _,_,_,_=>rfl|.pn _,_,_,_=>rfl|.u,_,_,_=>rfl
def Pts.un_pk:∀(ps:List Pt){a:List Type}(d:Pts.den ps)(x:HL a),Pts.un ps (Pts.pk ps d x)=(d,x)
 |[],_,_,_=>rfl|p::ps,_,d,x=>by
  show(((p.un (p.pk d.1 (Pts.pk ps d.2 x))).1,(Pts.un ps (p.un (p.pk d.1 (Pts.pk ps d.2 x))).2).1),(Pts.un ps (p.un (p.pk d.1 (Pts.pk ps d.2 x))).2).2)=(d,x);rw[Pt.un_pk p,Pts.un_pk ps];rfl
end
def fts:List (Nat×Pt)->List Type->List Type|[],a=>a|(_,p)::r,a=>p.ts (fts r a)
def jx:(l:List (Nat×Pt))->{a:List Type}->mg l->HL a->HL (fts l a)|[],_,_,x=>x|(_,p)::r,_,d,x=>p.pk d.1 (jx r d.2 x)
def yw:(l:List (Nat×Pt))->{a:List Type}->HL (fts l a)->mg l×HL a|[],_,x=>((),x)|(_,p)::r,_,x=>(((p.un x).1,(yw r (p.un x).2).1),(yw r (p.un x).2).2)
def q5b:∀(l:List (Nat×Pt)){a:List Type}(d:mg l)(x:HL a),yw l (jx l d x)=(d,x)
 |[],_,_,_=>rfl|(_,p)::r,_,d,x=>by
  show(((p.un (p.pk d.1 (jx r d.2 x))).1,(yw r (p.un (p.pk d.1 (jx r d.2 x))).2).1),(yw r (p.un (p.pk d.1 (jx r d.2 x))).2).2)=(d,x);rw[Pt.un_pk p,q5b r];rfl
def aw.ts:aw->List Type->List Type|.cells ps _,a=>Pts.ts ps a|.row τ _,a=>List τ.den::a|.loop _ _ _ _ fr _ _ _,a=>fts fr a|.dfr,a=>a|.it,a=>List UInt8::Nat::a|.dead,a=>a|.dat τ _,a=>τ.den::a
def aw.pk:(p:aw)->{a:List Type}->p.den->HL a->HL (p.ts a)|.cells ps _,_,d,x=>Pts.pk ps d x|.row _ _,_,d,x=>(d,x)|.loop _ _ _ _ fr _ _ _,_,d,x=>jx fr d x|.dfr,_,_,x=>x|.it,_,d,x=>(d.1,(d.2,x))|.dead,_,_,x=>x|.dat _ _,_,d,x=>(d,x)
def aw.un:(p:aw)->{a:List Type}->HL (p.ts a)->p.den×HL a|.cells ps _,_,x=>Pts.un ps x|.row _ _,_,x=>x|.loop _ _ _ _ fr _ _ _,_,x=>yw fr x|.dfr,_,x=>((),x)|.it,_,x=>((x.1,x.2.1),x.2.2)|.dead,_,x=>((),x)|.dat _ _,_,x=>x
def aw.un_pk:∀(p:aw){a:List Type}(d:p.den)(x:HL a),p.un (p.pk d x)=(d,x)|.cells ps _,_,d,x=>Pts.un_pk ps d x|.row _ _,_,_,_=>rfl|.loop _ _ _ _ fr _ _ _,_,d,x=>q5b fr d x|.dfr,_,_,_=>rfl|.it,_,_,_=>rfl|.dead,_,_,_=>rfl|.dat _ _,_,_,_=>rfl
def yf:List (Nat×aw)->List Type->List Type|[],a=>a|(_,p)::r,a=>p.ts (yf r a)
def er:(l:List (Nat×aw))->{a:List Type}->eh l->HL a->HL (yf l a)|[],_,_,x=>x|(_,p)::r,_,d,x=>p.pk d.1 (er r d.2 x)
def uy:(l:List (Nat×aw))->{a:List Type}->HL (yf l a)->eh l×HL a|[],_,x=>((),x)|(_,p)::r,_,x=>(((p.un x).1,(uy r (p.un x).2).1),(uy r (p.un x).2).2)
def q3c:∀(l:List (Nat×aw)){a:List Type}(d:eh l)(x:HL a),uy l (er l d x)=(d,x)
 |[],_,_,_=>rfl|(_,p)::r,_,d,x=>by
  show(((p.un (p.pk d.1 (er r d.2 x))).1,(uy r (p.un (p.pk d.1 (er r d.2 x))).2).1),(uy r (p.un (p.pk d.1 (er r d.2 x))).2).2)=(d,x);rw[aw.un_pk p,q3c r];rfl
abbrev Cur:List Type->Type->Type|[],R=>R|t::l,R=>t->Cur l R
def app{R:Type}:{l:List Type}->Cur l R->HL l->R|[],f,_=>f|_::_,f,x=>app (f x.1) x.2
abbrev Nc:List Type->Type|[]=>Unit|[t]=>t|t::u::l=>t×Nc (u::l)
def Nc.fro:(l:List Type)->HL l->Nc l|[],_=>()|[_],x=>x.1|_::u::l,x=>(x.1,Nc.fro (u::l) x.2)
def Nc.to:(l:List Type)->Nc l->HL l|[],_=>()|[_],x=>(x,())|_::u::l,x=>(x.1,Nc.to (u::l) x.2)
def Nc.to_fro:∀(l:List Type)(x:HL l),Nc.to l (Nc.fro l x)=x
 |[],_=>rfl|[_],_=>rfl|_::u::l,x=>by
  show(x.1,Nc.to (u::l) (Nc.fro (u::l) x.2))=x;rw[Nc.to_fro];rfl
def RS.mk(p:Pt)(hp:List (Nat×aw)):RS (Nc (p.ts (yf hp []))):=
 .one p hp (fun x=>((p.un (Nc.to _ x)).1,(uy hp (p.un (Nc.to _ x)).2).1)) (fun y=>Nc.fro _ (p.pk y.1 (er hp y.2 jy))) fun y=>by
  obtain⟨d,d'⟩:=y;show((p.un (Nc.to _ (Nc.fro _ (p.pk d (er hp d' jy))))).1,(uy hp (p.un (Nc.to _ (Nc.fro _ (p.pk d (er hp d' jy))))).2).1)=(d,d');rw[Nc.to_fro,Pt.un_pk,q3c]
structure IF:Type 1 where
 key:qx
 args:List Pt
 hp:List (Nat×aw)
 R:Type
 out:RS R
abbrev IF.T(i:IF):Type:=Cur (Pts.ts i.args (yf i.hp [])) (Option i.R)
def IF.e(i:IF)(r:i.T):cu:=⟨i.key,i.args,i.hp,i.R,fun d d'=>app r (Pts.pk i.args d (er i.hp d' jy)),i.out⟩
abbrev KL:Type:=o7×LS
abbrev KL.T(l:KL)(R:Type):Type:=Cur (fts l.2.fr (yf l.2.hp [])) (Option R)
def KL.lab{R:Type}(l:KL)(r:l.T R):dy R:=⟨l.1,l.2,fun d=>app r (jx l.2.fr d.1 (er l.2.hp d.2 jy))⟩
def kl:Nat->List KL->KL|_,[]=>([],⟨0,[],[],0,[]⟩)|0,l::_=>l|n+1,_::r=>kl n r
def qtx:qx->Option Nat|.yld m=>some m|_=>none
section
variable[LC]{P:Program}{i:IF}
structure EP(P:Program):Type 1 where
 e:cu
 h:e.Sound P
structure EI(P:Program)(i:IF) where
 f:i.T
 h:(i.e f).Sound P
def EI.p(s:EI P i):EP P:=⟨i.e s.f,s.h⟩
def EP.es{P:Program}:List (EP P)->List cu|[]=>[]|x::l=>x.e::EP.es l
def EP.es_ok{P:Program}:∀{l:List (EP P)},∀e∈EP.es l,e.Sound P
 |[],_,h=>by cases h
 |x::_,e,h=>by
  rcases List.mem_cons.1 h with rfl|h
  ·exact x.h
  ·exact EP.es_ok e h
structure Fx(P:Program)(i:IF):Type 1 where
 etys:List (Nat×Ty)
 hm:P.follows .mixedOrders=true
 fn:Func
 f:FuncId
 hf:P.funcs[f]? = some fn
 calls:List (EP P)
 sub:Bool
 tags:List (List Nat×Nat)
 ht:∀p t,ke p tags=some t->∀g ps x y,Sym.sub (rn fn) p = .rangeFunc g ps x y->LC.lc t=some (x,y)
 ls:List KL
def Fx.body(x:Fx P i):Code:=rn x.fn
def Fx.cx(x:Fx P i):Cx:={ P,tb:=⟨EP.es x.calls,x.etys,x.sub⟩,fn:=x.fn,f:=x.f,ids:=dc i.hp,rd:=qtx i.key,tags:=x.tags }
def Fx.ok(x:Fx P i):x.cx.Ok x.body:=⟨EP.es_ok,x.hm,x.hf,x.ht⟩
structure PL(x:Fx P i)(k:Nat) where
 f:(kl k x.ls).T i.R
 h:∀d',nh x.cx (bt i.hp d') i.out x.body ((kl k x.ls).lab f)
abbrev Fx.L(x:Fx P i)(k:Nat):=PL x k
structure SL(x:Fx P i) where
 q:dy i.R
 h:∀d',nh x.cx (bt i.hp d') i.out x.body q
def PL.s{x:Fx P i}{k:Nat}(p:PL x k):SL x:=⟨(kl k x.ls).lab p.f,p.h⟩
def SL.qs{x:Fx P i}:List (SL x)->List (dy i.R)|[]=>[]|s::l=>s.q::SL.qs l
def SL.qs_ok{x:Fx P i}{d':eh i.hp}:∀{l:List (SL x)},∀q∈SL.qs l,nh x.cx (bt i.hp d') i.out x.body q
 |[],_,h=>by cases h
 |s::_,q,h=>by
  rcases List.mem_cons.1 h with rfl|h
  ·exact s.h d'
  ·exact SL.qs_ok q h
def Fx.jn{x:Fx P i}{k:Nat}(f:(kl k x.ls).T i.R)(l:List (SL x))
  (h:∀d,run x.cx i.out (SL.qs l) 1000000 false (jz x.body (kl k x.ls).1) ((kl k x.ls).2.st d)=app f (jx (kl k x.ls).2.fr d.1 (er (kl k x.ls).2.hp d.2 ()))):PL x k:=
 ⟨f,fun _=>nh.of_run x.ok (fun _ _ h=>qih h) (SL.qs_ok) h⟩
def Fx.lp{x:Fx P i}{k:Nat}(g:Nat->(kl k x.ls).T i.R)(b:(kl k x.ls).T i.R->(kl k x.ls).T i.R)(h0:∀d:(kl k x.ls).2.den,app (g 0) (jx (kl k x.ls).2.fr d.1 (er (kl k x.ls).2.hp d.2 ()))=none)(hg:∀n,g (n+1)=b (g n))(l:PL x k->List (SL x))
  (h:∀r d,run x.cx i.out (SL.qs (l r)) 1000000 false (jz x.body (kl k x.ls).1) ((kl k x.ls).2.st d)=app (b r.f) (jx (kl k x.ls).2.fr d.1 (er (kl k x.ls).2.hp d.2 ()))) (n:Nat):PL x k:=
 ⟨g n,by
  induction n with
  |zero=>intro d' d r hr;have:=h0 d;rw[show((kl k x.ls).lab (g 0)).F d=none from this]at hr;cases hr
  | succ n ih=>rw[hg];exact(Fx.jn (b (g n)) (l ⟨g n,ih⟩) (h ⟨g n,ih⟩)).h⟩
def Fx.fin(x:Fx P i)(f:i.T)(l:List (SL x))(hp:ni P x.f)(hk:i.key = .fn x.f)(hb:x.fn.body=some x.body)(hfine:qh8 x.cx i.args i.hp=true)
  (h:∀d d',qt9 x.cx x.body i.out (SL.qs l) i.args i.hp (Pts.put i.args d) (bt i.hp d')=app f (Pts.pk i.args d (er i.hp d' jy))):EI P i:=
 ⟨f,cu.sound_fn (e:=i.e f) (cx:=x.cx) (labs:=SL.qs l) x.ok hk hb (show qtx i.key=none by rw[hk];rfl) rfl hp hfine (fun _=>SL.qs_ok) h⟩
def Fx.fiy(x:Fx P i)(f:i.T)(l:List (SL x))(m:Nat)(hk:i.key = .yld m)(p:List Nat)(hb:qsy (Sym.sub x.body p)=true)(hfine:(mr (dc i.hp) i.args&&uu (dc i.hp) i.hp)=true)
  (h:∀d d',s9 x.cx x.body p m i.out (SL.qs l) i.hp (Pts.put i.args d) (bt i.hp d')=app f (Pts.pk i.args d (er i.hp d' jy))):EI P i:=
 ⟨f,cu.sound_yld (e:=i.e f) (cx:=x.cx) (labs:=SL.qs l) (p:=p) (m:=m) x.ok hk (show qtx i.key=some m by rw[hk];rfl) rfl hb hfine (fun _=>SL.qs_ok) h⟩
def EI.rc(g:Nat->i.T)(b:i.T->i.T)(h0:∀d d',app (g 0) (Pts.pk i.args d (er i.hp d' jy))=none)(hg:∀n,g (n+1)=b (g n))(s:EI P i->EI P i)(hs:∀r,(s r).f=b r.f)(n:Nat):EI P i:=
 ⟨g n,by
  induction n with
  |zero=>intro d d' r hr;have:=h0 d d';rw[show(i.e (g 0)).F d d'=none from this]at hr;cases hr
  | succ n ih=>rw[hg,← hs ⟨g n,ih⟩];exact(s ⟨g n,ih⟩).h⟩
def sn:List Nat->Code->List Nat->o7->o7
 |[],_,p,k=>(0,p)::k|i::r,c,p,k=>match c with
  |.seq a b=>match i with|0=>sn r a (0::p) ((0,1::p)::k)|_=>sn r b (1::p) k
  |.block _ a=>sn r a (0::p) ((1,p)::k)|.loop a=>sn r a (0::p) ((2,p)::k)|.scope a=>sn r a (0::p) ((3,p)::k)|.rangeFunc _ _ _ b=>sn r b (i::p) []|c=>sn r (pm i c) (i::p) k
def zhy(b:Code)(n:Nat):o7:=sn (q64 200 n).reverse b [] []
def n7(P:Program)(f:FuncId):Func:=match P.funcs[f]? with|some fn=>fn|none=>default
structure LB where
 n:Nat
 fr:List (Nat×Pt)
 hp:List (Nat×aw)
 df:List Nat
abbrev lb(n:Nat)(fr:List (Nat×Pt))(hp:List (Nat×aw):=[])(df:List Nat:=[]):LB:=⟨n,fr,hp,df⟩
def q52(fn:Func):List LB->List KL|[]=>[]|l::r=>(zhy (rn fn) l.n,⟨fn.ntmps,l.fr,l.hp,64,l.df⟩)::q52 fn r
def qh9:qx->FuncId|.fn f=>f|.ext f=>f|.yld _=>0
def zjg {f : FuncId} {fn : Func} (hf : P.funcs[f]? = some fn) (hn : (fn.name == "runtime.NumGoroutine") = false) (hb : fn.body.isNone = false) : ni P f := fun args w => by
 have h1 : ¬ fn.name = "runtime.NumGoroutine" := by simpa using hn
 cases hq:fn.body with
 |none=>rw[hq]at hb;cases hb
 |some c=>simp[callFunc,hf,h1,hq]
def Fx.at(etys:List (Nat×Ty))(hm:P.follows .mixedOrders=true)(f:FuncId)(calls:List (EP P))(ls:List LB)(sub:Bool)(tags:List (List Nat×Nat))
  (ht:∀p t,ke p tags=some t->∀g ps x y,Sym.sub (rn (n7 P f)) p = .rangeFunc g ps x y->LC.lc t=some (x,y)) (hf:P.funcs[f]? = some (n7 P f)):Fx P i:=
 ⟨etys,hm,n7 P f,f,hf,calls,sub,tags,ht,q52 (n7 P f) ls⟩
def Fx.fi(x:Fx P i)(f:i.T)(l:List (SL x):=[])(hp:ni P x.f:=by exact zjg (Fx.hf _) oB oB)(hk:i.key = .fn x.f:=by exact rfl)(hb:x.fn.body=some x.body:=by exact rfl)(hfine:qh8 x.cx i.args i.hp=true:=by kernel_rfl)
  (h:∀d d',qt9 x.cx x.body i.out (SL.qs l) i.args i.hp (Pts.put i.args d) (bt i.hp d')=app f (Pts.pk i.args d (er i.hp d' jy)):=by intro d d';kernel_rfl):EI P i:=x.fin f l hp hk hb hfine h
def Fx.fo(x:Fx P i)(f:i.T)(l:List (SL x))(m:Nat)(p:List Nat)(hk:i.key = .yld m:=by exact rfl)(hb:qsy (Sym.sub x.body p)=true:=by kernel_rfl)(hfine:(mr (dc i.hp) i.args&&uu (dc i.hp) i.hp)=true:=by kernel_rfl)
  (h:∀d d',s9 x.cx x.body p m i.out (SL.qs l) i.hp (Pts.put i.args d) (bt i.hp d')=app f (Pts.pk i.args d (er i.hp d' jy)):=by intro d d';kernel_rfl):EI P i:=x.fiy f l m hk p hb hfine h
def Fx.jm{x:Fx P i}{k:Nat}(f:(kl k x.ls).T i.R)(l:List (SL x):=[])(h:∀d,run x.cx i.out (SL.qs l) 1000000 false (jz x.body (kl k x.ls).1) ((kl k x.ls).2.st d)=app f (jx (kl k x.ls).2.fr d.1 (er (kl k x.ls).2.hp d.2 ())):=by intro d;kernel_rfl):PL x k:=Fx.jn f l h
def Fx.lq{x:Fx P i}{k:Nat}(g:Nat->(kl k x.ls).T i.R)(b:(kl k x.ls).T i.R->(kl k x.ls).T i.R)(l:PL x k->List (SL x))(h0:∀d:(kl k x.ls).2.den,app (g 0) (jx (kl k x.ls).2.fr d.1 (er (kl k x.ls).2.hp d.2 ()))=none:=by intro _;exact rfl)(hg:∀n,g (n+1)=b (g n):=by intro _;exact rfl)
  (h:∀r d,run x.cx i.out (SL.qs (l r)) 1000000 false (jz x.body (kl k x.ls).1) ((kl k x.ls).2.st d)=app (b r.f) (jx (kl k x.ls).2.fr d.1 (er (kl k x.ls).2.hp d.2 ())):=by intro _ d;kernel_rfl) (n:Nat):PL x k:=Fx.lp g b h0 hg l h n
end
end Go.Sym
namespace Go.Sym
def o5(n:Int):Option Bs:=bif decide (-9223372036854775808<=n/\n<=9223372036854775807) then some (Lib.itoa n) else none
def ua(s sep:Bs):Option Int:=bif decide (2<=List.length sep/\List.length s<4294967281/\List.length sep<=maxLen) then some (Lib.index s sep) else none
def jj{α:Type}(l:List α):Option (List α):=bif decide (List.length l<=aq) then some l else none
def qiz(s:Bs)(most:Int):Int×Bool:=match Lib.atoiAll s with|.ok v=>if Lib.itoa v=s/\0<=v/\v<=most then(v,true) else(0,false)|_=>(0,false)
def qaq(s:Bs)(most:Int):Option (Int×Bool):=bif decide (List.length s<=281474976710656) then some (qiz s most) else none
abbrev Pc:Type:=Bs×Int×Bool×Bs
abbrev Pq:Type:={ x:Pc // -1125899906842624<=x.2.1/\x.2.1<=1125899906842624 }
instance:Inhabited Pq:=⟨⟨([],0,false,[]),oE⟩⟩
def mb(x y:Pq):Int:=af (x.1.2.1-y.1.2.1)
def il(l:List Pq):List Pq:=(Go.Sort.pdq (Go.Proofs.ltOf mb) l.toArray 0 l.length (Lib.bitLen l.length) true true).toList
def toQ:List Pc->Option (List Pq)|[]=>some []|x::l=>if h : -1125899906842624<=x.2.1/\x.2.1<=1125899906842624 then(match toQ l with|some r=>some (⟨x,h⟩::r)|none=>none) else none
def qbh(l:List Pc):Option (List Pc):=bif decide (List.length l<=aq) then(match toQ l with|some q=>some ((il q).map (·.1))|none=>none) else none
def xh(s old new:Bs):Option Bs:=bif decide (1<=List.length old/\List.length s<4294967281/\List.length s+List.length s*List.length new<=140737488355328) then some (Lib.replaceAll s old new) else none
def qbo(s:Bs)(n:Int):Option Bs:=bif decide (0<=n/\n<=9223372036854775807/\List.length s*n.toNat<=140737488355328) then some (Lib.repeatL s n.toNat) else none
def vu(rep:Bs):Nat->Bool->Bs->Bs
 |0,_,_=>[]|_+1,_,[]=>[]|n+1,inv,c::l=>if(Lib.decodeL (c::l)).1=65533/\(Lib.decodeL (c::l)).2=1 then(if inv then[] else rep)++vu rep n true l
  else(c::l).take (Lib.decodeL (c::l)).2++vu rep n false ((c::l).drop (Lib.decodeL (c::l)).2)
def qbp(s rep:Bs):Option Bs:=bif decide (List.length s<=1000000/\List.length rep<=1000) then some (vu rep s.length false s) else none
def gy(s:Bs):Option Bool:=bif decide (List.length s<=9223372036854775807) then some (Lib.validD s) else none
def pq(a b:UInt8)(na nb:Bs)(c:UInt8):Bs:=if c=a then na else if c=b then nb else[c]
def d5(a b:UInt8)(na nb:Bs)(s:Bs):Bs:=s.flatMap (pq a b na nb)
def g7(a b:UInt8)(l:Bs):Nat:=l.count a+l.count b
def qhv(a b:UInt8)(na nb s t:Bs):d5 a b na nb (s++t)=d5 a b na nb s++d5 a b na nb t:=List.flatMap_append
def qrs(a b:UInt8)(s t:Bs):g7 a b (s++t)=g7 a b s+g7 a b t:=by unfold g7;rw[List.count_append,List.count_append];omega
def qrt{a b:UInt8}(hab:a≠b)(c:UInt8):g7 a b [c]=if c=a then 1 else if c=b then 1 else 0:=by
 unfold g7;simp only[List.count_cons,List.count_nil,beq_iff_eq];by_cases h:c=a
 ·subst h;simp[hab]
 ·by_cases h2:c=b
  ·subst h2;simp[h]
  ·simp[h,h2]
def qsf{a b:UInt8}(hab:a≠b)(a1 a2 b1 b2:UInt8):∀l:Bs,(d5 a b [a1,a2] [b1,b2] l).length=l.length+g7 a b l
 |[]=>rfl|c::l=>by
  have h:=qsf hab a1 a2 b1 b2 l;rw[show c::l=[c]++l from rfl,qhv,qM,qM,qrs,h,qrt hab]
  have:(d5 a b [a1,a2] [b1,b2] [c]).length=1+(if c=a then 1 else if c=b then 1 else 0):=by
   show(pq a b [a1,a2] [b1,b2] c++[]).length=_;unfold pq;split
   ·rfl
   ·split<;>rfl
  rw[this];simp only[qL,qZ];omega
def q4n{a b:UInt8}(hab:a≠b)(na nb:Bs):∀l:Bs,g7 a b l=0->d5 a b na nb l=l
 |[],_=>rfl|c::l,h=>by
  rw[show c::l=[c]++l from rfl,qrs,qrt hab]at h
  rw[show c::l=[c]++l from rfl,qhv,q4n hab na nb l oA]
  congr 1;show pq a b na nb c++[]=[c];unfold pq;by_cases h1:c=a
  ·rw[qX h1]at h;omega
  ·by_cases h2:c=b
   ·rw[qW h1,qX h2]at h;omega
   ·rw[qW h1,qW h2];rfl
def q89{α:Type}(l:List α)(i:Nat)(h:i<l.length):l.take (i+1)=l.take i++[l[i]]:=by
 rw[List.take_add_one,List.getElem?_eq_getElem h];rfl
def xe(s:Bs)(p0 p1 _p2:Int)(on:List Bs):Option Bs:=
 match on with|[[a],[a1,a2],[b],[b1,b2]]=>bif decide (p0=0/\p1=0/\a≠b/\List.length s<=1000000) then some (d5 a b [a1,a2] [b1,b2] s) else none|_=>none
def zj4{s r:Bs}{p0 p1 p2:Int}{on:List Bs}(h:xe s p0 p1 p2 on=some r) :
  ∃a a1 a2 b b1 b2,on=[[a],[a1,a2],[b],[b1,b2]]/\p0=0/\p1=0/\a≠b/\List.length s<=1000000/\r=d5 a b [a1,a2] [b1,b2] s:=by
 unfold xe at h;split at h
 ·rename_i a a1 a2 b b1 b2;cases hd:decide (p0=0/\p1=0/\a≠b/\List.length s<=1000000)<;>rw[hd]at h<;>simp only[qT,qF,reduceCtorEq]at h
  obtain⟨h1,h2,h3,h4⟩:=of_decide_eq_true hd;exact⟨a,a1,a2,b,b1,b2,rfl,h1,h2,h3,h4,(qJ h).symm⟩
 ·cases h
def lj(l:Bs):Option Bs:=some l
def t7(l:Bs):Option Bs:=some l
def o6(l:List Bs)(sep:Bs):Option Bs:=bif decide (List.length l<=140737488355328/\List.length (Lib.join l sep)<=140737488355328) then some (Lib.join l sep) else none
def nf(s sub:Bs):Option Int:=bif decide (List.length s<4294967281) then some (Lib.index s sub) else none
def uz(s:Bs):Nat×Nat:=if s=[] then(65533,0) else Lib.decodeL s
def jl(s:Bs):Option (Int×Int):=some (((uz s).1:Int),((uz s).2:Int))
open Go.RowKit
variable[LC]
def qq(b:List UInt8)(c:UInt8):Option Int:=some (Lib.indexByte b c)
def qk6(f:FuncId)(r:List UInt8->UInt8->Option Int):cu:={ key := .ext f,args:=[.h (.list .byte),.h .byte],hp:=[],R:=Int,F:=fun d _=>r d.1 d.2.1,out := .one (α:=Int) (.h (.int .i64)) [] (fun r=>(r,())) (fun y=>y.1) (fun _=>rfl) }
def qk5(f:FuncId)(r:List UInt8->UInt8->Option Int):cu:={ key := .ext f,args:=[.h .str,.h .byte],hp:=[],R:=Int,F:=fun d _=>r d.1 d.2.1,out := .one (α:=Int) (.h (.int .i64)) [] (fun r=>(r,())) (fun y=>y.1) (fun _=>rfl) }
def qrj(c:UInt8):((c.toNat:Int)).toNat.toUInt8=c:=oC
def zhj {P : Program} {f : FuncId} {fn : Func} (hf : P.funcs[f]? = some fn) (hname : (fn.name == "runtime.NumGoroutine") = false) (hb : fn.body.isNone = true) (hn : Extern.findNext fn = none) (he : Extern.find fn = some Extern.BytealgIndexByte.indexByte) (b : List UInt8) (c : UInt8) :
  qem P f [.str b,.byte c] (.int .i64 (Lib.indexByte b c)):=fun w G vs _ hr=>by
 match vs,hr with
 |[v1,v2],⟨h1,h2,_⟩=>
  have h1:v1 = .string ⟨b.toArray⟩:=h1;have h2:v2 = .int .u8 c.toNat:=h2;subst h1 h2;refine⟨.int .i64 (Lib.indexByte b c),?_,rfl⟩;rw[run_callFunc_extern hf hname hb hn he,show([Value.string ⟨b.toArray⟩,.int .u8 c.toNat]:List Value).toArray=#[.string ⟨b.toArray⟩,.int .u8 c.toNat] from rfl,Lib.run_indexByteString,qrj]
  rfl
def zhk {P : Program} {f : FuncId} {fn : Func} (hf : P.funcs[f]? = some fn) (hname : (fn.name == "runtime.NumGoroutine") = false) (hb : fn.body.isNone = true) (hn : Extern.findNext fn = none) (he : Extern.find fn = some Extern.BytealgIndexByte.indexByte) (b : List UInt8) (c : UInt8) :
  qem P f [.sl .byte b,.byte c] (.int .i64 (Lib.indexByte b c)):=fun w G vs hm hr=>by
 match vs,hr with
 |[v1,v2],⟨h1,h2,_⟩=>
  have h2:v2 = .int .u8 c.toNat:=h2;subst h2;obtain⟨a,cp,rfl,hc,hl⟩:gm 1 (Ty.byte.At G.imm) b v1:=h1;refine⟨.int .i64 (Lib.indexByte b c),?_,rfl⟩;rw[run_callFunc_extern hf hname hb hn he];have key:∀k:Int,(Extern.BytealgIndexByte.indexByte #[.slice a b.length cp,.int .u8 c.toNat]).run P w = .ok (.int .i64 k) w->((Extern.BytealgIndexByte.indexByte ([Value.slice a b.length cp,.int .u8 c.toNat]:List Value).toArray).run P w).andThen (fun v w'=>Result.ok (Next.value v) w') = .ok (.value (.int .i64 k)) w:=by
   intro k hk;have e:([Value.slice a b.length cp,.int .u8 c.toNat]:List Value).toArray=#[.slice a b.length cp,.int .u8 c.toNat]:=rfl;rw[e,hk];rfl
  refine key _ ?_;have bb:Lib.bytesOf (b.map fun x=>(x.toNat:Int))=b:=by
   unfold Lib.bytesOf;rw[List.map_map];have:((fun n:Int=>UInt8.ofNat n.toNat) ∘ fun x:UInt8=>(x.toNat:Int))=id:=by funext x;simp
   rw[this,List.map_id]
  rcases hl with rfl|⟨g,o,rfl,hcells⟩
  ·have hs:=Lib.run_indexByteString (P:=P) .empty (c.toNat:Int) w
   cases a with|none=>exact hs|some ad=>exact hs
  ·have:=Lib.run_indexByteSlice (P:=P) (w:=w) g o b.length cp (b.map fun x=>(x.toNat:Int)) oC (fun i hi=>by
    have hk:G.imm g (o+i*1)=some (.int .u8 b[i].toNat):=hcells i _ (List.getElem?_eq_getElem hi);have:=hm.agree _ _ _ hk;rw[Nat.mul_one]at this;rw[this];simp[List.getD_eq_getElem?_getD,hi]) (c.toNat:Int)
   rw[bb,qrj]at this;exact this
def zcf {P : Program} {f : FuncId} {fn : Func} (hf : P.funcs[f]? = some fn) (hname : (fn.name == "runtime.NumGoroutine") = false) (hb : fn.body.isNone = true) (hn : Extern.findNext fn = none) (he : Extern.find fn = some Extern.BytealgIndexByte.indexByte) :
  (qk5 f qq).Sound P:=fun d d' r h=>by
 have h:some (Lib.indexByte (show List UInt8 from d.1) (show UInt8 from d.2.1))=some r:=h
 have h:=qJ h;subst h;exact zhj hf hname hb hn he _ _
def zch {P : Program} {f : FuncId} {fn : Func} (hf : P.funcs[f]? = some fn) (hname : (fn.name == "runtime.NumGoroutine") = false) (hb : fn.body.isNone = true) (hn : Extern.findNext fn = none) (he : Extern.find fn = some Extern.BytealgIndexByte.indexByte) :
  (qk6 f qq).Sound P:=fun d d' r h=>by
 have h:some (Lib.indexByte (show List UInt8 from d.1) (show UInt8 from d.2.1))=some r:=h
 have h:=qJ h;subst h;exact zhk hf hname hb hn he _ _
def qet(b:List UInt8)(c:UInt8):Option Int:=some (Lib.countByte b c:Nat)
def qk4(f:FuncId)(r:List UInt8->UInt8->Option Int):cu:={ key := .ext f,args:=[.h .str,.h .byte],hp:=[],R:=Int,F:=fun d _=>r d.1 d.2.1,out := .one (α:=Int) (.h (.int .i64)) [] (fun r=>(r,())) (fun y=>y.1) (fun _=>rfl) }
def zcd {P : Program} {f : FuncId} {fn : Func} (hf : P.funcs[f]? = some fn) (hname : (fn.name == "runtime.NumGoroutine") = false) (hb : fn.body.isNone = true) (hn : Extern.findNext fn = none) (he : Extern.find fn = some Extern.BytealgCount.count) :
  (qk4 f qet).Sound P:=fun d d' r h=>by
 obtain⟨b,c,_⟩:=d;have h:some ((Lib.countByte (show List UInt8 from b) (show UInt8 from c):Nat):Int)=some r:=h
 have h:=qJ h;subst h;intro w G vs _ hr
 match vs,hr with
 |[v1,v2],⟨h1,h2,_⟩=>
  have h1:v1 = .string ⟨(show List UInt8 from b).toArray⟩:=h1
  have h2:v2 = .int .u8 (show UInt8 from c).toNat:=h2
  subst h1 h2;refine⟨.int .i64 (Lib.countByte (show List UInt8 from b) (show UInt8 from c):Nat),?_,rfl⟩
  rw[run_callFunc_extern hf hname hb hn he,show([Value.string ⟨(show List UInt8 from b).toArray⟩,.int .u8 (show UInt8 from c).toNat]:List Value).toArray=#[.string ⟨(show List UInt8 from b).toArray⟩,.int .u8 (show UInt8 from c).toNat] from rfl,Lib.run_countString,qrj]
  rfl
end Go.Sym
namespace Go.Sym
open Go.ChangeShapes Go.WideShapes Go.ChangeAt Go.RowKit
variable[LC]
def Gw(w:World):Gh:=⟨fun b o=>match w.cell? ⟨b,o,none⟩ with|some v=>if v.oneCell'=true then some v else none|none=>none,fun _=>none,fun _=>none⟩
def qp8{w:World}{b o:Nat}{v:Value}(h:w.cell? ⟨b,o,none⟩=some v)(h1:v.oneCell'=true):(Gw w).imm b o=some v:=by
 simp[Gw];rw[h];simp[h1]
def zcq(w:World)(ht:LC.tab (Gw w).imm w):bp (Gw w) [] w:=by
 have key:∀b o v,(Gw w).imm b o=some v->w.cell? ⟨b,o,none⟩=some v/\v.oneCell'=true:=by
  intro b o v h;simp[Gw]at h;split at h
  ·rename_i u hu;split at h
   ·rename_i h1;cases h;exact⟨hu,h1⟩
   ·cases h
  ·cases h
 exact⟨fun b o v h=>(key b o v h).1,fun b o v h=>(key b o v h).2,fun n bx h=>(by cases h),fun n m bx bx' b h=>(by cases h),ht⟩
inductive qqf{α:Type}(p:α->Prop):Tree α->Prop
 |mk (a:α) (l:List (Tree α)):p a->l.length<=maxLen->(∀x∈l,qqf p x)->qqf p (.node a l)
def Ty.bd:(τ:Ty)->τ.den->Prop|.int k,n=>(Lit.int k n).wf=true|.str,s=>List.length s<=maxLen|.prod a b,x=>a.bd x.1/\b.bd x.2|.list a,l=>List.length l<=maxLen/\∀x∈(show List a.den from l),a.bd x|.tree a,t=>qqf a.bd t|_,_=>True
def yv(P:Program)(rec:Ty->TypeId->Bool):Ty->List Field->Nat->Bool|τ,[f],o=>f.offset==o&&(P.cellsOf f.type==τ.sz&&rec τ f.type)|.prod a b,f::fs,o=>f.offset==o&&(P.cellsOf f.type==a.sz&&(rec a f.type&&yv P rec b fs (o+a.sz)))|_,_,_=>false
def qji(P:Program)(t g:TypeId):Bool:=match P.underlying g with|some (.slice e)=>e==t|_=>false
def v8(P:Program)(rec:Ty->TypeId->Bool)(t:TypeId):Ty->List Field->Nat->Bool|τ,[f,g],o=>f.offset==o&&(P.cellsOf f.type==τ.sz&&(rec τ f.type&&(g.offset==o+τ.sz&&(P.cellsOf g.type==1&&qji P t g.type))))|.prod a b,f::fs,o=>f.offset==o&&(P.cellsOf f.type==a.sz&&(rec a f.type&&v8 P rec t b fs (o+a.sz)))|_,_,_=>false
def cn(P:Program):Nat->Ty->TypeId->Bool
 |0,_,_=>false|_+1,.int k,t=>match P.underlying t with|some (.int k')=>decide (k'=k)|_=>false
 |_+1,.byte,t=>match P.underlying t with|some (.int k')=>decide (k' = .u8)|_=>false
 |_+1,.bool,t=>match P.underlying t with|some .bool=>true|_=>false
 |_+1,.str,t=>match P.underlying t with|some .string=>true|_=>false
 |n+1,.list a,t=>match P.underlying t with|some (.slice e)=>P.cellsOf e==a.sz&&(decide (0<a.sz)&&cn P n a e)|_=>false
 |n+1,.prod a b,t=>match P.underlying t with|some (.struct fs)=>P.cellsOf t==(Ty.prod a b).sz&&yv P (cn P n) (.prod a b) fs.toList 0|_=>false
 |n+1,.tree a,t=>match P.underlying t with|some (.struct fs)=>P.cellsOf t==(Ty.tree a).sz&&v8 P (cn P n) t a fs.toList 0|_=>false
 |_+1,_,_=>false
def q9g{P:Program}{n:Nat}{k:IntKind}{t:TypeId}(h:cn P (n+1) (.int k) t=true):P.underlying t=some (.int k):=by
 unfold cn at h;split at h
 ·rename_i k' e;rw[e,of_decide_eq_true h]
 ·cases h
def q9f{P:Program}{n:Nat}{t:TypeId}(h:cn P (n+1) .byte t=true):P.underlying t=some (.int .u8):=by
 unfold cn at h;split at h
 ·rename_i k' e;rw[e,of_decide_eq_true h]
 ·cases h
def q9e{P:Program}{n:Nat}{t:TypeId}(h:cn P (n+1) .bool t=true):P.underlying t=some .bool:=by
 unfold cn at h;split at h
 ·rename_i e;exact e
 ·cases h
def q9h{P:Program}{n:Nat}{t:TypeId}(h:cn P (n+1) .str t=true):P.underlying t=some .string:=by
 unfold cn at h;split at h
 ·rename_i e;exact e
 ·cases h
def aj.app{G:Gh}:∀{xs ys:List AV}{us vs:List Value},aj xs G us->aj ys G vs->aj (xs++ys) G (us++vs)|[],_,[],_,_,h=>h|[],_,_::_,_,h,_=>by simp[aj]at h|_::_,_,[],_,h,_=>by simp[aj]at h|_::_,_,_::_,_,h,k=>⟨h.1,aj.app h.2 k⟩
def qhq{G:Gh}:∀(τ:Ty)(x:τ.den)(cs:List Value),aj (τ.enc x) G cs->∀v∈cs,v.oneCell'=true
 |.int k,n,[v],h,u,hu=>by
  rw[List.mem_singleton]at hu;subst hu;have h1:u = .int k n:=h.1;rw[h1];rfl
 |.byte,c,[v],h,u,hu=>by
  rw[List.mem_singleton]at hu;subst hu;have h1:u = .int .u8 (UInt8.toNat c):=h.1;rw[h1];rfl
 |.bool,c,[v],h,u,hu=>by
  rw[List.mem_singleton]at hu;subst hu;have h1:u = .bool c:=h.1;rw[h1];rfl
 |.str,s,[v],h,u,hu=>by
  rw[List.mem_singleton]at hu;subst hu;have h1:u = .string ⟨List.toArray s⟩:=h.1;rw[h1];rfl
 |.list a,l,[v],h,u,hu=>by
  rw[List.mem_singleton]at hu;subst hu;obtain⟨ad,c,rfl,_⟩:gm a.sz (a.At G.imm) l u:=h.1;rfl
 |.unit,_,[],_,u,hu=>by cases hu
 |.unit,_,_::_,h,_,_=>by simp[Ty.enc,aj]at h|.prod a b,x,cs,h,u,hu=>by
  have key:∀(xs ys:List AV)(cs:List Value),aj (xs++ys) G cs->∃us vs,cs=us++vs/\aj xs G us/\aj ys G vs:=by
   intro xs
   induction xs with
   |nil=>intro ys cs h;exact⟨[],cs,rfl,trivial,h⟩|cons x xs ih=>
    intro ys cs h
    cases cs with
    |nil=>simp[aj]at h|cons c cs=>
     obtain⟨us,vs,e,h1,h2⟩:=ih ys cs h.2;exact⟨c::us,vs,by rw[e];rfl,⟨h.1,h1⟩,h2⟩
  obtain⟨us,vs,rfl,h1,h2⟩:=key _ _ _ h;rcases List.mem_append.1 hu with q|q
  ·exact qhq a x.1 us h1 u q
  ·exact qhq b x.2 vs h2 u q
 |.tree a,x,cs,h,u,hu=>by
  have key:∀(xs ys:List AV)(cs:List Value),aj (xs++ys) G cs->∃us vs,cs=us++vs/\aj xs G us/\aj ys G vs:=by
   intro xs
   induction xs with
   |nil=>intro ys cs h;exact⟨[],cs,rfl,trivial,h⟩|cons x xs ih=>
    intro ys cs h
    cases cs with
    |nil=>simp[aj]at h|cons c cs=>
     obtain⟨us,vs,e,h1,h2⟩:=ih ys cs h.2;exact⟨c::us,vs,by rw[e];rfl,⟨h.1,h1⟩,h2⟩
  obtain⟨us,vs,rfl,h1,h2⟩:=key _ _ _ h;rcases List.mem_append.1 hu with q|q
  ·exact qhq a _ us h1 u q
  ·cases vs with
   |nil=>cases q
   |cons v vs=>
    cases vs with
    |cons v' vs=>simp[aj]at h2|nil=>
     rw[List.mem_singleton]at q;subst q;obtain⟨ad,c,rfl,_⟩:gm (Ty.tree a).sz ((Ty.tree a).At G.imm) (Tree.kids x) u:=h2.1;rfl
 |.int _,_,[],h,_,_=>by simp[Ty.enc,aj]at h|.int _,_,_::_::_,h,_,_=>by simp[Ty.enc,aj]at h|.byte,_,[],h,_,_=>by simp[Ty.enc,aj]at h|.byte,_,_::_::_,h,_,_=>by simp[Ty.enc,aj]at h|.bool,_,[],h,_,_=>by simp[Ty.enc,aj]at h|.bool,_,_::_::_,h,_,_=>by simp[Ty.enc,aj]at h|.str,_,[],h,_,_=>by simp[Ty.enc,aj]at h|.str,_,_::_::_,h,_,_=>by simp[Ty.enc,aj]at h|.list _,_,[],h,_,_=>by simp[Ty.enc,aj]at h|.list _,_,_::_::_,h,_,_=>by simp[Ty.enc,aj]at h
def aj.cells{w:World}{b:Nat}:∀(xs:List AV)(cs:List Value)(o:Nat),aj xs (Gw w) cs->(∀v∈cs,v.oneCell'=true)->(∀(j:Nat)(v:Value),cs[j]? = some v->w.cell? ⟨b,o+j,none⟩=some v)->bn xs (Gw w) b o
 |[],[],_,_,_,_=>trivial|[],_::_,_,h,_,_=>by simp[aj]at h|_::_,[],_,h,_,_=>by simp[aj]at h|x::xs,c::cs,o,h,h1,h2=>by
  refine⟨⟨c,qp8 (h2 0 c rfl) (h1 c qH),h.1⟩,aj.cells xs cs (o+1) h.2 (fun v hv=>h1 v (qE _ hv)) (fun j v hj => ?_)⟩
  have:=h2 (j+1) v hj;rw[show o+1+j=o+(j+1) by omega];exact this
structure ot(H:Type) where
 b:DataW H->Nat
 ba:List (DataW H)->Nat
 str:∀s,b (.lit (.string s))=s.length+1
 lit:∀l,1<=b (.lit l)
 nilb:b .nil=1
 sl:∀e r,b (.slice e r)=ba e+ba r+1
 agg:∀l,b (.agg l)=ba l+1
 nil:ba []=0
 cons:∀d r,ba (d::r)=b d+ba r
def ot.app{H:Type}(B:ot H):∀(l r:List (DataW H)),B.ba (l++r)=B.ba l+B.ba r|[],r=>by rw[List.nil_append,B.nil,wO]|d::l,r=>by rw[wK,B.cons,B.cons,B.app l r,Nat.add_assoc]
mutual
def zf{α:Type}(f:α->Nat):Tree α->Nat|.node a l=>f a+qdx f l+2
def qdx{α:Type}(f:α->Nat):List (Tree α)->Nat|[]=>0|t::l=>zf f t+qdx f l
end
def q9c{α:Type}(f:α->Nat):∀l:List (Tree α),qdx f l=(l.map (zf f)).sum|[]=>by simp[qdx]|t::l=>by rw[qdx,q9c f l,List.map_cons,List.sum_cons]
def zlr{α:Type}(f:α->Nat)(a:α)(l:List (Tree α)):zf f (.node a l)=f a+(l.map (zf f)).sum+2:=by
 rw[← q9c];simp[zf]
def Ty.bk:(τ:Ty)->τ.den->Nat|.str,s=>List.length s+1|.prod a b,x=>a.bk x.1+b.bk x.2|.list a,l=>((show List a.den from l).map a.bk).sum+1|.unit,_=>0|.tree a,t=>zf a.bk t|_,_=>1
section
variable{H:Type}{enc:TypeId×Value->H}{P:Program}{w:World}{base:Nat}{spare:Nat->Bool}{held:Bool}
def q41(B:ot H)(n m:Nat)(cs:List Value)
  (ih:∀(τ:Ty)(t:TypeId)(cs:List Value)(y:DataW H×List MemPlace),cn P n τ t=true->DataW.trod enc P w base spare held m t cs=some y->∃x:τ.den,τ.bd x/\aj (τ.enc x) (Gw w) cs/\τ.bk x<=B.b y.1) :
  ∀(fs:List Field)(τ:Ty)(o:Nat)(xs:List (DataW H×List MemPlace)),yv P (cn P n) τ fs o=true->xs.length=fs.length->(∀(i:Nat)(f:Field),fs[i]? = some f->DataW.trod enc P w base spare held m f.type ((cs.drop f.offset).take (P.cellsOf f.type))=xs[i]?) ->
   ∃x:τ.den,τ.bd x/\aj (τ.enc x) (Gw w) ((cs.drop o).take τ.sz)/\τ.bk x<=B.ba (xs.map (·.1))
 |[],τ,o,xs,h,_,_=>by cases τ<;>simp[yv]at h
 |[f],τ,o,xs,h,hl,hf=>by
  have h':(f.offset==o&&(P.cellsOf f.type==τ.sz&&cn P n τ f.type))=true:=by cases τ<;>exact h
  simp at h'
  match xs,hl with
  |[y],_=>
   have hy:DataW.trod enc P w base spare held m f.type ((cs.drop f.offset).take (P.cellsOf f.type))=some y:=hf 0 f rfl;rw[h'.1,h'.2.1]at hy;obtain⟨x,x1,x2,x3⟩:=ih τ f.type _ y h'.2.2 hy;exact⟨x,x1,x2,oR⟩
 |f::g::fs,τ,o,xs,h,hl,hf=>by
  cases τ with
  |prod a b=>
   have h':(f.offset==o&&(P.cellsOf f.type==a.sz&&(cn P n a f.type&&yv P (cn P n) b (g::fs) (o+a.sz))))=true:=h;simp at h'
   match xs,hl with
   |y::ys,hl=>
    have hy:DataW.trod enc P w base spare held m f.type ((cs.drop f.offset).take (P.cellsOf f.type))=some y:=hf 0 f rfl;rw[h'.1,h'.2.1]at hy;obtain⟨x1,b1,r1,k1⟩:=ih a f.type _ y h'.2.2.1 hy;obtain⟨x2,b2,r2,k2⟩:=q41 B n m cs ih (g::fs) b (o+a.sz) ys h'.2.2.2 (by simpa using hl) (fun i f' hf'=>hf (i+1) f' hf')
    refine⟨(x1,x2),⟨b1,b2⟩,?_,?_⟩
    ·show aj (a.enc x1++b.enc x2) (Gw w) ((cs.drop o).take (a.sz+b.sz));rw[List.take_add,List.drop_drop];exact aj.app r1 r2
    ·show a.bk x1+b.bk x2<=_;rw[List.map_cons,B.cons];omega
  |_=>simp[yv]at h
def q9d(B:ot H)(n m:Nat)(cs:List Value){zww:Ty}(t:TypeId)
  (ih:∀(τ:Ty)(t:TypeId)(cs:List Value)(y:DataW H×List MemPlace),cn P n τ t=true->DataW.trod enc P w base spare held m t cs=some y->∃x:τ.den,τ.bd x/\aj (τ.enc x) (Gw w) cs/\τ.bk x<=B.b y.1)
  (ihk:∀(g:TypeId)(cs:List Value)(y:DataW H×List MemPlace),qji P t g=true->DataW.trod enc P w base spare held m g cs=some y->∃l:List (Ty.tree zww).den,(Ty.list (.tree zww)).bd l/\aj [.sl (.tree zww) l] (Gw w) cs/\(l.map (Ty.tree zww).bk).sum+1<=B.b y.1) :
  ∀(fs:List Field)(τ:Ty)(o:Nat)(xs:List (DataW H×List MemPlace)),v8 P (cn P n) t τ fs o=true->xs.length=fs.length->(∀(i:Nat)(f:Field),fs[i]? = some f->DataW.trod enc P w base spare held m f.type ((cs.drop f.offset).take (P.cellsOf f.type))=xs[i]?) ->
   ∃(x:τ.den)(l:List (Ty.tree zww).den),τ.bd x/\(Ty.list (.tree zww)).bd l/\aj (τ.enc x++[.sl (.tree zww) l]) (Gw w) ((cs.drop o).take (τ.sz+1))/\τ.bk x+((l.map (Ty.tree zww).bk).sum+1)<=B.ba (xs.map (·.1))
 |[],τ,o,xs,h,_,_=>by cases τ<;>simp[v8]at h
 |[f],τ,o,xs,h,_,_=>by cases τ<;>simp[v8]at h
 |[f,g],τ,o,xs,h,hl,hf=>by
  have h':(f.offset==o&&(P.cellsOf f.type==τ.sz&&(cn P n τ f.type&&(g.offset==o+τ.sz&&(P.cellsOf g.type==1&&qji P t g.type)))))=true:=by cases τ<;>exact h
  simp at h'
  match xs,hl with
  |[y,z],_=>
   have hy:DataW.trod enc P w base spare held m f.type ((cs.drop f.offset).take (P.cellsOf f.type))=some y:=hf 0 f rfl;have hz:DataW.trod enc P w base spare held m g.type ((cs.drop g.offset).take (P.cellsOf g.type))=some z:=hf 1 g rfl;rw[h'.1,h'.2.1]at hy;rw[h'.2.2.2.1,h'.2.2.2.2.1]at hz;obtain⟨x,x1,x2,x3⟩:=ih τ f.type _ y h'.2.2.1 hy;obtain⟨l,l1,l2,l3⟩:=ihk g.type _ z h'.2.2.2.2.2 hz;refine⟨x,l,x1,l1,?_,oR⟩
   rw[List.take_add,List.drop_drop];exact aj.app x2 l2
 |f::g::k::fs,τ,o,xs,h,hl,hf=>by
  cases τ with
  |prod a b=>
   have h':(f.offset==o&&(P.cellsOf f.type==a.sz&&(cn P n a f.type&&v8 P (cn P n) t b (g::k::fs) (o+a.sz))))=true:=h;simp at h'
   match xs,hl with
   |y::ys,hl=>
    have hy:DataW.trod enc P w base spare held m f.type ((cs.drop f.offset).take (P.cellsOf f.type))=some y:=hf 0 f rfl;rw[h'.1,h'.2.1]at hy;obtain⟨x1,b1,r1,k1⟩:=ih a f.type _ y h'.2.2.1 hy;obtain⟨x2,l,b2,bl,r2,k2⟩:=q9d B n m cs t ih ihk (g::k::fs) b (o+a.sz) ys h'.2.2.2 (by simpa using hl) (fun i f' hf'=>hf (i+1) f' hf')
    refine⟨(x1,x2),l,⟨b1,b2⟩,bl,?_,?_⟩
    ·show aj ((a.enc x1++b.enc x2)++[.sl (.tree zww) l]) (Gw w) ((cs.drop o).take ((a.sz+b.sz)+1));rw[qS,Nat.add_assoc,List.take_add,List.drop_drop];exact aj.app r1 r2
    ·show(a.bk x1+b.bk x2)+_<=_;rw[List.map_cons,B.cons];omega
  |_=>simp[v8]at h
def ziy(B:ot H):∀(m n:Nat)(τ:Ty)(t:TypeId)(cs:List Value)(y:DataW H×List MemPlace),cn P n τ t=true->DataW.trod enc P w base spare held m t cs=some y->∃x:τ.den,τ.bd x/\aj (τ.enc x) (Gw w) cs/\τ.bk x<=B.b y.1:=by
 intro m
 induction m with
 |zero=>intro n τ t cs y _ h;simp[DataW.trod]at h|succ m ih=>
  intro n τ t cs y ht h
  cases n with
  |zero=>simp[cn]at ht|succ n=>
   cases τ with
   |int k=>
    obtain⟨n,rfl,rfl,hw⟩:=DataW.trod_int (q9g ht) h;exact⟨n,hw,⟨rfl,trivial⟩,B.lit _⟩
   |byte=>
    obtain⟨n,rfl,rfl,hw⟩:=DataW.trod_int (q9f ht) h;have hb:0<=n/\n<=255:=by simp[Lit.wf,qA,decide_eq_true_eq]at hw;exact hw
    refine⟨UInt8.ofNat n.toNat,trivial,⟨?_,trivial⟩,B.lit _⟩;show Value.int .u8 n = .int .u8 ((UInt8.ofNat n.toNat).toNat:Int);rw[UInt8.toNat_ofNat',Nat.mod_eq_of_lt oA]
    congr 1;omega
   |bool=>
    obtain⟨b,rfl,rfl⟩:=DataW.trod_bool (q9e ht) h;exact⟨b,trivial,⟨rfl,trivial⟩,B.lit _⟩
   |str=>
    obtain⟨s,rfl,rfl,hs⟩:=DataW.trod_string (q9h ht) h;refine⟨s.data.toList,?_,⟨?_,trivial⟩,Nat.le_of_eq (B.str _).symm⟩
    ·show s.data.toList.length<=maxLen;rw[Array.length_toList];exact hs
    ·show Value.string s = .string ⟨s.data.toList.toArray⟩;simp
   |unit=>simp[cn]at ht|tree a=>
    have ht0:=ht;unfold cn at ht;split at ht
    ·rename_i fs hu;simp at ht;obtain⟨xs,n',e1,rfl,ac,hxl,hg⟩:=DataW.trod_struct hu h;cases e1
     obtain⟨x,l,hb,hbl,hr,hk⟩:=q9d B n m cs t (fun τ t cs y=>ih n τ t cs y) (fun g cs y hg hy=>by
      have hg':cn P (n+2) (.list (.tree a)) g=true:=by
       unfold qji at hg;unfold cn;split at hg
       ·rename_i e he;have:e=t:=by simpa using hg
        subst this;simp;exact⟨ht.1,by simp[Ty.sz],ht0⟩
       ·cases hg
      exact ih (n+2) (.list (.tree a)) g cs y hg' hy) fs.toList a 0 xs ht.2 (by rw[hxl,Array.length_toList]) (fun i f hf=>hg i f (by rw[← Array.getElem?_toList];exact hf))
     refine⟨.node x l,.mk x l hb hbl.1 hbl.2,?_,?_⟩
     ·rw[List.drop_zero,List.take_of_length_le (by rw[ac,ht.1];exact wF _)]at hr
      exact hr
     ·rw[B.agg];have e:(Ty.tree a).bk (.node x l)=a.bk x+(l.map (Ty.tree a).bk).sum+2:=zlr a.bk x l;omega
    ·cases ht
   |prod a b=>
    unfold cn at ht;split at ht
    ·rename_i fs hu;simp at ht;obtain⟨xs,n',e1,rfl,ac,hxl,hg⟩:=DataW.trod_struct hu h;cases e1
     obtain⟨x,hb,hr,hk⟩:=q41 B n m cs (fun τ t cs y=>ih n τ t cs y) fs.toList (.prod a b) 0 xs ht.2 (by rw[hxl,Array.length_toList]) (fun i f hf=>hg i f (by rw[← Array.getElem?_toList];exact hf))
     refine⟨x,hb,?_,by rw[B.agg];omega⟩
     rw[List.drop_zero,List.take_of_length_le (by rw[ac,ht.1];exact wF _)]at hr
     exact hr
    ·cases ht
   |list a=>
    unfold cn at ht;split at ht
    ·rename_i e hu;simp at ht;obtain⟨hsz,hpos,hte⟩:=ht;rcases DataW.trod_slice hu h with⟨rfl,rfl⟩|⟨ad,len,cap,elems,rest,n',e1,rfl,rfl,_,hlc,hcm,hel,hget,_⟩
     ·exact⟨[],⟨Nat.zero_le _,fun x hx=>by cases hx⟩,⟨⟨none,0,rfl,wF _,.inl rfl⟩,trivial⟩,Nat.le_of_eq (show 0+1=_ by rw[B.nilb])⟩
     ·cases e1
      have each:∀i,i<len->∃(x:a.den)(h:i<elems.length),a.bd x/\ad.spot=none/\a.At (Gw w).imm x ad.block (ad.off+i*a.sz)/\a.bk x<=B.b elems[i].1:=by
       intro i hi;have h1:=hget i hi;rw[List.getElem?_eq_getElem oA]at h1
       obtain⟨cs,hc,hc2⟩:=Option.bind_eq_some_iff.1 h1;obtain⟨x,hb,hr,hk⟩:=ih n a e cs _ hte hc2;unfold World.cells? at hc;split at hc
       ·have hl:=mapM_some_length hc;rw[List.length_range,hsz]at hl;have hcell:∀(j:Nat)(v:Value),cs[j]? = some v->w.cell? ((ad.add (i*P.cellsOf e)).add j)=some v:=by
         intro j v hj;have hj':j<cs.length:=by
          by_cases q:j<cs.length
          ·exact q
          ·rw[List.getElem?_eq_none oA]at hj;cases hj
         have:=mapM_some_get hc j j (by rw[List.getElem?_range oA])
         rw[this,hj]
        have hspot:ad.spot=none:=by
         have g0:=hget 0 oA
         rw[List.getElem?_eq_getElem oA]at g0
         obtain⟨cs0,hc0,_⟩:=Option.bind_eq_some_iff.1 g0;unfold World.cells? at hc0;split at hc0
         ·have jy:=mapM_some_length hc0;rw[List.length_range,hsz]at jy;have:=mapM_some_get hc0 0 0 (by rw[List.getElem?_range oA])
          rw[List.getElem?_eq_getElem oA]at this
          simp[Nat.zero_mul,Addr.add,if_true]at this;unfold World.cell? at this
          cases hs:ad.spot with
          |none=>rfl|some q=>
           rw[hs]at this;split at this
           ·simp at this
           ·cases this
         ·cases hc0
        refine⟨x,oA,hb,hspot,?_,hk⟩
        refine ne.1 (aj.cells _ cs _ hr (qhq a x cs hr) (fun j v hj => ?_))
        have:=hcell j v hj;rw[hsz]at this;have ea:(ad.add (i*a.sz)).add j=⟨ad.block,ad.off+i*a.sz+j,none⟩:=by
         obtain⟨b,o,s⟩:=ad;simp at hspot;subst hspot;unfold Addr.add;by_cases q1:i*a.sz=0
         ·by_cases q2:j=0
          ·simp[q1,q2]
          ·simp[q1,q2]
         ·by_cases q2:j=0
          ·simp[q1,q2]
          ·simp[q1,q2]
        rw[ea]at this;exact this
       ·cases hc
      have lst:∀k,k<=len->∃l:List a.den,l.length=k/\(∀x∈l,a.bd x)/\(∀(j:Nat)(x:a.den),l[j]? = some x->a.At (Gw w).imm x ad.block (ad.off+j*a.sz))/\(l.map a.bk).sum<=B.ba ((elems.take k).map (·.1)):=by
       intro k
       induction k with
       |zero=>intro _;exact⟨[],rfl,fun x hx=>(by cases hx),fun j x hj=>(by simp at hj),oC⟩
       |succ k ihk=>
        intro hk;obtain⟨l,l1,l2,l3,l4⟩:=ihk oA
        obtain⟨x,hx,x1,_,x2,x3⟩:=each k oA
        refine⟨l++[x],by simp[l1],fun y hy => ?_,fun j y hj => ?_,?_⟩
        ·rcases List.mem_append.1 hy with q|q
         ·exact l2 y q
         ·rw[List.mem_singleton]at q;subst q;exact x1
        ·by_cases q:j<l.length
         ·rw[List.getElem?_append_left q]at hj;exact l3 j y hj
         ·rw[List.getElem?_append_right oA]at hj
          have:j=k:=by
           by_cases q2:j-l.length=0
           ·omega
           ·rw[List.getElem?_eq_none oD]at hj;cases hj
          subst this;rw[l1,Nat.sub_self]at hj;cases hj
          exact x2
        ·rw[List.take_succ_eq_append_getElem hx,List.map_append,List.map_append,B.app,List.sum_append];simp only[List.map_cons,List.map_nil,B.cons,B.nil,List.sum_cons,List.sum_nil];omega
      obtain⟨l,l1,l2,l3,l4⟩:=lst len (wF _);refine⟨l,⟨by show l.length<=maxLen;omega,l2⟩,⟨⟨some ad,cap,by rw[← l1],oA,?_⟩,trivial⟩,?_⟩
      rotate_left
      ·rw[List.take_of_length_le oA]at l4
       rw[B.sl];show(l.map a.bk).sum+1<=_;omega
      by_cases q:l=[]
      ·exact .inl q
      ·obtain⟨_,_,_,hs,_⟩:=each 0 (by have:=List.length_pos_iff.2 q;omega)
       refine .inr ⟨ad.block,ad.off,?_,l3⟩;cases ad;simp at hs;subst hs;rfl
    ·cases ht
def zix(B:ot H){r:Reach}{bb n:Nat}{τ:Ty}{t:TypeId}{v:Value}{d:DataW H}{ps:List MemPlace}(ht:cn P n τ t=true)(hv:Value.okWide P w r bb t v)(h:DataW.Trod enc P w base spare held t v d ps) :
  ∃x:τ.den,τ.bd x/\ai (τ.av x) (Gw w) v/\τ.bk x<=B.b d:=by
 obtain⟨m,hm⟩:=h;obtain⟨x,hb,hr,hk⟩:=ziy B m n τ t _ _ ht hm;refine⟨x,hb,?_,hk⟩
 cases n with
 |zero=>simp[cn]at ht|succ n=>
  cases τ with
  |int k=>obtain⟨_,rfl⟩:=okWide_int (q9g ht) hv;exact hr.1
  |byte=>obtain⟨_,rfl⟩:=okWide_int (q9f ht) hv;exact hr.1
  |bool=>obtain⟨_,rfl⟩:=okWide_bool (q9e ht) hv;exact hr.1
  |str=>obtain⟨_,rfl⟩:=okWide_string (q9h ht) hv;exact hr.1
  |unit=>simp[cn]at ht|tree a=>
   unfold cn at ht;split at ht
   ·rename_i fs hu;obtain⟨cs,rfl,_⟩:=okWide_struct hu hv;exact⟨cs,rfl,hr⟩
   ·cases ht
  |prod a b=>
   unfold cn at ht;split at ht
   ·rename_i fs hu;obtain⟨cs,rfl,_⟩:=okWide_struct hu hv;exact⟨cs,rfl,hr⟩
   ·cases ht
  |list a=>
   unfold cn at ht;split at ht
   ·rename_i e hu;obtain⟨_,_,_,rfl⟩:=okWide_slice hu hv;exact hr.1
   ·cases ht
end
end Go.Sym
namespace Go.Sym
open Go.ChangeShapes Go.WideShapes Go.ChangeAt Go.RowKit
variable[LC]
def wd(P:Program)(n:Nat):List Ty->List TypeId->Bool|[],[]=>true|τ::τs,t::ts=>cn P n τ t&&wd P n τs ts|_,_=>false
def bds:(τs:List Ty)->Pts.den (τs.map .h)->Prop|[],_=>True|τ::τs,x=>τ.bd x.1/\bds τs x.2
section
variable{H:Type}{enc:TypeId×Value->H}{P:Program}{w:World}{base:Nat}{spare:Nat->Bool}{held:Bool}
def bks:(τs:List Ty)->Pts.den (τs.map .h)->Nat|[],_=>0|τ::τs,x=>τ.bk x.1+bks τs x.2
def q6z(B:ot H){r:Reach}{bb n:Nat}:∀(τs:List Ty)(ts:List TypeId)(vs:List Value)(ds:List (DataW H))(ps:List MemPlace),wd P n τs ts=true ->
  (∀(j:Nat) t v,ts[j]? = some t->vs[j]? = some v->Value.okWide P w r bb t v)->DataW.TrodAll enc P w base spare held ts vs ds ps ->
  ∃x:Pts.den (τs.map .h),bds τs x/\aj (Pts.put (τs.map .h) x) (Gw w) vs/\bks τs x<=B.ba ds
 |[],[],vs,ds,ps,_,_,h=>by
  obtain⟨rfl,rfl,_⟩:=trodAll_nil h;exact⟨(),trivial,trivial,Nat.zero_le _⟩
 |τ::τs,t::ts,vs,ds,ps,h1,h2,h=>by
  obtain⟨v,vs',d,ds',p,q,rfl,rfl,rfl,hd,hr⟩:=trodAll_cons h;simp[wd,qA]at h1;obtain⟨x,xb,xr,xk⟩:=zix B h1.1 (h2 0 t v rfl rfl) hd;obtain⟨y,yb,yr,yk⟩:=q6z B τs ts vs' ds' q h1.2 (fun j t v ht hv=>h2 (j+1) t v ht hv) hr
  exact⟨(x,y),⟨xb,yb⟩,⟨xr,yr⟩,by rw[B.cons];show τ.bk x+bks τs y<=_;omega⟩
 |[],_::_,_,_,_,h,_,_=>by simp[wd]at h|_::_,[],_,_,_,h,_,_=>by simp[wd]at h
def q81{W W':World}(laid:laidOutB P=true)(hb:Below W.heap.size W W'):∀(ts:List TypeId)(vs:List Value)(ds:List (DataW H))(ps:List MemPlace),
  ts.all (fun t=>P.readableRec t&&decide (t<P.types.size))=true->DataW.TrodAll enc P W 0 (fun _=>true) true ts vs ds ps->DataW.TrodAll enc P W' 0 (fun b=>decide (b<W.heap.size)) true ts vs ds ps
 |[],vs,ds,ps,_,h=>by
  obtain⟨rfl,rfl,rfl⟩:=trodAll_nil h;exact trodAll_mk0
 |t::ts,vs,ds,ps,h1,h=>by
  obtain⟨v,vs',d,ds',p,q,rfl,rfl,rfl,hd,hr⟩:=trodAll_cons h;simp only[List.all_cons,qA,decide_eq_true_eq]at h1;have lt:∀x∈p,x.block<W.heap.size:=by obtain⟨m,hm⟩:=hd;exact DataW.trod_lt m _ _ _ hm
  exact trodAll_cons_mk (Below.trod laid h1.1.1 h1.1.2 hd hb lt) (q81 laid hb ts vs' ds' q h1.2 hr)
end
def zmd{P:Program}{f:FuncId}{xs:List AV}(h:bu P f xs [] (.bool true) [])(vs:List Value)(w:World)(ht:LC.tab (Gw w).imm w)(hr:aj xs (Gw w) vs) :
  Calls P f vs.toArray w fun e w'=>e = .returned (.bool true)/\Below w.heap.size w w':=by
 refine(h w (Gw w) vs (zcq w ht) hr).mono ?_;rintro e w' ⟨v,G,rfl,hfin,hrep⟩
 have hv:v = .bool true:=hrep;subst hv;refine⟨rfl,hfin.bel.os,hfin.bel.tape,hfin.bel.output,hfin.bel.size,fun k hk=>hfin.bel.block k hk ?_⟩
 rintro⟨n,bx,hl,_⟩
 cases hl
def zh9{H:Type}{enc:TypeId×Value->H}{C:Checked}{os:Os}{f:FuncId}{fn:Func}{s:ChangeSpec}{so:OpenSpec}{F:Stop.Interp}{conds:List PathCond}{t:TypeId}{n:Nat}(τs:List Ty)(l:List (String×DataW Unit))(B:ot H)(M:Nat)
  (small:(H:Type)->List (DataW H)->Bool) (hso:so={ OpenSpec.ofChange s with cond:=some small }) (hsm:∀ds:List (DataW H),small H ds=true->B.ba ds<=M)
  (own:ownKnob C.prog.godebug=none) (laid:laidOutB C.prog=true) (started:os.Started) (noInit:C.prog.inits.idxOf? f=none) (hfn:C.prog.funcs[f]? = some fn)
  (witness:∃(w:World)(tape:Tape)(i:Input),w.os=os/\(w.forCall tape i).Shaped C.prog/\i.vars=[]/\Input.okWide C.prog (w.forCall tape i) .any w.heap.size f i /\
   so.preRow enc C.prog fn conds false l (w.forCall tape i).memory i.args/\({}:Assume).holds C.prog (lone (Frame.enter C.prog f i.args .normal) [] (w.forCall tape i)))
  (hvars:s.vars=[]) (hspec:∀ds:List (DataW H),ds.length=fn.params.size->s.fn H ds={ results:=[.lit (.bool true)],args:=ds })
  (htys:wd C.prog n τs fn.params.toList=true) (hread:fn.params.toList.all (fun t=>C.prog.readableRec t&&decide (t<C.prog.types.size))=true)
  (hres:fn.resultTypes=#[t]) (hbool:C.prog.underlying t=some .bool)
  (htab:∀W:World,laidMetH C.prog l W->W.ShapedOpen C.prog->LC.tab (Gw W).imm W)
  (hcall:∀x:Pts.den (τs.map .h),bds τs x->bks τs x<=M->bu C.prog f (Pts.put (τs.map .h) x) [] (.bool true) []) :
  ReturnsInHanded {} C os f .any (so.preRow enc C.prog fn conds false l) ((so.at F).post enc C.prog fn false true false false):=by
 subst hso;refine returnsInHanded_of_row own started noInit hfn witness ?_;intro W base args ds gs before hval hW _ hcond _ hlaid hsh _;have hW':=hW;obtain⟨p,q,hA,hV,rfl,_,_⟩:=hW;rw[show({ OpenSpec.ofChange s with cond:=some small }:OpenSpec).vars=[] from hvars]at hV
 obtain⟨rfl,rfl⟩:=trodVars_none hV;have hk:=hsm _ (hcond small rfl);rw[List.append_nil]at hk;have hl:ds.length=fn.params.size:=by
  have key:∀(ts:List TypeId)(vs:List Value)(ds:List (DataW H))(ps:List MemPlace),DataW.TrodAll enc C.prog W 0 (fun _=>true) true ts vs ds ps->ds.length=ts.length:=by
   intro ts
   induction ts with
   |nil=>intro vs ds ps h;obtain⟨_,rfl,_⟩:=trodAll_nil h;rfl
   |cons t ts ih=>
    intro vs ds ps h;obtain⟨v,vs',d,ds',p,q,_,rfl,_,_,hr⟩:=trodAll_cons h;rw[qL,qL,ih _ _ _ hr]
  rw[key _ _ _ _ hA,Array.length_toList]
 obtain⟨x,xb,xr,xk⟩:=q6z B τs fn.params.toList args.toList ds p htys (fun j t v ht hv=>hval j t v (by rw[← Array.getElem?_toList];exact ht) (by rw[← Array.getElem?_toList];exact hv)) hA
 have hc:=zmd (hcall x xb (Nat.le_trans xk hk)) args.toList W (htab W hlaid hsh) xr;rw[Array.toArray_toList]at hc;refine hc.mono fun e W'⟨he,bel⟩ => ?_
 subst he;refine⟨_,rfl,ds,[],p++[],[],p,[],hW',?_⟩;show DataW.TrodAll _ _ _ _ _ _ _ _ _ _/\_;rw[List.append_nil,show((OpenSpec.at { OpenSpec.ofChange s with cond:=some small } F).fn H ds)=s.fn H ds from rfl,hspec ds hl,hres]
 exact⟨trodAll_mk1 (shut_bool hbool _),q81 laid bel _ _ _ _ hread hA,(by rw[show((OpenSpec.at { OpenSpec.ofChange s with cond:=some small } F).vars)=[] from hvars];rfl),bel.frame _,fun h=>by cases h⟩
def ve(a b:Int):Bool:=decide (a=b)
def yi:(τ:Ty)->τ.den->DataW Unit->Bool|.int k,x,.lit (.int k' n)=>decide (k'=k)&&ve n x|.byte,x,.lit (.int k' n)=>decide (k' = .u8)&&ve n x.toNat|.prod .byte .byte,x,.agg [.lit (.int _ a),.lit (.int _ b)]=>ve a x.1.toNat&&ve b x.2.toNat|_,_,_=>false
def yj(τ:Ty):List τ.den->List (DataW Unit)->Bool|[],[]=>true|x::l,d::ds=>yi τ x d&&yj τ l ds|_,_=>false
def qim(P:Program)(t:TypeId):Bool:=match P.underlying t with|some (.int .u8)=>Nat.beq (P.cellsOf t) 1|_=>false
def qho(P:Program)(t:TypeId):Ty->Bool
 |.int k=>match P.underlying t with|some (.int k')=>decide (k'=k)|_=>false
 |.byte=>match P.underlying t with|some (.int .u8)=>true|_=>false
 |.prod .byte .byte=>match P.underlying t with
  |some (.struct fs)=>match fs.toList with|[f,g]=>Nat.beq f.offset 0&&Nat.beq g.offset 1&&qim P f.type&&qim P g.type&&Nat.beq (P.cellsOf t) 2|_=>false
  |_=>false
 |_=>false
section
variable{P:Program}{w:World}{base:Nat}{sp:Nat->Bool}
def zgm{m:Nat}{τ:Ty}{t:TypeId}{cs:List Value}{y:DataW Unit×List MemPlace}{x:τ.den}(ht:qho P t τ=true)(h:DataW.trod (fun _=>()) P w base sp false m t cs=some y)(hx:yi τ x y.1=true):aj (τ.enc x) (Gw w) cs/\∀v∈cs,v.oneCell'=true:=by
 unfold qho at ht;split at ht
 ·rename_i k;split at ht
  ·rename_i k' hu;have hk:k'=k:=of_decide_eq_true ht;subst hk;obtain⟨n,rfl,rfl,_⟩:=DataW.trod_int hu h;simp only[yi,ve,qA,decide_eq_true_eq]at hx;obtain⟨_,rfl⟩:=hx;exact⟨⟨rfl,trivial⟩,fun v hv=>by rw[List.mem_singleton]at hv;subst hv;rfl⟩
  ·cases ht
 ·split at ht
  ·rename_i hu;obtain⟨n,rfl,rfl,_⟩:=DataW.trod_int hu h;simp only[yi,ve,qA,decide_eq_true_eq]at hx;obtain⟨_,rfl⟩:=hx;exact⟨⟨rfl,trivial⟩,fun v hv=>by rw[List.mem_singleton]at hv;subst hv;rfl⟩
  ·cases ht
 ·split at ht
  ·rename_i fs hu;split at ht
   ·rename_i f g hfs;simp only[qA]at ht;obtain⟨⟨⟨⟨o1,o2⟩,u1⟩,u2⟩,c2⟩:=ht;have o1:=qN o1;have o2:=qN o2;have c2:=qN c2;have key:∀t,qim P t=true->P.underlying t=some (.int .u8)/\P.cellsOf t=1:=fun t h=>by
     unfold qim at h;split at h
     ·rename_i hu;exact⟨hu,qN h⟩
     ·cases h
    obtain⟨k1,s1⟩:=key _ u1;obtain⟨k2,s2⟩:=key _ u2;obtain⟨xs,n,rfl,rfl,hl,hxl,hg⟩:=DataW.trod_struct hu h;have g0:=hg 0 f (by rw[← Array.getElem?_toList,hfs];rfl)
    have g1:=hg 1 g (by rw[← Array.getElem?_toList,hfs];rfl)
    have hsz:fs.size=2:=by rw[← Array.length_toList,hfs];rfl
    rw[hsz]at hxl;rw[c2]at hl
    match cs,hl with
    |[a,b],_=>
     match xs,hxl with
     |[p,q],_=>
      rw[o1,s1]at g0;rw[o2,s2]at g1;obtain⟨n1,e1,rfl,_⟩:=DataW.trod_int k1 g0;obtain⟨n2,e2,rfl,_⟩:=DataW.trod_int k2 g1;simp only[List.drop_zero,List.take_succ_cons,List.take_zero,List.cons.injEq,and_true]at e1;simp only[List.drop_succ_cons,List.drop_zero,List.take_succ_cons,List.take_zero,List.cons.injEq,and_true]at e2;subst e1 e2;simp only[List.map_cons,List.map_nil,yi,ve,qA,decide_eq_true_eq]at hx;obtain⟨rfl,rfl⟩:=hx;exact⟨⟨rfl,rfl,trivial⟩,fun v hv=>by
       rcases List.mem_cons.1 hv with rfl|hv
       ·rfl
       ·rw[List.mem_singleton]at hv;subst hv;rfl⟩
   ·cases ht
  ·cases ht
 ·cases ht
def q37{τ:Ty}:∀{l:List τ.den}{ds:List (DataW Unit)},yj τ l ds=true->l.length=ds.length/\∀(j:Nat)(x:τ.den),l[j]? = some x->∃d,ds[j]? = some d/\yi τ x d=true
 |[],[],_=>⟨rfl,fun j x h=>by simp at h⟩
 |[],_::_,h=>by simp[yj]at h|_::_,[],h=>by simp[yj]at h|y::l,d::ds,h=>by
  simp only[yj,qA]at h;obtain⟨i1,i2⟩:=q37 h.2;refine⟨by simp[i1],fun j x hx => ?_⟩
  match j with|0=>simp only[List.getElem?_cons_zero,qI]at hx;subst hx;exact⟨d,rfl,h.1⟩|j+1=>exact i2 j x hx
def qjd(P:Program)(g:Nat)(τ:Ty)(l:List τ.den)(n:Nat)(d:DataW Unit):Bool:=match(P.globals[g]?).map (·.type) with
 |some t=>match P.underlying t,d with|some (.array _m E),.agg ds=>qho P E τ&&(Nat.beq (P.cellsOf E) τ.sz&&(Nat.beq (P.cellsOf t) n&&yj τ l ds))|_,_=>false
 |none=>false
def zj9{g:Nat}{τ:Ty}{l:List τ.den}{n:Nat}{d:DataW Unit}(h:qjd P g τ l n d=true){t:TypeId}{cs:Array Value}{fuel:Nat}{p:List MemPlace}(ht:(P.globals[g]?).map (·.type)=some t)
  (hc:∃u fr,w.heap[g]? = some (.cells cs u fr)) (hd:DataW.trod (fun _=>()) P w base sp false fuel t cs.toList=some (d,p)) :
  cs.size=n/\∀(j:Nat)(x:τ.den),l[j]? = some x->τ.At (Gw w).imm x g (j*τ.sz):=by
 unfold qjd at h;rw[ht]at h;simp only at h;split at h
 ·rename_i m E ds hu;simp only[qA]at h;obtain⟨h1,h2,h3,h4⟩:=h;have h2:=qN h2;have h3:=qN h3;obtain⟨xs,m',rfl,e,hl,hxl,hg⟩:=DataW.trod_array hu hd;simp only[qP,DataW.agg.injEq]at e;obtain⟨rfl,rfl⟩:=e;obtain⟨dl,dg⟩:=q37 h4;refine⟨by rw[← Array.length_toList,hl,h3],fun j x hx => ?_⟩
  obtain⟨d,hd1,hd2⟩:=dg j x hx;rw[List.getElem?_map]at hd1;obtain⟨y,hy,rfl⟩:=Option.map_eq_some_iff.1 hd1;have hj:j<m:=by rw[← hxl];exact(List.getElem?_eq_some_iff.1 hy).1
  have:=hg j hj;rw[hy]at this;obtain⟨r1,r2⟩:=zgm h1 this hd2;refine ne.1 (aj.cells _ _ _ r1 r2 fun i v hv => ?_)
  rw[h2,List.getElem?_take]at hv;split at hv
  ·rw[List.getElem?_drop]at hv;obtain⟨u,fr,hh⟩:=hc;simp only[World.cell?,hh];rw[← Array.getElem?_toList];exact hv
  ·cases hv
 ·cases h
def qs6{laid:List (String×DataW Unit)}{n:String}{d:DataW Unit}:∀{l:List (String×DataW Unit)}{ps:List MemPlace},DataW.LaidVars P w l ps->(n,d)∈l ->
  ∃g t cs fuel p,P.globalNamed n=some g/\(P.globals[g]?).map (·.type)=some t/\(∃u fr,w.heap[g]? = some (.cells cs u fr))/\DataW.trod (fun _=>()) P w 0 (fun _=>true) false fuel t cs.toList=some (d,p)
 |[],_,_,h=>by cases h
 |(n',d')::r,ps,hl,h=>by
  obtain⟨g,t,cs,fuel,p,q,h1,h2,h3,h4,h5,_⟩:=hl;rcases List.mem_cons.1 h with e|h
  ·simp only[qP]at e;obtain⟨rfl,rfl⟩:=e;refine⟨g,t,cs,fuel,p,h1,h2,?_,h4⟩;unfold World.var? at h3;rw[h1,qB]at h3;split at h3
   ·rename_i c u fr hh;have:=qJ h3;subst this;exact⟨u,fr,hh⟩
   ·cases h3
  ·exact qs6 (laid:=laid) h5 h
end
def qul(P:Program)(laid:List (String×DataW Unit))(e:Nat×Nat):Bool:=match LC.glob e.1 with
 |some ⟨τ,l⟩=>Nat.blt 0 l.length&&laid.any fun x=>match P.globalNamed x.1 with|some g=>Nat.beq g e.1&&qjd P e.1 τ l e.2 x.2|none=>false
 |none=>false
def zhg(P:Program)(laid:List (String×DataW Unit))(g:Nat):Bool:=laid.any fun x=>match P.globalNamed x.1 with
 | some g'=>Nat.beq g' g&&(match(P.globals[g]?).map (·.type) with
  |some t=>match P.underlying t,x.2 with|some (.interface _),.iface _ _=>true|_,_=>false
  | none=>false)
 |none=>false
def zg9{P:Program}{laid:List (String×DataW Unit)}{W:World}(h:laidMetH P laid W)(hh:(laid.all fun x=>x.2.handleName?.isNone)=true)
  (hg:∀g τ l,LC.glob g=some ⟨τ,l⟩->∃n,(g,n)∈LC.sizes) (hs:LC.sizes.all (qul P laid)=true) (hi:LC.ifs.all (zhg P laid)=true) (hn:∀g∈LC.ints,∃k,W.cell? ⟨g,0,none⟩=some (.int .i64 k)):LC.tab (Gw W).imm W:=by
 rw[MakeChecks.laidMetH_plain _ _ _ hh]at h;obtain⟨ps,hl,_⟩:=h;have key:∀e∈LC.sizes,∃τ l,LC.glob e.1=some ⟨τ,l⟩/\0<l.length/\∃(cs:Array Value)(u:TypeId)(fr:Nat×Nat),W.heap[e.1]? = some (.cells cs u fr)/\cs.size=e.2/\∀(j:Nat)(x:τ.den),l[j]? = some x->τ.At (Gw W).imm x e.1 (j*τ.sz):=fun e he=>by
  have h1:=List.all_eq_true.1 hs e he;unfold qul at h1;split at h1
  ·rename_i τ l hgl;rw[qA]at h1;obtain⟨x,hx,h2⟩:=List.any_eq_true.1 h1.2;split at h2
   ·rename_i g hgn;rw[qA]at h2;have:=qN h2.1;subst this;obtain⟨g',t,cs,fuel,p,k1,k2,⟨u,fr,k3⟩,k4⟩:=qs6 (laid:=laid) hl (n:=x.1) (d:=x.2) hx;rw[hgn]at k1;have:=qJ k1;subst this;obtain⟨r1,r2⟩:=zj9 h2.2 k2 ⟨u,fr,k3⟩ k4;exact⟨τ,l,hgl,Nat.le_of_ble_eq_true h1.1,cs,u,fr,k3,r1,r2⟩
   ·cases h2
  ·cases h1
 refine⟨fun g τ l hgl j x hx => ?_,fun g hgi => ?_,fun g hgi => ?_,fun e he => ?_⟩
 ·obtain⟨n,hn⟩:=hg g τ l hgl;obtain⟨τ',l',h1,_,cs,u,fr,_,_,h5⟩:=key _ hn;rw[hgl]at h1;cases h1
  exact h5 j x hx
 ·obtain⟨k,hk⟩:=hn g hgi;exact⟨k,qp8 hk rfl⟩
 ·have h1:=List.all_eq_true.1 hi g hgi;obtain⟨x,hx,h2⟩:=List.any_eq_true.1 h1;split at h2
  ·rename_i g' hgn;rw[qA]at h2;have:=qN h2.1;subst this;obtain⟨g2,t,cs,fuel,p,k1,k2,⟨u,fr,k3⟩,k4⟩:=qs6 (laid:=laid) hl (n:=x.1) (d:=x.2) hx;rw[hgn]at k1;have:=qJ k1;subst this;have h3:=h2.2;rw[k2]at h3;simp only at h3;split at h3
   ·rename_i ms nm d hu hd;rw[hd]at k4;obtain⟨_,u',v,hcs,_,_⟩:=iface_of_trod hu k4;refine⟨u',v,qp8 ?_ rfl⟩;simp only[World.cell?,k3];rw[← Array.getElem?_toList,hcs];rfl
   ·cases h3
  ·cases h2
 ·obtain⟨τ,l,h1,h2,cs,u,fr,h3,h4,h5⟩:=key e he;refine⟨?_,cs,u,fr,h3,h4⟩;have h6:=h5 0 l[0] (by simp[h2])
  have:∃o v,(Gw W).imm e.1 o=some v:=by
   have hx:=List.all_eq_true.1 hs e he;unfold qul at hx;rw[h1]at hx;simp only[qA]at hx;obtain⟨x,_,hx⟩:=List.any_eq_true.1 hx.2;split at hx
   ·rw[qA]at hx;have hx:=hx.2;unfold qjd at hx;split at hx
    ·split at hx
     ·simp only[qA]at hx;have hx:=hx.1;unfold qho at hx;split at hx
      ·exact⟨_,_,h6⟩
      ·exact⟨_,_,h6⟩
      ·exact⟨_,_,h6.1⟩
      ·cases hx
     ·cases hx
    ·cases hx
   ·cases hx
  exact this
section
variable{H:Type}{enc:TypeId×Value->H}
def zmf{C:Checked}{os:Os}{f:FuncId}{fn:Func}{s:OpenSpec}{conds:List PathCond}{apart:Bool}{laid:List (String×DataW Unit)}(modest:Bool)(w0:World)(args:Array Value)(hos:w0.os=os)
  (hsh:(w0.forCall (fun _ _=>0) ⟨#[],args,[]⟩).Shaped C.prog) (hok:Input.okWideB C.prog (w0.forCall (fun _ _=>0) ⟨#[],args,[]⟩) f ⟨#[],args,[]⟩=true)
  (hrow:s.preRow enc C.prog fn conds apart laid (w0.forCall (fun _ _=>0) ⟨#[],args,[]⟩).memory args) :
  ∃(w:World)(tape:Tape)(i:Input),w.os=os/\(w.forCall tape i).Shaped C.prog/\i.vars=[]/\Input.okWide C.prog (w.forCall tape i) .any w.heap.size f i /\
   s.preRow enc C.prog fn conds apart laid (w.forCall tape i).memory i.args/\({ modest:=modest }:Assume).holds C.prog (lone (Frame.enter C.prog f i.args .normal) [] (w.forCall tape i)):=
 ⟨w0,fun _ _=>0,⟨#[],args,[]⟩,hos,hsh,(Input.okWide_of_okWideB (base:=0) hok).1,(Input.okWide_of_okWideB hok).2,hrow,by
  simp only[Assume.holds];exact⟨oC,oC,fun _=>Modest.zero,oC,oC⟩⟩
end
end Go.Sym
namespace Go.Sym
set_option linter.unusedVariables false
abbrev wU : Type := Tree (List (Bs × Bs) × Bs)
abbrev wV : Type := List (Bs × Bs)
section
variable(fu:Nat)
def qjm:List UInt8:=[240,240,240,240,240,240,240,240,240,240,240,240,240,240,240,240,240,240,240,240,240,240,240,240,240,240,240,240,240,240,240,240,240,240,240,240,240,240,240,240,240,240,240,240,240,240,240,240,240,240,240,240,240,240,240,240,240,240,240,240,240,240,240,240,240,240,240,240,240,240,240,240,240,240,240,240,240,240,240,240,240,240,240,240,240,240,240,240,240,240,240,240,240,240,240,240,240,240,240,240,240,240,240,240,240,240,240,240,240,240,240,240,240,240,240,240,240,240,240,240,240,240,240,240,240,240,240,240,241,241,241,241,241,241,241,241,241,241,241,241,241,241,241,241,241,241,241,241,241,241,241,241,241,241,241,241,241,241,241,241,241,241,241,241,241,241,241,241,241,241,241,241,241,241,241,241,241,241,241,241,241,241,241,241,241,241,241,241,241,241,241,241,241,241,2,2,2,2,2,2,2,2,2,2,2,2,2,2,2,2,2,2,2,2,2,2,2,2,2,2,2,2,2,2,19,3,3,3,3,3,3,3,3,3,3,3,3,35,3,3,52,4,4,4,68,241,241,241,241,241,241,241,241,241,241,241]
def qjn:List (UInt8×UInt8):=[(128,191),(160,191),(128,159),(144,191),(128,143),(0,0),(0,0),(0,0),(0,0),(0,0),(0,0),(0,0),(0,0),(0,0),(0,0),(0,0)]
def zlj:List Int:=[1,10,100,1000,10000,100000,1000000,10000000,100000000,1000000000,10000000000,100000000000,1000000000000,10000000000000,100000000000000,1000000000000000,10000000000000000,100000000000000000,1000000000000000000,10000000000000000000]
def ay(a:Int)(b:Int):Option ((Int×Int)):=some (a,b)
def qe5(a:UInt8):Option Bool:=bif decide (33<=a) then bif decide (a<=126) then some (a != 58) else some false else some false
abbrev gg:=Bs->Int->Int->Option Bool
def qkv(fu:Nat)(e:gg):gg:=fun b c a=>bif decide (a<c) then(ak b a).bind fun f=>(qe5 f).bind fun d=>bif !d then some false else e b c (af (a+1)) else some true
def qap(fu:Nat):Nat->gg|0=>fun _ _ _=>none|n+1=>qkv fu (qap fu n)
def qku(a:Bs):Option Bool:=qap fu fu a (a.length:Int) 0
def w3(a:Bs):Option Bool:=bif !(a==([]:Bs)) then bif decide ((a.length:Int)<=60) then(qku fu a).bind fun b=>some b else some false else some false
def qo7(a:Int):Option Bool:=some (decide (8<a))
abbrev qaj:=Bs->Int->(List Bool)->Option ((List Bool)×Bool)
def q1a(fu:Nat)(e:qaj):qaj:=fun b d a=>bif decide (d<(b.length:Int)) then(ak b d).bind fun c=>bif decide (128<=c) then bif decide (a.length=256) then bif decide (a.length=a.length)&&decide (a.length=256) then bif decide (a.length=256)&&(true&&true) then some (a,false) else none else none else none else(a[c.toNat]?).bind fun f=>e b (af (d+1)) (List.set a c.toNat true) else bif decide (a.length=256) then bif decide (a.length=a.length)&&decide (a.length=256) then bif decide (a.length=256)&&(true&&true) then some (a,true) else none else none else none
def qo6(fu:Nat):Nat->qaj|0=>fun _ _ _=>none|n+1=>q1a fu (qo6 fu n)
def xl(a:Bs):Option ((List Bool)×Bool):=qo6 fu fu a 0 (List.replicate 256 false)
def qyb(a:Bs)(c:UInt8):Option Int:=(qq a c).bind fun b=>some b
def qbl(a:Bs)(c:UInt8):Option Int:=(qyb a c).bind fun b=>some b
def qf5(a:Int):Option Bool:=bif decide (0<=a) then bif decide (a<55296) then some true else bif decide (57343<a) then bif decide (a<=1114111) then some true else some false else some false else bif decide (57343<a) then bif decide (a<=1114111) then some true else some false else some false
abbrev qw1:=Bs->Nat->Option Int
abbrev qw2:=Bs->Bs->Int->Int->Int->Option Int
abbrev wo:=Bs->Bs->Int->Int->Option Int
def qog(fu:Nat)(c:qw1):qw1:=fun b a=>bif Nat.blt a (b.length) then bif(((bz b a).1:Nat):Int)==65533 then some ((a:Nat):Int) else c b (a+(bz b a).2) else some (-1)
def qbn(fu:Nat):Nat->qw1|0=>fun _ _=>none|n+1=>qog fu (qbn fu n)
def q0t(fu:Nat)(i:wo)(h:qw2):qw2:=fun e b d c a=>bif decide (a<(b.length:Int)) then(ak e (af (c-a))).bind fun g=>(ak b (af (d-a))).bind fun f=>bif g != f then none else h e b d c (af (a+1)) else some (af (c-d))
def qoj(fu:Nat)(a:wo):Nat->qw2|0=>fun _ _ _ _ _=>none|n+1=>q0t fu a (qoj fu a n)
def qoi(b:wo):wo:=fun a c e d=>qoj fu b fu a c e d 1
def qoh(e:wo):wo:=fun b c d a=>bif decide (a<(b.length:Int)) then(ak b a).bind fun h=>(ak c d).bind fun g=>bif h != g then bif decide (0<=af (a+1)/\af (a+1)<=(b.length:Int)) then(ak c d).bind fun i=>(qbl (List.drop (af (a+1)).toNat b) i).bind fun f=>bif decide (f<0) then some (-1) else qoi fu e b c d (af (a+(af (f+1)))) else none else qoi fu e b c d a else some (-1)
def qfu(fu:Nat):Nat->wo|0=>fun _ _ _ _=>none|n+1=>qoh fu (qfu fu n)
def qbm:Bs->Int->Bool->Option Int:=fun c a b=>bif b then(qbl c (cd a)).bind fun e=>some e else bif a==65533 then qbn fu fu c 0 else(qf5 a).bind fun d=>bif !d then some (-1) else qfu fu fu c (ib a) (af ((List.length (ib a):Int)-1)) (af ((List.length (ib a):Int)-1))
def qu(b:Bs)(a:Int):Option Int:=bif decide (0<=a) then qbm fu b a (decide (a<128)) else qbm fu b a false
def xj(b:UInt8)(a:List Bool):Option (Bool×(List Bool)):=(a[b.toNat]?).bind fun c=>some (c,a)
abbrev qvg:=Bs->Int->(List Bool)->Option Int
abbrev qvh:=Bs->Bs->Nat->Option Int
def qof:Bs->Int->Option Int:=fun a b=>(qu fu a b).bind fun c=>some c
def qod(fu:Nat)(f:qvg):qvg:=fun b a c=>bif decide (a<(b.length:Int)) then(ak b a).bind fun e=>(xj e c).bind fun d=>bif d.1 then some a else f b (af (a+1)) d.2 else some (-1)
def qbj(fu:Nat):Nat->qvg|0=>fun _ _ _=>none|n+1=>qod fu (qbj fu n)
def qoe(e:qvh):qvh:=fun c b a=>bif Nat.blt a (b.length) then(qu fu c (((bz b a).1:Nat):Int)).bind fun d=>bif decide (0<=d) then some ((a:Nat):Int) else e c b (a+(bz b a).2) else some (-1)
def qbk(fu:Nat):Nat->qvh|0=>fun _ _ _=>none|n+1=>qoe fu (qbk fu n)
def qft:Bs->Bs->Option Int:=fun b a=>qbk fu fu a b 0
def qfs(b:Bs)(a:Bs):Option Int:=bif a==([]:Bs) then some (-1) else bif(a.length:Int)==1 then(ak a 0).bind fun d=>bif decide (128<=(d.toNat:Int)) then qof fu b 65533 else qof fu b (d.toNat:Int) else(qo7 (b.length:Int)).bind fun e=>bif e then(xl fu a).bind fun c=>bif decide (c.1.length=List.length (List.replicate 256 false))&&decide (c.1.length=256) then bif c.2 then qbj fu fu b 0 c.1 else qft fu b a else none else qft fu b a
def qfq(a:Bs)(c:Bs):Option Bool:=(qfs fu a c).bind fun b=>some (decide (0<=b))
def wz(a:Bs):Option Bool:=(qfq fu a [13,10,0]).bind fun b=>some b
def gl(a:UInt8):Option Bool:=bif a==32 then some true else some (a==9)
def qe8(a:Bs):Option Bool:=(wz fu a).bind fun c=>bif !c then bif a==([]:Bs) then some true else(ak a 0).bind fun d=>(gl d).bind fun b=>bif !b then(ak a (af ((a.length:Int)-1))).bind fun e=>(gl e).bind fun f=>some (!f) else some false else some false
abbrev qi:=Bs->Int->Int->Option Int
def qe7(fu:Nat)(c:qi):Bs->Int->Int->Bool->Option Int:=fun b d a e=>bif e then c b d (af (a+1)) else bif decide (0<d) then bif decide (78<a) then some d else c b a (af (a+1)) else c b a (af (a+1))
def ql7(d:qi):qi:=fun a c b=>bif decide (b<(a.length:Int)) then(ak a b).bind fun f=>(gl f).bind fun e=>bif !e then qe7 fu d a c b true else(ak a (af (b-1))).bind fun g=>(gl g).bind fun h=>qe7 fu d a c b h else some c
def qa5(fu:Nat):Nat->qi|0=>fun _ _ _=>none|n+1=>ql7 fu (qa5 fu n)
def qe6(b:Bs)(a:Int):Option Int:=qa5 fu fu b 0 (if 1>a then 1 else a)
def bq:Option ((Int×Int)):=some (0,0)
abbrev qvw:=Int->Int->(Int×Int)->(List Bs)->Option ((Int×Int)×(List Bs))
abbrev qvv:=Bs->Int->(Int×Int)->(List Bs)->Option ((Int×Int)×(List Bs))
def ql2(fu:Nat)(g:qvw):qvw:=fun c a d b=>bif decide (a<c) then bif decide (0<=a/\a.toNat<b.length) then(b[a.toNat]?).bind fun h=>bif decide (998<(h.length:Int)) then(ay 1 a).bind fun f=>some (f,[]) else g c (af (a+1)) d b else none else(bq).bind fun e=>some (e,b)
def qa3(fu:Nat):Nat->qvw|0=>fun _ _ _ _=>none|n+1=>ql2 fu (qa3 fu n)
def qa2:Bs->(Int×Int)->(List Bs)->Option ((Int×Int)×(List Bs)):=fun c b a=>bif decide (List.length (a++([c]:List Bs))<=aq) then qa3 fu fu (List.length (a++([c]:List Bs)):Int) 0 b (a++([c]:List Bs)) else none
def ql1(e:qvv):qvv:=fun a f d b=>bif decide (78<(a.length:Int)) then(qe6 fu a f).bind fun c=>bif c==0 then qa2 fu a d b else bif decide (0<=c/\c<=(a.length:Int)) then bif decide (List.length (b++([List.take c.toNat a]:List Bs))<=aq) then bif decide (0<=c/\c<=(a.length:Int)) then e (List.drop c.toNat a) 0 d (b++([List.take c.toNat a]:List Bs)) else none else none else none else qa2 fu a d b
def qa1(fu:Nat):Nat->qvv|0=>fun _ _ _ _=>none|n+1=>ql1 fu (qa1 fu n)
def qr(a:Bs)(b:Bs):Option ((Int×Int)×(List Bs)):=(w3 fu a).bind fun e=>bif !e then(ay 10 (-1)).bind fun d=>some (d,[]) else bif decide (4000<(b.length:Int)) then(ay 1 (-1)).bind fun c=>some (c,[]) else(qe8 fu b).bind fun g=>bif !g then(ay 11 (-1)).bind fun f=>some (f,[]) else bif decide (a.length+List.length ([58,32]:Bs)<=bf) then bif decide (List.length (a++[58,32])+b.length<=bf) then qa1 fu fu ((a++[58,32])++b) (af ((a.length:Int)+2)) (0,0) [] else none else none
def cy(a:Int×Int):Option Bool:=some (a.1 != 0)
abbrev qv6:=wV->Int->Int->(Int×Int)->Option ((Int×Int))
def qmk(h:qv6):qv6:=fun c b a d=>bif decide (a<b) then(ak c a).bind fun f=>(qr fu f.1 f.2).bind fun e=>(cy e.1).bind fun g=>bif g then(ay e.1.1 a).bind fun j=>some j else h c b (af (a+1)) d else(bq).bind fun i=>some i
def qba(fu:Nat):Nat->qv6|0=>fun _ _ _ _=>none|n+1=>qmk fu (qba fu n)
def w8(a:List (Bs×Bs)):Option ((Int×Int)):=bif decide (60<(a.length:Int)) then(ay 2 (-1)).bind fun b=>some b else qba fu fu a (a.length:Int) 0 (0,0)
abbrev qv8:=wV->Int->Int->Int->Int->(wV×Bs)->(List Bs)->Bs->Option (Bs)
abbrev qea:=wV->Int->Int->(wV×Bs)->Bs->Option (Bs)
def qzh(fu:Nat)(j:qea)(k:qv8):qv8:=fun e g h d a f c b=>bif decide (a<d) then bif decide (0<=a/\a.toNat<c.length) then(c[a.toNat]?).bind fun i=>bif decide (List.length (b++i)<=aq) then bif decide (List.length ((b++i)++([13,10]:Bs))<=aq) then k e g h d (af (a+1)) f c ((b++i)++([13,10]:Bs)) else none else none else none else j e g (af (h+1)) f b
def qnh(fu:Nat)(a:qea):Nat->qv8|0=>fun _ _ _ _ _ _ _ _=>none|n+1=>qzh fu a (qnh fu a n)
def qzg(h:qea):qea:=fun d e c b a=>bif decide (c<e) then(ak d c).bind fun f=>(qr fu f.1 f.2).bind fun g=>qnh fu h fu d e c (g.2.length:Int) 0 b g.2 a else bif decide (List.length (a++([13,10]:Bs))<=aq) then bif decide (List.length ((a++([13,10]:Bs))++b.2)<=aq) then some ((a++([13,10]:Bs))++b.2) else none else none
def qng(fu:Nat):Nat->qea|0=>fun _ _ _ _ _=>none|n+1=>qzg fu (qng fu n)
def qnf(a:wV×Bs):Option (Bs):=qng fu fu a.1 (a.1.length:Int) 0 a []
def qxb(fu:Nat)(d:qi):Bs->Int->Int->UInt8->Option Int:=fun c b e a=>bif a==13 then some 11 else bif a==10 then some 11 else bif decide (998<(af (b+1))) then some 1 else d c (af (b+1)) (af (e+1))
def qer(c:qi):Bs->Int->Int->UInt8->Bool->Option Int:=fun b f d e a=>bif a then c b 0 (af ((af (d+1))+1)) else qxb fu c b f d e
def qxa(d:qi):qi:=fun a e b=>bif decide (b<(a.length:Int)) then(ak a b).bind fun c=>bif c==13 then bif decide ((af (b+1))<(a.length:Int)) then(ak a (af (b+1))).bind fun f=>qer fu d a e b c (f==10) else qer fu d a e b c false else qer fu d a e b c false else some 0
def qk0(fu:Nat):Nat->qi|0=>fun _ _ _=>none|n+1=>qxa fu (qk0 fu n)
def qkz(a:Bs):Option Int:=qk0 fu fu a 0 0
def qzd(d:Bs):Option ((Int×Int)):=(qkz fu d).bind fun a=>bif a==11 then(ay 11 (-5)).bind fun c=>some c else bif a==1 then(ay 1 (-6)).bind fun b=>some b else(bq).bind fun e=>some e
def qfj(a:wV×Bs):Option ((Int×Int)):=(w8 fu a.1).bind fun b=>(cy b).bind fun d=>bif d then some b else(qnf fu a).bind fun c=>bif decide (12000<(c.length:Int)) then(ay 1 (-4)).bind fun f=>some f else(qzd fu a.2).bind fun e=>some e
def qzc(b:wV×Bs):Option ((Int×Int)×Bs):=(qfj fu b).bind fun a=>(cy a).bind fun d=>bif d then some (a,[]) else(qnf fu b).bind fun c=>(bq).bind fun e=>some (e,c)
def qar(a:Bs)(c:UInt8):Option Int:=(qq a c).bind fun b=>some b
def qk7(a:Bs)(b:Bs):Option Bool:=some (a==b)
def qk8(a:Bs)(b:Bs):Option Bool:=bif decide ((b.length:Int)<=(a.length:Int)) then bif decide (0<=af ((a.length:Int)-(b.length:Int))/\af ((a.length:Int)-(b.length:Int))<=(a.length:Int)) then(qk7 (List.drop (af ((a.length:Int)-(b.length:Int))).toNat a) b).bind fun c=>some c else none else some false
def qeu(a:Bs)(b:Bs):Option (Bs):=(qk8 a b).bind fun c=>bif c then bif decide (0<=af ((a.length:Int)-(b.length:Int))/\af ((a.length:Int)-(b.length:Int))<=(a.length:Int)) then some (List.take (af ((a.length:Int)-(b.length:Int))).toNat a) else none else some a
def qx8(b:Bs):Option (Bs×Int):=(qar b 10).bind fun a=>bif decide (a<0) then some (b,(b.length:Int)) else bif decide (0<=a/\a<=(b.length:Int)) then bif decide (0<List.length ([13]:Bs)) then(qeu (List.take a.toNat b) ([13]:Bs)).bind fun c=>some (c,af (a+1)) else none else none
def qok(a:List Bs):Option (Int×Int×Int×(List Bs)):=bif(Int.tmod (a.length:Int) 2)==1 then none else bif decide (a.length<=aq) then some (0,(0,(0,a))) else none
def qml(b:Bs)(c:Bs):Option (Bs×Bs×Bool):=(nf b c).bind fun a=>bif decide (0<=a) then bif decide (0<=a/\a<=(b.length:Int)) then bif decide (0<=af (a+(c.length:Int))/\af (a+(c.length:Int))<=(b.length:Int)) then some (List.take a.toNat b,(List.drop (af (a+(c.length:Int))).toNat b,true)) else none else none else some (b,(([]:Bs),false))
def ug(a:Bs)(c:Bs):Option (Bs×Bs×Bool):=(qml a c).bind fun b=>some b
abbrev qj:=Bs->UInt8->Option (Bs)
def q1d(fu:Nat)(c:qj):qj:=fun a b=>bif decide (0<(a.length:Int)) then(ak a (af ((a.length:Int)-1))).bind fun d=>bif d==b then bif decide (0<=af ((a.length:Int)-1)/\af ((a.length:Int)-1)<=(a.length:Int)) then c (List.take (af ((a.length:Int)-1)).toNat a) b else none else some a else some a
def qpf(fu:Nat):Nat->qj|0=>fun _ _=>none|n+1=>q1d fu (qpf fu n)
def qpe(a:Bs)(b:UInt8):Option (Bs):=qpf fu fu a b
abbrev qk:=Bs->(List Bool)->Option (Bs×(List Bool))
def qpd(fu:Nat)(d:qk):qk:=fun a c=>bif decide (0<(a.length:Int)) then(ak a (af ((a.length:Int)-1))).bind fun e=>(xj e c).bind fun b=>bif !b.1 then some (a,b.2) else bif decide (0<=af ((a.length:Int)-1)/\af ((a.length:Int)-1)<=(a.length:Int)) then d (List.take (af ((a.length:Int)-1)).toNat a) b.2 else none else some (a,c)
def qbr(fu:Nat):Nat->qk|0=>fun _ _=>none|n+1=>qpd fu (qbr fu n)
def qf3(a:Bs)(b:List Bool):Option (Bs×(List Bool)):=qbr fu fu a b
def qpu(a:UInt8):Option Bool:=some ((a&&&192) != 128)
abbrev qkg:=Bs->Int->Int->Option (Int×Int)
abbrev qaf:=Bs->Int->Int->Int->Option (Int×Int)
def qpm(fu:Nat):qkg:=fun c b a=>bif decide (0<=a/\a<=b/\b<=(c.length:Int)) then(jl (List.take (b.toNat-a.toNat) (List.drop a.toNat c))).bind fun d=>bif(af (a+d.2)) != b then some (65533,1) else some d else none
def qpl:qkg:=fun a c b=>bif decide (b<0) then qpm fu a c 0 else qpm fu a c b
def q1k(f:qaf):qaf:=fun b c a d=>bif decide (d<=a) then(ak b a).bind fun g=>(qpu g).bind fun e=>bif e then qpl fu b c a else f b c (af (a-1)) d else qpl fu b c a
def qpk(fu:Nat):Nat->qaf|0=>fun _ _ _ _=>none|n+1=>q1k fu (qpk fu n)
def q1j(a:Bs):Option (Int×Int):=bif(a.length:Int)==0 then some (65533,0) else(ak a (af ((a.length:Int)-1))).bind fun b=>bif decide ((b.toNat:Int)<128) then some ((b.toNat:Int),1) else qpk fu fu a (a.length:Int) (af ((af ((a.length:Int)-1))-1)) (if 0>af ((a.length:Int)-4) then 0 else af ((a.length:Int)-4))
def qfr(a:Bs)(c:Int):Option Bool:=(qu fu a c).bind fun b=>some (decide (0<=b))
abbrev gx:=Bs->Bs->Option (Bs)
def q1e(d:gx):gx:=fun a c=>bif decide (0<(a.length:Int)) then(ak a (af ((a.length:Int)-1))).bind fun e=>bif decide (128<=(e.toNat:Int)) then(q1j fu a).bind fun b=>(qfr fu c b.1).bind fun f=>bif !f then some a else bif decide (0<=af ((a.length:Int)-b.2)/\af ((a.length:Int)-b.2)<=(a.length:Int)) then d (List.take (af ((a.length:Int)-b.2)).toNat a) c else none else(qfr fu c (e.toNat:Int)).bind fun g=>bif !g then some a else bif decide (0<=af ((a.length:Int)-1)/\af ((a.length:Int)-1)<=(a.length:Int)) then d (List.take (af ((a.length:Int)-1)).toNat a) c else none else some a
def qph(fu:Nat):Nat->gx|0=>fun _ _=>none|n+1=>q1e fu (qph fu n)
def qpg(a:Bs)(b:Bs):Option (Bs):=qph fu fu a b
abbrev tz:=Bs->Bs->Bool->Option (Bs)
def q04:gx:=fun b c=>(xl fu c).bind fun a=>bif decide (a.1.length=List.length (List.replicate 256 false))&&decide (a.1.length=256) then bif a.2 then(qf3 fu b a.1).bind fun e=>some e.1 else(qpg fu b c).bind fun d=>some d else none
def qow:tz:=fun b c a=>bif a then(ak c 0).bind fun e=>(qpe fu b e).bind fun d=>some d else q04 fu b c
def q03:gx:=fun b a=>bif(a.length:Int)==1 then(ak a 0).bind fun c=>qow fu b a (decide (c<128)) else qow fu b a false
def qov:tz:=fun b c a=>bif a then some b else q03 fu b c
def qou(a:Bs)(b:Bs):Option (Bs):=bif a==([]:Bs) then qov fu a b true else qov fu a b (b==([]:Bs))
def qx9(a:Bs):Option Bool:=(qr fu a []).bind fun c=>(cy c.1).bind fun b=>some (!b)
def qx7(d:Bs):Option ((Bs×Bs)×Bool):=(ug d [58]).bind fun a=>(qou fu a.1 [32,9]).bind fun b=>bif a.2.2 then(qx9 fu b).bind fun c=>some ((b,a.2.1),c) else some ((b,a.2.1),false)
abbrev xt:=Int×Int×Int×Bs×(List Bs)
abbrev qec:=Bool->Int->Int->Int->Int->(List Bs)->Option xt
abbrev qag:=Int->Int->Int->Int->(List Bs)->Bs->Option xt
abbrev qwc:=Int->Int->Int->Int->(List Bs)->(List Bs)->Option xt
def qoo(fu:Nat)(e:qec):qec:=fun f g c a b d=>e f (af (g+2)) c a b d
def q0y(fu:Nat)(i:qag):qag:=fun e d b c a f=>bif decide (0<=e) then bif decide (0<=e/\e.toNat<a.length) then(a[e.toNat]?).bind fun k=>(ak k 0).bind fun g=>bif decide (0<=af (e+1)/\(af (e+1)).toNat<a.length) then(a[(af (e+1)).toNat]?).bind fun h=>(ak h 0).bind fun j=>(f[g.toNat]?).bind fun l=>i (af (e-2)) d b c a (List.set f g.toNat j) else none else none else some (d,(b,(c,(f,a))))
def qor(fu:Nat):Nat->qag|0=>fun _ _ _ _ _ _=>none|n+1=>q0y fu (qor fu n)
def q0w(g:qag):qag:=fun a d b c e f=>bif decide (a<256) then bif decide (0<=a)&&decide (a<256) then(f[a.toNat]?).bind fun h=>g (af (a+1)) d b c e (List.set f a.toNat (cd a)) else none else qor fu fu (af ((e.length:Int)-2)) d b c e f
def qop(fu:Nat):Nat->qag|0=>fun _ _ _ _ _ _=>none|n+1=>q0w fu (qop fu n)
def q0x(fu:Nat)(j:qwc):qwc:=fun a e c d b g=>bif decide (0<=a) then bif decide (0<=a/\a.toNat<b.length) then(b[a.toNat]?).bind fun f=>(ak f 0).bind fun i=>bif decide (0<=af (a+1)/\(af (a+1)).toNat<b.length) then(b[(af (a+1)).toNat]?).bind fun h=>none else none else none else none
def qoq(fu:Nat):Nat->qwc|0=>fun _ _ _ _ _ _=>none|n+1=>q0x fu (qoq fu n)
def q0v(f:qec):qec:=fun g e d b c a=>bif decide (e<(a.length:Int)) then bif decide (0<=e/\e.toNat<a.length) then(a[e.toNat]?).bind fun h=>bif(h.length:Int) != 1 then none else bif decide (0<=af (e+1)/\(af (e+1)).toNat<a.length) then(a[(af (e+1)).toNat]?).bind fun i=>bif(i.length:Int) != 1 then qoo fu f false e d b c a else qoo fu f g e d b c a else none else none else bif g then bif decide (List.length (List.replicate 256 0)=List.length (List.replicate 256 0))&&decide (List.length (List.replicate 256 0)=256) then qop fu fu 0 d b c a (List.replicate 256 0) else none else bif decide (0<=(0:Int)/\0=af (Int.tdiv (a.length:Int) 2)/\(0:Int)<=4294967296) then qoq fu fu (af ((a.length:Int)-2)) d b c a (List.replicate (0:Int).toNat []) else none
def qon(fu:Nat):Nat->qec|0=>fun _ _ _ _ _ _=>none|n+1=>q0v fu (qon fu n)
def q0z:Int->Int->Int->(List Bs)->Option xt:=fun c a b d=>qon fu fu true 0 c a b d
def qom:Bool->Int->Int->Int->(List Bs)->Option xt:=fun e d b c a=>bif e then bif decide (0<=(0:Int)/\(0:Int).toNat<a.length) then(a[(0:Int).toNat]?).bind fun g=>bif decide (0<=(1:Int)/\(1:Int).toNat<a.length) then(a[(1:Int).toNat]?).bind fun f=>none else none else none else q0z fu d b c a
def q0u(d:Int)(b:Int)(c:Int)(a:List Bs):Option xt:=bif(a.length:Int)==2 then bif decide (0<=(0:Int)/\(0:Int).toNat<a.length) then(a[(0:Int).toNat]?).bind fun e=>qom fu (decide (1<(e.length:Int))) d b c a else none else qom fu false d b c a
abbrev zc7:=Int×Int×Int×Bs×(List Bs)
def qol(e:Int)(b:Int)(c:Int)(d:List Bs):Option zc7:=(q0u fu e b c d).bind fun a=>some (a.1,(a.2.1,(a.2.2.1,(a.2.2.2.1,[]))))
abbrev qkh:=Bs->Int->Bs->Bs->Option (Bs×Bs)
abbrev qwf:=Bs->Int->Bs->Option (Bs×Bs)
def qo0(fu:Nat)(e:qkh):Bs->Int->UInt8->Bs->Bs->Option (Bs×Bs):=fun g b f c a=>(c[f.toNat]?).bind fun d=>bif decide (0<=b/\b.toNat<a.length) then(a[b.toNat]?).bind fun h=>e g (af (b+1)) c (List.set a b.toNat d) else none
def q06(f:qkh):qkh:=fun c b d a=>bif decide (b<(c.length:Int)) then(ak c b).bind fun e=>(d[e.toNat]?).bind fun g=>bif g != e then bif decide (0<a.length) then qo0 fu f c b e d a else none else f c (af (b+1)) d a else bif decide (0<a.length) then some (a,d) else none
def qo1(fu:Nat):Nat->qkh|0=>fun _ _ _ _=>none|n+1=>q06 fu (qo1 fu n)
def q05(f:qwf):qwf:=fun a b c=>bif decide (b<(a.length:Int)) then(ak a b).bind fun d=>(c[d.toNat]?).bind fun e=>bif e != d then bif decide (a.length<=maxLen) then qo0 fu (qo1 fu fu) a b d c a else none else f a (af (b+1)) c else some (a,c)
def qoz(fu:Nat):Nat->qwf|0=>fun _ _ _=>none|n+1=>q05 fu (qoz fu n)
def qfz(a:Bs)(b:Bs):Option (Bs×Bs):=qoz fu fu a 0 b
def qbf(fu:Nat)(s:Bs)(p0 p1 p2:Int)(on:List Bs):Option (Bs×Int×Int×Int×Bs):=
 bif decide (p0=0)&&decide (p1=0) then
 (qol fu 0 1 p2 on).bind fun x=>
 bif decide (x.1=0)&&decide (x.2.1=1) then
 (qfz fu s x.2.2.2.1).bind fun y=>
 some (y.1,1,0,x.2.2.1,y.2)
 else none else none
def qbg(fu:Nat)(s:Bs)(p0 p1 p2:Int)(tab:Bs):Option (Bs×Int×Int×Int×Bs):=
 bif !decide (p0=0) then
 (qfz fu s tab).bind fun y=>
 some (y.1,p0,p1,p2,y.2)
 else none
def q1b(fu:Nat)(c:qj):qj:=fun a b=>bif decide (0<(a.length:Int)) then(ak a 0).bind fun d=>bif d==b then bif decide (0<=(1:Int)/\1<=(a.length:Int)) then c (List.drop (1:Int).toNat a) b else none else some a else some a
def qpa(fu:Nat):Nat->qj|0=>fun _ _=>none|n+1=>q1b fu (qpa fu n)
def qo9(a:Bs)(b:UInt8):Option (Bs):=qpa fu fu a b
def qo8(fu:Nat)(d:qk):qk:=fun a c=>bif decide (0<(a.length:Int)) then(ak a 0).bind fun e=>(xj e c).bind fun b=>bif !b.1 then some (a,b.2) else bif decide (0<=(1:Int)/\1<=(a.length:Int)) then d (List.drop (1:Int).toNat a) b.2 else none else some (a,c)
def qbq(fu:Nat):Nat->qk|0=>fun _ _=>none|n+1=>qo8 fu (qbq fu n)
def qf2(a:Bs)(b:List Bool):Option (Bs×(List Bool)):=qbq fu fu a b
def q1c(e:gx):gx:=fun a c=>bif decide (0<(a.length:Int)) then(jl a).bind fun b=>(qfr fu c b.1).bind fun d=>bif !d then some a else bif decide (0<=b.2/\b.2<=(a.length:Int)) then e (List.drop b.2.toNat a) c else none else some a
def qpc(fu:Nat):Nat->gx|0=>fun _ _=>none|n+1=>q1c fu (qpc fu n)
def qpb(a:Bs)(b:Bs):Option (Bs):=qpc fu fu a b
def qoy:gx:=fun c b=>(xl fu b).bind fun a=>bif decide (a.1.length=List.length (List.replicate 256 false))&&decide (a.1.length=256) then bif a.2 then(qf3 fu c a.1).bind fun d=>(qf2 fu d.1 d.2).bind fun e=>some e.1 else(qpg fu c b).bind fun g=>(qpb fu g b).bind fun f=>some f else none
def qfy:tz:=fun c b a=>bif a then(ak b 0).bind fun e=>(qpe fu c e).bind fun d=>(ak b 0).bind fun f=>(qo9 fu d f).bind fun g=>some g else qoy fu c b
def qox:gx:=fun b a=>bif(a.length:Int)==1 then(ak a 0).bind fun c=>qfy fu b a (decide (c<128)) else qfy fu b a false
def qfx:tz:=fun b c a=>bif a then some b else qox fu b c
def xi(a:Bs)(b:Bs):Option (Bs):=bif a==([]:Bs) then qfx fu a b true else qfx fu a b (b==([]:Bs))
abbrev up:=Int×(Int×Int)×wV
abbrev qwh:=Int->Int->Int->(Int×Int)->wV->Int->Int->Int->Bs->Option up
abbrev qwg:=Int->Int->(Int×Int)->Int->Int->Int->(List Bs)->wV->Option up
abbrev qef:=Bs->Int->(Int×Int)->wV->Option up
def qx5(l:qwh):qwh:=fun j f a h b e d c i=>bif decide (a<f) then bif decide (0<=a/\a.toNat<b.length) then(b[a.toNat]?).bind fun m=>(qbg fu m.2 e d c i).bind fun g=>(xi fu g.1 [32,9]).bind fun k=>bif decide (4000<(k.length:Int)) then(ay 1 a).bind fun q=>some (0,(q,[])) else bif decide (0<=a/\a.toNat<b.length) then(b[a.toNat]?).bind fun p=>l j f (af (a+1)) h (List.set b a.toNat (p.1,k)) g.2.1 g.2.2.1 g.2.2.2.1 g.2.2.2.2 else none else none else(bq).bind fun o=>some (j,(o,b))
def qmj(fu:Nat):Nat->qwh|0=>fun _ _ _ _ _ _ _ _ _=>none|n+1=>qx5 fu (qmj fu n)
def qx4(p:qwg):qwg:=fun j e h c d b g a=>bif decide (0<e) then bif decide (0<=(0:Int)/\(0:Int).toNat<a.length) then(a[(0:Int).toNat]?).bind fun m=>(qbf fu m.2 c d b g).bind fun f=>(xi fu f.1 [32,9]).bind fun i=>bif decide (4000<(i.length:Int)) then(ay 1 0).bind fun o=>some (0,(o,[])) else bif decide (0<=(0:Int)/\(0:Int).toNat<a.length) then(a[(0:Int).toNat]?).bind fun k=>qmj fu fu j e 1 h (List.set a ((0:Int).toNat) (k.1,i)) f.2.1 f.2.2.1 f.2.2.2.1 f.2.2.2.2 else none else none else(bq).bind fun l=>some (j,(l,a))
def qmi(fu:Nat):Nat->qwg|0=>fun _ _ _ _ _ _ _ _=>none|n+1=>qx4 fu (qmi fu n)
def qff:Int->(Int×Int)->wV->Option up:=fun e c a=>bif decide (60<(a.length:Int)) then(ay 2 (-2)).bind fun d=>some (0,(d,[])) else(qok ([([0]:Bs),([32]:Bs),([13]:Bs),([32]:Bs)]:List Bs)).bind fun b=>qmi fu fu e (a.length:Int) c b.1 b.2.1 b.2.2.1 b.2.2.2 a
def qx6(f:qef):Bs->Int->Bs->Int->(Int×Int)->wV->Option up:=fun e d g h b a=>(qx7 fu g).bind fun c=>bif !c.2 then qff fu d b a else bif decide (List.length (a++([c.1]:List (Bs×Bs)))<=aq) then f e (af (d+h)) b (a++([c.1]:List (Bs×Bs))) else none
def qmh(g:qef):Bs->Int->Bs->Int->Bool->(Int×Int)->wV->Option up:=fun e f c i d b a=>bif d then bif decide (0<=af ((a.length:Int)-1)/\(af ((a.length:Int)-1)).toNat<a.length) then(a[(af ((a.length:Int)-1)).toNat]?).bind fun h=>bif decide (h.2.length+c.length<=bf) then bif decide (0<=af ((a.length:Int)-1)/\(af ((a.length:Int)-1)).toNat<a.length) then(a[(af ((a.length:Int)-1)).toNat]?).bind fun j=>g e (af (f+i)) b (List.set a ((af ((a.length:Int)-1)).toNat) (j.1,h.2++c)) else none else none else none else qx6 fu g e f c i b a
def qx3(f:qef):qef:=fun e c b a=>bif decide (c<(e.length:Int)) then bif decide (0<=c/\c<=(e.length:Int)) then(qx8 (List.drop c.toNat e)).bind fun d=>bif d.1==([]:Bs) then qff fu (af (c+d.2)) b a else(ak d.1 0).bind fun h=>(gl h).bind fun g=>bif g then qmh fu f e c d.1 d.2 (decide (0<(a.length:Int))) b a else qmh fu f e c d.1 d.2 false b a else none else qff fu c b a
def qmg(fu:Nat):Nat->qef|0=>fun _ _ _ _=>none|n+1=>qx3 fu (qmg fu n)
def qmf(a:Bs):Option up:=bif decide (12000<(a.length:Int)) then(ay 1 (-1)).bind fun b=>some (0,(b,[])) else qmg fu fu a 0 (0,0) []
abbrev zbp:=Bs->Int->Bool->Bs->Option (Bs)
abbrev nd:=Bs->Int->Bs->Option (Bs)
def qne(fu:Nat)(e:nd):zbp:=fun b d c a=>bif c then bif decide (List.length (a++([13,10]:Bs))<=aq) then e b (af (d+1)) (a++([13,10]:Bs)) else none else(ak b d).bind fun f=>bif decide (List.length (a++([f]:Bs))<=aq) then e b (af (d+1)) (a++([f]:Bs)) else none
def qfk(d:nd):zbp:=fun b c e a=>bif e then bif decide (List.length (a++([13,10]:Bs))<=aq) then d b (af ((af (c+1))+1)) (a++([13,10]:Bs)) else none else(ak b c).bind fun g=>bif g==13 then qne fu d b c true a else(ak b c).bind fun f=>qne fu d b c (f==10) a
def qzf(d:nd):nd:=fun b c a=>bif decide (c<(b.length:Int)) then(ak b c).bind fun f=>bif f==13 then bif decide ((af (c+1))<(b.length:Int)) then(ak b (af (c+1))).bind fun e=>qfk fu d b c (e==10) a else qfk fu d b c false a else qfk fu d b c false a else some a
def qnd(fu:Nat):Nat->nd|0=>fun _ _ _=>none|n+1=>qzf fu (qnd fu n)
def qze(a:Bs):Option (Bs):=qnd fu fu a 0 []
abbrev zcv:=(wV×Bs)×(Int×Int)
def qzb(b:Bs):Option zcv:=(qmf fu b).bind fun a=>(cy a.2.1).bind fun e=>bif e then some (([],[]),a.2.1) else bif decide (0<=a.1/\a.1<=(b.length:Int)) then(qze fu (List.drop a.1.toNat b)).bind fun c=>(qfj fu (a.2.2,c)).bind fun d=>(cy d).bind fun f=>bif f then some (([],[]),d) else(bq).bind fun g=>some ((a.2.2,c),g) else none
abbrev qwi:=Int->Int->Bs->Option (Bs)
def wv(fu:Nat)(d:qwi):qwi:=fun c a b=>bif decide (a<c) then bif decide (0<=a/\a.toNat<b.length) then(b[a.toNat]?).bind fun e=>bif decide (65<=e) then bif decide (e<=90) then bif decide (0<=a/\a.toNat<b.length) then(b[a.toNat]?).bind fun f=>d c (af (a+1)) (List.set b a.toNat ((e+97)-65)) else none else d c (af (a+1)) b else d c (af (a+1)) b else none else some b
def ox(fu:Nat):Nat->qwi|0=>fun _ _ _=>none|n+1=>wv fu (ox fu n)
def qp(a:Bs):Option (Bs):=bif decide (a.length<=maxLen) then ox fu fu (a.length:Int) 0 a else none
def dj(a:Bs)(b:Bs):Option Bool:=bif(a.length:Int)==(b.length:Int) then(qp fu a).bind fun d=>(qp fu b).bind fun c=>some (d==c) else some false
def q02:gx:=fun b c=>(xl fu c).bind fun a=>bif decide (a.1.length=List.length (List.replicate 256 false))&&decide (a.1.length=256) then bif a.2 then(qf2 fu b a.1).bind fun e=>some e.1 else(qpb fu b c).bind fun d=>some d else none
def qot:tz:=fun b c a=>bif a then(ak c 0).bind fun e=>(qo9 fu b e).bind fun d=>some d else q02 fu b c
def q01:gx:=fun b a=>bif(a.length:Int)==1 then(ak a 0).bind fun c=>qot fu b a (decide (c<128)) else qot fu b a false
def qos:tz:=fun b c a=>bif a then some b else q01 fu b c
def q00(a:Bs)(b:Bs):Option (Bs):=bif a==([]:Bs) then qos fu a b true else qos fu a b (b==([]:Bs))
def xc(a:Bs):Option (Bs):=(q00 fu a [32,9]).bind fun b=>some b
def xd(a:UInt8):Option Bool:=bif decide (33<=a) then bif decide (a<=126) then(qbl [40,41,60,62,64,44,59,58,92,34,47,91,93,63,61,42,37,39] a).bind fun b=>some (decide (b<0)) else some false else some false
abbrev gh:=Int->Bs->Option (Bs×Bs)
abbrev qwj:=Int->Bool->Bs->Option (Bs×Bs)
def qy1(fu:Nat)(a:gh):gh:=fun b c=>a (af (b+1)) c
def qm7(d:gh):qwj:=fun a c b=>bif c then qy1 fu d a b else bif decide (0<=a/\a<=(b.length:Int)) then bif decide (0<=a/\a<=(b.length:Int)) then some (List.take a.toNat b,List.drop a.toNat b) else none else none
def qy0(c:gh):gh:=fun a b=>bif decide (a<(b.length:Int)) then(ak b a).bind fun e=>(xd e).bind fun d=>qm7 fu c a d b else qm7 fu c a false b
def qm6(fu:Nat):Nat->gh|0=>fun _ _=>none|n+1=>qy0 fu (qm6 fu n)
def qm5(a:Bs):Option (Bs×Bs):=(xc fu a).bind fun b=>qm6 fu fu 0 b
def qbc(d:UInt8)(c:Bs):Option (Bool×Bs):=(xc fu c).bind fun a=>bif a==([]:Bs) then some (false,a) else(ak a 0).bind fun b=>bif b != d then some (false,a) else bif decide (0<=(1:Int)/\1<=(a.length:Int)) then some (true,List.drop (1:Int).toNat a) else none
def qyz(a:UInt8):Option Bool:=(xd a).bind fun b=>bif b then some true else some (a==42)
def qy4(fu:Nat)(a:gh):gh:=fun b c=>a (af (b+1)) c
def qm9(d:gh):qwj:=fun a c b=>bif c then qy4 fu d a b else bif decide (0<=a/\a<=(b.length:Int)) then bif decide (0<=a/\a<=(b.length:Int)) then some (List.take a.toNat b,List.drop a.toNat b) else none else none
def qy3(c:gh):gh:=fun a b=>bif decide (a<(b.length:Int)) then(ak b a).bind fun e=>(qyz e).bind fun d=>qm9 fu c a d b else qm9 fu c a false b
def qm8(fu:Nat):Nat->gh|0=>fun _ _=>none|n+1=>qy3 fu (qm8 fu n)
def qy2(a:Bs):Option (Bs×Bs):=(xc fu a).bind fun b=>qm8 fu fu 0 b
def qy9(a:UInt8):Option Bool:=(xd a).bind fun b=>bif b then some true else bif a==37 then some true else bif a==39 then some true else some (a==42)
def qy7(fu:Nat)(a:gh):gh:=fun b c=>a (af (b+1)) c
def qnb(d:gh):qwj:=fun a c b=>bif c then qy7 fu d a b else bif decide (0<=a/\a<=(b.length:Int)) then bif decide (0<=a/\a<=(b.length:Int)) then some (List.take a.toNat b,List.drop a.toNat b) else none else none
def qy6(c:gh):gh:=fun a b=>bif decide (a<(b.length:Int)) then(ak b a).bind fun e=>(qy9 e).bind fun d=>qnb fu c a d b else qnb fu c a false b
def qna(fu:Nat):Nat->gh|0=>fun _ _=>none|n+1=>qy6 fu (qna fu n)
def qy5(a:Bs):Option (Bs×Bs):=(xc fu a).bind fun b=>qna fu fu 0 b
abbrev qwl:=Int->Bs->Bs->Option (Bs×Bool×Bs)
def qza(fu:Nat)(f:qwl):qwl:=fun c b a=>bif decide (c<(b.length:Int)) then(ak b c).bind fun d=>bif d==34 then bif decide (0<=af (c+1)/\af (c+1)<=(b.length:Int)) then some (a,(true,List.drop (af (c+1)).toNat b)) else none else bif d==92 then bif(af (c+1))==(b.length:Int) then some (([]:Bs),(false,b)) else(ak b (af (c+1))).bind fun e=>bif decide (List.length (a++([e]:Bs))<=aq) then f (af ((af (c+1))+1)) b (a++([e]:Bs)) else none else bif decide (List.length (a++([d]:Bs))<=aq) then f (af (c+1)) b (a++([d]:Bs)) else none else some (([]:Bs),(false,b))
def qnc(fu:Nat):Nat->qwl|0=>fun _ _ _=>none|n+1=>qza fu (qnc fu n)
def qy8(c:Bs):Option (Bs×Bool×Bs):=(qbc fu 34 c).bind fun a=>bif !a.1 then(qy5 fu a.2).bind fun b=>some (b.1,(true,b.2)) else qnc fu fu 0 a.2 []
def xa(a:Bs)(b:Bs):Option Bool:=bif decide ((b.length:Int)<=(a.length:Int)) then bif decide (0<=af ((a.length:Int)-(b.length:Int))/\af ((a.length:Int)-(b.length:Int))<=(a.length:Int)) then some ((List.drop (af ((a.length:Int)-(b.length:Int))).toNat a)==b) else none else some false
def qya(a:Bs)(b:Bs):Option (Bs×Bool):=(xa a b).bind fun c=>bif !c then some (a,false) else bif decide (0<=af ((a.length:Int)-(b.length:Int))/\af ((a.length:Int)-(b.length:Int))<=(a.length:Int)) then some (List.take (af ((a.length:Int)-(b.length:Int))).toNat a,true) else none
def q0s(a:Bs)(c:Bs):Option (Bs×Bool):=(qya a c).bind fun b=>some b
abbrev zcu:=(Bs×Int×Bool×Bs)×Bool×Bs
def qyy(g:Bs):Option zcu:=(qy2 fu g).bind fun f=>(qbc fu 61 f.2).bind fun e=>bif !e.1 then some ((([]:Bs),(0,(false,([]:Bs)))),(false,e.2)) else(qy8 fu e.2).bind fun a=>(ug f.1 [42]).bind fun b=>bif b.2.2 then(q0s b.2.1 [42]).bind fun c=>(qaq c.1 1099511627776).bind fun d=>bif a.2.1 then bif d.2 then some ((b.1,(d.1,(c.2,a.1))),(!(b.1==([]:Bs)),a.2.2)) else some ((b.1,(d.1,(c.2,a.1))),(false,a.2.2)) else some ((b.1,(d.1,(c.2,a.1))),(false,a.2.2)) else bif a.2.1 then some ((b.1,((-1),(false,a.1))),(!(b.1==([]:Bs)),a.2.2)) else some ((b.1,((-1),(false,a.1))),(false,a.2.2))
abbrev zct:=Bool×(Bs×Int×Bool×Bs)
def qmw(b:Bs×Int×Bool×Bs)(a:Bs×Int×Bool×Bs):Option zct:=(dj fu b.1 a.1).bind fun c=>some (c,a)
abbrev q1z:=Int×(Bs×Int×Bool×Bs)
abbrev qwn:=(List (Bs×Int×Bool×Bs))->Int->Int->(Bs×Int×Bool×Bs)->Option q1z
def q0p(g:qwn):qwn:=fun c d a e=>bif decide (a<d) then(ak c a).bind fun f=>(qmw fu f e).bind fun b=>bif b.1 then some (a,b.2) else g c d (af (a+1)) b.2 else some ((-1),e)
def qoa(fu:Nat):Nat->qwn|0=>fun _ _ _ _=>none|n+1=>q0p fu (qoa fu n)
def q0o(a:List (Bs×Int×Bool×Bs))(b:Bs×Int×Bool×Bs):Option q1z:=qoa fu fu a (a.length:Int) 0 b
abbrev zc6:=Bool×(Bs×Int×Bool×Bs)
def q0g(b:List (Bs×Int×Bool×Bs))(c:Bs×Int×Bool×Bs):Option zc6:=(q0o fu b c).bind fun a=>some (decide (0<=a.1),a.2)
abbrev zbv:=UInt8->Bool->Option (UInt8×Bool)
def qk3:zbv:=fun a b=>bif b then some ((a-65)+10,true) else bif decide (97<=a) then bif decide (a<=102) then some ((a-97)+10,true) else some (0,false) else some (0,false)
def qk2:zbv:=fun a b=>bif b then some (a-48,true) else bif decide (65<=a) then qk3 a (decide (a<=70)) else qk3 a false
def qk1(a:UInt8):Option (UInt8×Bool):=bif decide (48<=a) then qk2 a (decide (a<=57)) else qk2 a false
def oy(b:Bs):Option (UInt8×Bool):=bif decide ((b.length:Int)<2) then some (0,false) else(ak b 0).bind fun d=>(qk1 d).bind fun a=>(ak b 1).bind fun e=>(qk1 e).bind fun c=>bif a.2 then some ((tj a.1 (min (4:Int).toNat 8))|||c.1,c.2) else some ((tj a.1 (min (4:Int).toNat 8))|||c.1,false)
def qyv(fu:Nat)(e:nd):nd:=fun c b a=>bif decide (b<(c.length:Int)) then(ak c b).bind fun h=>bif h==37 then bif decide (0<=af (b+1)/\af (b+1)<=(c.length:Int)) then(oy (List.drop (af (b+1)).toNat c)).bind fun d=>bif d.2 then bif decide (List.length (a++([d.1]:Bs))<=aq) then e c (af ((af (b+2))+1)) (a++([d.1]:Bs)) else none else(ak c b).bind fun g=>bif decide (List.length (a++([g]:Bs))<=aq) then e c (af (b+1)) (a++([g]:Bs)) else none else none else(ak c b).bind fun f=>bif decide (List.length (a++([f]:Bs))<=aq) then e c (af (b+1)) (a++([f]:Bs)) else none else some a
def qm2(fu:Nat):Nat->nd|0=>fun _ _ _=>none|n+1=>qyv fu (qm2 fu n)
def qm1:Bs->Option (Bs):=fun a=>qm2 fu fu a 0 []
def qfi:Bs->Bool->Option (Bs):=fun b a=>bif a then bif decide (0<=(6:Int)/\6<=(b.length:Int)) then qm1 fu (List.drop (6:Int).toNat b) else none else qm1 fu b
def qyu(a:Bs×Int×Bool×Bs):Option (Bs):=bif !a.2.2.1 then some a.2.2.2 else bif a.2.1==0 then bif decide (6<=(a.2.2.2.length:Int)) then bif decide (0<=(6:Int)/\6<=(a.2.2.2.length:Int)) then(dj fu (List.take (6:Int).toNat a.2.2.2) [117,116,102,56,39,39]).bind fun b=>qfi fu a.2.2.2 b else none else qfi fu a.2.2.2 false else qfi fu a.2.2.2 false
abbrev qwq:=Int->Int->(Bs×Bs)->(Bs×Bs)->(List (Bs×Int×Bool×Bs))->Option ((Bs×Bs)×Bool)
def qyj(i:qwq):qwq:=fun d a e b c=>bif decide (a<d) then bif decide (0<=a/\a.toNat<c.length) then(c[a.toNat]?).bind fun f=>bif f.2.1 != a then some (b,false) else(qyu fu f).bind fun g=>bif decide (b.2.length+g.length<=bf) then i d (af (a+1)) e (b.1,b.2++g) c else none else none else(qbp b.2 [239,191,189]).bind fun h=>some ((b.1,h),true)
def qmt(fu:Nat):Nat->qwq|0=>fun _ _ _ _ _=>none|n+1=>qyj fu (qmt fu n)
def qyi(a:List (Bs×Int×Bool×Bs)):Option ((Bs×Bs)×Bool):=bif decide (0<=(0:Int)/\(0:Int).toNat<a.length) then(a[(0:Int).toNat]?).bind fun b=>bif decide (0<=(0:Int)/\(0:Int).toNat<a.length) then(a[(0:Int).toNat]?).bind fun e=>bif decide (0<=(0:Int)/\(0:Int).toNat<a.length) then(a[(0:Int).toNat]?).bind fun d=>bif decide (d.2.1<0) then some ((b.1,e.2.2.2),(a.length:Int)==1) else(qbh a).bind fun c=>qmt fu fu (c.length:Int) 0 (([]:Bs),([]:Bs)) (b.1,([]:Bs)) c else none else none else none
abbrev qgf:=Bool×wV
abbrev qkk:=(List (Bs×Int×Bool×Bs))->(List (Bs×Int×Bool×Bs))->Int->Int->(List (Bs×Int×Bool×Bs))->Int->Int->(Bs×Int×Bool×Bs)->wV->(List (Bs×Int×Bool×Bs))->Option qgf
abbrev qam:=(List (Bs×Int×Bool×Bs))->(List (Bs×Int×Bool×Bs))->Int->Int->wV->Option qgf
def qmz(fu:Nat)(l:qam)(k:qkk):(List (Bs×Int×Bool×Bs))->(List (Bs×Int×Bool×Bs))->Int->Int->(List (Bs×Int×Bool×Bs))->Int->Int->(Bs×Int×Bool×Bs)->(List (Bs×Int×Bool×Bs))->wV->Option qgf:=fun j i a e c b f g h d=>k j i a e c b (af (f+1)) g d h
def qyq(m:qam)(p:qkk):qkk:=fun j i d g f e b h c a=>bif decide (b<e) then(ak f b).bind fun o=>(qmw fu o h).bind fun l=>bif l.1 then bif decide (List.length (a++([o]:List (Bs×Int×Bool×Bs)))<=aq) then qmz fu m p j i d g f e b l.2 (a++([o]:List (Bs×Int×Bool×Bs))) c else none else qmz fu m p j i d g f e b l.2 a c else(qyi fu a).bind fun k=>bif !k.2 then some (false,[]) else bif decide (List.length (c++([(h.1,k.1.2)]:List (Bs×Bs)))<=aq) then m j i d (af (g+1)) (c++([(h.1,k.1.2)]:List (Bs×Bs))) else none
def qmy(fu:Nat)(a:qam):Nat->qkk|0=>fun _ _ _ _ _ _ _ _ _ _=>none|n+1=>qyq fu a (qmy fu a n)
def qyp(g:qam):qam:=fun e d b a c=>bif decide (a<b) then(ak d a).bind fun h=>bif decide (0<=a/\a<=(e.length:Int)) then(q0g fu (List.take a.toNat e) h).bind fun f=>bif f.1 then g e d b (af (a+1)) c else qmy fu g fu e d b a e (e.length:Int) 0 f.2 c [] else none else some (true,c)
def qmx(fu:Nat):Nat->qam|0=>fun _ _ _ _ _=>none|n+1=>qyp fu (qmx fu n)
def qyo(a:List (Bs×Int×Bool×Bs)):Option qgf:=qmx fu fu a a (a.length:Int) 0 []
abbrev qgg:=(Bs×Bs×Bool) ⊕ (Bs×Bs×Bool×wV)
abbrev qwr:=Bs->Bs->Bs->Bs->Bs->(List (Bs×Int×Bool×Bs))->Option qgg
def qys(k:qwr):qwr:=fun c e h b a d=>(qbc fu 59 h).bind fun g=>bif g.1 then(qyy fu g.2).bind fun f=>bif !f.2.1 then some (.inl (b,(a,false))) else bif decide (List.length (d++([f.1]:List (Bs×Int×Bool×Bs)))<=aq) then k c e f.2.2 b a (d++([f.1]:List (Bs×Int×Bool×Bs))) else none else(xc fu g.2).bind fun j=>(qyo fu d).bind fun i=>bif i.1 then some (.inr (b,(a,(j==([]:Bs),i.2)))) else some (.inr (b,(a,(false,i.2))))
def qm0(fu:Nat):Nat->qwr|0=>fun _ _ _ _ _ _=>none|n+1=>qys fu (qm0 fu n)
def qyt:Bs->Bs->Bs->Bs->Bs->Option qgg:=fun a c e d b=>qm0 fu fu a c e d b []
def qfh:Bool->Bs->Bs->Bs->Bs->Bs->Option qgg:=fun e c d f b a=>bif e then some (.inl (b,(a,false))) else qyt fu c d f b a
def qyr(d:Bs):Option qgg:=(qm5 fu d).bind fun b=>(qbc fu 47 b.2).bind fun c=>(qm5 fu c.2).bind fun a=>bif b.1==([]:Bs) then qfh fu true [] [] a.2 b.1 a.1 else bif !c.1 then qfh fu true [] [] a.2 b.1 a.1 else qfh fu (a.1==([]:Bs)) [] [] a.2 b.1 a.1
def qw5(fu:Nat)(e:gg):gg:=fun b c a=>bif decide (a<c) then(ak b a).bind fun f=>(xd f).bind fun d=>bif !d then some false else e b c (af (a+1)) else some true
def qkw(fu:Nat):Nat->gg|0=>fun _ _ _=>none|n+1=>qw5 fu (qkw fu n)
def qw4(a:Bs):Option Bool:=qkw fu fu a (a.length:Int) 0
def qbd(a:Bs):Option Bool:=bif !(a==([]:Bs)) then bif decide ((a.length:Int)<=60) then(qw4 fu a).bind fun b=>some b else some false else some false
def qyf(b:Bs×Bs)(a:Bs×Bs):Option (Bool×(Bs×Bs)):=(dj fu b.1 a.1).bind fun c=>some (c,a)
abbrev qws:=wV->Int->Int->(Bs×Bs)->Option (Int×(Bs×Bs))
def q0m(g:qws):qws:=fun c d a e=>bif decide (a<d) then(ak c a).bind fun f=>(qyf fu f e).bind fun b=>bif b.1 then some (a,b.2) else g c d (af (a+1)) b.2 else some ((-1),e)
def qn7(fu:Nat):Nat->qws|0=>fun _ _ _ _=>none|n+1=>q0m fu (qn7 fu n)
def q0l(a:List (Bs×Bs))(b:Bs×Bs):Option (Int×(Bs×Bs)):=qn7 fu fu a (a.length:Int) 0 b
def q0f(b:List (Bs×Bs))(c:Bs×Bs):Option (Bool×(Bs×Bs)):=(q0l fu b c).bind fun a=>some (decide (0<=a.1),a.2)
abbrev qkm:=wV->Int->Int->(Bs×Bs×wV)->(Int×Int)->Option ((Int×Int))
def qms(k:qkm):(Int->wV->Int->Int->Bool->(Bs×Bs×wV)->(Int×Int)->(Bs×Bs)->Option ((Int×Int))):=fun a f c e h b i d=>bif h then(ay 10 a).bind fun l=>some l else bif decide (0<=a/\a<=(b.2.2.length:Int)) then(q0f fu (List.take a.toNat b.2.2) d).bind fun g=>bif g.1 then(ay 7 a).bind fun o=>some o else bif decide (500<(g.2.2.length:Int)) then(ay 1 a).bind fun p=>some p else(gy g.2.2).bind fun j=>bif !j then(ay 5 a).bind fun m=>some m else k f c (af (e+1)) b i else none
def qyg(g:qkm):qkm:=fun c b a d e=>bif decide (a<b) then(ak c a).bind fun f=>(qbd fu f.1).bind fun i=>bif !i then qms fu g a c b a true d e f else qms fu g a c b a (decide (20<(f.1.length:Int))) d e f else(bq).bind fun h=>some h
def qmr(fu:Nat):Nat->qkm|0=>fun _ _ _ _ _=>none|n+1=>qyg fu (qmr fu n)
def qyh:((Bs×Bs×wV)->(Int×Int)->Option ((Int×Int))):=fun a b=>bif decide (60<(a.2.2.length:Int)) then(ay 2 (-3)).bind fun c=>some c else qmr fu fu a.2.2 (a.2.2.length:Int) 0 a b
def qmq:(Bool->(Bs×Bs×wV)->(Int×Int)->Option ((Int×Int))):=fun a b c=>bif a then(ay 10 (-2)).bind fun d=>some d else qyh fu b c
def qbb(a:Bs×Bs×wV):Option ((Int×Int)):=(qbd fu a.1).bind fun c=>bif !c then qmq fu true a (0,0) else(qbd fu a.2.1).bind fun b=>qmq fu (!b) a (0,0)
abbrev zcs:=(Bs×Bs×Int×Int) ⊕ (Bs×Bs×Int×Int×wV)
def qyd(i:Bs):Option zcs:=bif decide (4000<(i.length:Int)) then(ay 1 (-1)).bind fun k=>some (.inl (([]:Bs),(([]:Bs),k))) else(qyr fu i).bind fun j=>cm j (fun b=>bif !b.2.2 then(ay 11 (-5)).bind fun m=>some (.inl (([]:Bs),(([]:Bs),m))) else(qbb fu (b.1,(b.2.1,[]))).bind fun h=>(cy h).bind fun l=>bif l then(ay h.1 (-6)).bind fun p=>some (.inl (([]:Bs),(([]:Bs),p))) else(bq).bind fun o=>some (.inl (b.1,(b.2.1,o)))) (fun a=>bif !a.2.2.1 then(ay 11 (-5)).bind fun f=>some (.inl (([]:Bs),(([]:Bs),f))) else(qbb fu (a.1,(a.2.1,a.2.2.2))).bind fun d=>(cy d).bind fun e=>bif e then(ay d.1 (-6)).bind fun g=>some (.inl (([]:Bs),(([]:Bs),g))) else(bq).bind fun c=>some (.inr (a.1,(a.2.1,(c.1,(c.2,a.2.2.2))))))
abbrev q1v:=(Bs×Bs×Int×Bool) ⊕ (Bs×Bs×Int×Bool×wV)
abbrev qej:=wV->Int->wV->Int->Int->Bs->Bs->Option q1v
def qnj(fu:Nat)(g:qej):qej:=fun f h c d e a b=>g f h c d (af (e+1)) a b
def qzm(j:qej):qej:=fun h f d e c a b=>bif decide (c<e) then(ak d c).bind fun k=>(dj fu k.1 [67,111,110,116,101,110,116,45,84,121,112,101]).bind fun m=>bif m then bif decide (0<=f) then some (.inl (([]:Bs),(([]:Bs),(0,false)))) else qnj fu j h c d e c a b else qnj fu j h f d e c a b else bif decide (f<0) then some (.inl (([]:Bs),(([]:Bs),(0,false)))) else(ak h f).bind fun l=>(qyd fu l.2).bind fun q=>cm q (fun i=>(cy i.2.2).bind fun o=>some (.inl (i.1,(i.2.1,(f,!o))))) (fun g=>(cy (g.2.2.1,g.2.2.2.1)).bind fun p=>some (.inr (g.1,(g.2.1,(f,(!p,g.2.2.2.2))))))
def qni(fu:Nat):Nat->qej|0=>fun _ _ _ _ _ _ _=>none|n+1=>qzm fu (qni fu n)
def qfl(a:List (Bs×Bs)):Option q1v:=qni fu fu a (-1) a (a.length:Int) 0 [] ([]:Bs)
abbrev qwv:=Bs->wV->Int->Int->(Int×Int)->Option (Bs×Bool×(Int×Int))
def qyc(i:qwv):qwv:=fun e c b a d=>bif decide (a<b) then(ak c a).bind fun f=>(dj fu f.1 e).bind fun h=>bif h then(bq).bind fun g=>some (f.2,(true,g)) else i e c b (af (a+1)) d else(bq).bind fun j=>some (([]:Bs),(false,j))
def qmo(fu:Nat):Nat->qwv|0=>fun _ _ _ _ _=>none|n+1=>qyc fu (qmo fu n)
def qmn(a:Bs×Bs×wV)(d:Bs):Option (Bs×Bool×(Int×Int)):=(qbb fu a).bind fun b=>(cy b).bind fun c=>bif c then some (([]:Bs),(false,b)) else qmo fu fu d a.2.2 (a.2.2.length:Int) 0 (0,0)
def qzr(a:UInt8):Option Bool:=bif decide (32<=a) then some (decide (a<=126)) else some false
def qw7(fu:Nat)(e:gg):gg:=fun b c a=>bif decide (a<c) then(ak b a).bind fun f=>(qzr f).bind fun d=>bif !d then some false else e b c (af (a+1)) else some true
def qkx(fu:Nat):Nat->gg|0=>fun _ _ _=>none|n+1=>qw7 fu (qkx fu n)
def qw6(a:Bs):Option Bool:=qkx fu fu a (a.length:Int) 0
def qbi(a:Bs)(c:Bs):Option Bool:=(xa a c).bind fun b=>some b
def qzs:Bs->Bs->wV->Option (Bs×Bool):=fun b c d=>(qmn fu (b,(c,d)) [98,111,117,110,100,97,114,121]).bind fun a=>bif !(a.1==([]:Bs)) then bif decide ((a.1.length:Int)<=60) then(qw6 fu a.1).bind fun f=>bif f then(qbi a.1 [32]).bind fun e=>bif a.2.1 then some (a.1,!e) else some (a.1,false) else bif a.2.1 then some (a.1,false) else some (a.1,false) else bif a.2.1 then some (a.1,false) else some (a.1,false) else bif a.2.1 then some (a.1,false) else some (a.1,false)
def qbe:Bool->Bs->Bs->wV->Option (Bs×Bool):=fun c a b d=>bif c then some (([]:Bs),false) else qzs fu a b d
def qzq(e:List (Bs×Bs)):Option (Bs×Bool):=(qfl fu e).bind fun c=>cm c (fun b=>bif !b.2.2.2 then qbe fu true b.1 b.2.1 [] else(dj fu b.1 [109,117,108,116,105,112,97,114,116]).bind fun f=>qbe fu (!f) b.1 b.2.1 []) (fun a=>bif !a.2.2.2.1 then qbe fu true a.1 a.2.1 a.2.2.2.2 else(dj fu a.1 [109,117,108,116,105,112,97,114,116]).bind fun d=>qbe fu (!d) a.1 a.2.1 a.2.2.2.2)
def qz2(a:Bs):Option (Bs):=some a
def qz1(c:Bs)(a:Bs):Option Int:=(qou fu c [32,9]).bind fun b=>bif decide (List.length ([45,45]:Bs)+a.length<=bf) then bif b==(([45,45]:Bs)++a) then some 1 else bif decide (List.length ([45,45]:Bs)+a.length<=bf) then bif decide (List.length (([45,45]:Bs)++a)+List.length ([45,45]:Bs)<=bf) then bif b==((([45,45]:Bs)++a)++[45,45]) then some 2 else some 0 else none else none else none
abbrev zc1:=(Bs×Bs×Int×(List Bs)×(List Bs)) ⊕ (Bs×Bs×Int×(List Bs))
def qnl(b:Int)(f:Bs)(c:Bs)(d:Bs)(a:Int)(g:List Bs)(e:List Bs):Option zc1:=(qz1 fu f d).bind fun h=>bif h==0 then some (.inl (c,(d,(a,(g,e))))) else bif decide (0<=a) then bif decide (0<=a/\a<=(if af (b-2)>a then af (b-2) else a)/\(if af (b-2)>a then af (b-2) else a)<=(c.length:Int)) then bif decide (List.length (e++([List.take ((if af (b-2)>a then af (b-2) else a).toNat-a.toNat) (List.drop a.toNat c)]:List Bs))<=aq) then bif h==2 then some (.inr (c,(d,(a,e++([List.take ((if af (b-2)>a then af (b-2) else a).toNat-a.toNat) (List.drop a.toNat c)]:List Bs))))) else some (.inl (c,(d,(if(c.length:Int)<af ((af (b+(f.length:Int)))+2) then(c.length:Int) else af ((af (b+(f.length:Int)))+2),(g,e++([List.take ((if af (b-2)>a then af (b-2) else a).toNat-a.toNat) (List.drop a.toNat c)]:List Bs)))))) else none else none else bif h==2 then some (.inr (c,(d,(a,e)))) else some (.inl (c,(d,(if(c.length:Int)<af ((af (b+(f.length:Int)))+2) then(c.length:Int) else af ((af (b+(f.length:Int)))+2),(g,e)))))
abbrev q1w:=(Bs×Bs×Bs×Int×(List Bs)) ⊕ (Bs×Bs×Bs×Int×(List Bs)×(List Bs))
abbrev qwx:=Int->Bs->Bs->Bs->Int->(List Bs)->(List Bs)->Option q1w
def qz4(k:qwx):qwx:=fun a b i j h c d=>bif decide (a<(b.length:Int)) then bif decide (0<=a/\a<=(b.length:Int)) then bif decide (0<List.length ([13,10]:Bs)) then(ua (List.drop a.toNat b) ([13,10]:Bs)).bind fun g=>bif decide (0<=g) then bif decide (0<=a/\a<=af (a+g)/\af (a+g)<=(b.length:Int)) then(qnl fu a (List.take ((af (a+g)).toNat-a.toNat) (List.drop a.toNat b)) i j h c d).bind fun o=>cm o (fun f=>k (af ((af (a+g))+2)) b f.1 f.2.1 f.2.2.1 f.2.2.2.1 f.2.2.2.2) (fun p=>some (.inl (b,p))) else none else bif decide (0<=a/\a<=(b.length:Int)/\(b.length:Int)<=(b.length:Int)) then(qnl fu a (List.take ((b.length:Int).toNat-a.toNat) (List.drop a.toNat b)) i j h c d).bind fun l=>cm l (fun e=>k (b.length:Int) b e.1 e.2.1 e.2.2.1 e.2.2.2.1 e.2.2.2.2) (fun m=>some (.inl (b,m))) else none else none else none else some (.inr (b,(i,(j,(h,(c,d))))))
def qnv(fu:Nat):Nat->qwx|0=>fun _ _ _ _ _ _ _=>none|n+1=>qz4 fu (qnv fu n)
def qz3(f:Bs)(b:Bs)(c:Bs)(e:Int)(d:List Bs)(a:List Bs):Option q1w:=qnv fu fu 0 f b c e d a
def qzu(b:Bs)(f:Bs):Option ((List Bs)):=(qz2 b).bind fun e=>(qz3 fu e b f (-1) [] []).bind fun d=>cm d (fun c=>some c.2.2.2.2) (fun a=>bif decide (0<=a.2.2.2.1) then bif decide (0<=a.2.2.2.1/\a.2.2.2.1<=(a.2.1.length:Int)) then bif decide (List.length (a.2.2.2.2.2++([List.drop a.2.2.2.1.toNat a.2.1]:List Bs))<=aq) then some (a.2.2.2.2.2++([List.drop a.2.2.2.1.toNat a.2.1]:List Bs)) else none else none else some a.2.2.2.2.2)
def qfo(e:List (Bs×Bs))(c:Bs)(d:Int):Option ((List Bs)):=(qzq fu e).bind fun a=>bif !a.2 then some [] else bif decide (8<=d) then some [] else(qzu fu c a.1).bind fun b=>some b
def qfm(a:Bs×Bs):Option Bool:=(dj fu a.1 [98,111,117,110,100,97,114,121]).bind fun b=>some b
abbrev qw0:=wV->Int->Int->Option Int
def q0n(e:qw0):qw0:=fun b c a=>bif decide (a<c) then(ak b a).bind fun f=>(qfm fu f).bind fun d=>bif d then some a else e b c (af (a+1)) else some (-1)
def qn9(fu:Nat):Nat->qw0|0=>fun _ _ _=>none|n+1=>q0n fu (qn9 fu n)
def qn8(a:List (Bs×Bs)):Option Int:=qn9 fu fu a (a.length:Int) 0
abbrev qu6:=wV->Int->Int->Option (wV)
def q0i(e:qu6):qu6:=fun a b c=>bif decide (c<(a.length:Int)) then(ak a c).bind fun f=>(qfm fu f).bind fun d=>bif !d then(ak a b).bind fun g=>none else e a b (af (c+1)) else bif decide (0<=b/\b<=(a.length:Int)) then none else none
def qn5(fu:Nat):Nat->qu6|0=>fun _ _ _=>none|n+1=>q0i fu (qn5 fu n)
def q0h(a:List (Bs×Bs)):Option (wV):=(qn8 fu a).bind fun b=>bif b==(-1) then some a else qn5 fu fu a b (af (b+1))
def qyl(a:UInt8):Option Bool:=bif decide (32<=a) then some (decide (a<=126)) else some false
def qw9(fu:Nat)(e:gg):gg:=fun b c a=>bif decide (a<c) then(ak b a).bind fun f=>(qyl f).bind fun d=>bif !d then some false else e b c (af (a+1)) else some true
def qky(fu:Nat):Nat->gg|0=>fun _ _ _=>none|n+1=>qw9 fu (qky fu n)
def qw8(a:Bs):Option Bool:=qky fu fu a (a.length:Int) 0
def ow(b:UInt8):Option UInt8:=(([48,49,50,51,52,53,54,55,56,57,65,66,67,68,69,70]:Bs)[(b&&&15).toNat]?).bind fun a=>some a
abbrev wg:=Bs->Int->Int->(List Bs)->Option ((List Bs))
def qm4(fu:Nat)(f:wg):Bs->Bs->Int->Int->(List Bs)->Option ((List Bs)):=fun d c g b a=>bif decide (0<=af ((a.length:Int)-1)/\(af ((a.length:Int)-1)).toNat<a.length) then(a[(af ((a.length:Int)-1)).toNat]?).bind fun h=>bif decide ((af ((h.length:Int)+(c.length:Int)))<=60) then bif decide (0<=af ((a.length:Int)-1)/\(af ((a.length:Int)-1)).toNat<a.length) then(a[(af ((a.length:Int)-1)).toNat]?).bind fun e=>bif decide (e.length+c.length<=bf) then bif decide (0<=af ((a.length:Int)-1)/\(af ((a.length:Int)-1)).toNat<a.length) then(a[(af ((a.length:Int)-1)).toNat]?).bind fun i=>f d g (af (b+1)) (List.set a ((af ((a.length:Int)-1)).toNat) (e++c)) else none else none else none else bif decide (List.length (a++([c]:List Bs))<=aq) then f d g (af (b+1)) (a++([c]:List Bs)) else none else none
def qyx(e:wg):wg:=fun b d a c=>bif decide (a<d) then bif decide (0<=a/\a<=af (a+1)/\af (a+1)<=(b.length:Int)) then(ak b a).bind fun h=>(xd h).bind fun f=>bif !f then(ak b a).bind fun i=>(ow (qg i (min (4:Int).toNat 8))).bind fun k=>(ak b a).bind fun j=>(ow j).bind fun g=>qm4 fu e b ([37,k,g]:Bs) d a c else qm4 fu e b (List.take ((af (a+1)).toNat-a.toNat) (List.drop a.toNat b)) d a c else none else some c
def qm3(fu:Nat):Nat->wg|0=>fun _ _ _ _=>none|n+1=>qyx fu (qm3 fu n)
def qyw(a:Bs):Option ((List Bs)):=qm3 fu fu a (a.length:Int) 0 ([([117,116,102,56,39,39]:Bs)]:List Bs)
abbrev qu7:=Bs->Int->Int->(Bs×Bs)->(List Bs)->Option (Bs)
def qym(fu:Nat)(h:qu7):qu7:=fun f e b a c=>bif decide (b<e) then bif decide (0<=b/\b.toNat<c.length) then(c[b.toNat]?).bind fun g=>bif decide (List.length ([59,32]:Bs)+a.1.length<=bf) then bif decide (List.length (([59,32]:Bs)++a.1)+List.length ([42]:Bs)<=bf) then(o5 b).bind fun d=>bif decide (List.length ((([59,32]:Bs)++a.1)++[42])+d.length<=bf) then bif decide (List.length (((([59,32]:Bs)++a.1)++[42])++d)+List.length ([42,61]:Bs)<=bf) then bif decide (List.length ((((([59,32]:Bs)++a.1)++[42])++d)++[42,61])+g.length<=bf) then bif decide (f.length+List.length (((((([59,32]:Bs)++a.1)++[42])++d)++[42,61])++g)<=bf) then h (f++(((((([59,32]:Bs)++a.1)++[42])++d)++[42,61])++g)) e (af (b+1)) a c else none else none else none else none else none else none else none else some f
def qmv(fu:Nat):Nat->qu7|0=>fun _ _ _ _ _=>none|n+1=>qym fu (qmv fu n)
def qyn:(Bs×Bs)->Option (Bs):=fun a=>(qyw fu a.2).bind fun b=>qmv fu fu [] (b.length:Int) 0 a b
def qmu:Bool->(Bs×Bs)->Option (Bs):=fun c a=>bif c then bif decide (List.length ([59,32]:Bs)+a.1.length<=bf) then bif decide (List.length (([59,32]:Bs)++a.1)+List.length ([61,34]:Bs)<=bf) then(qok ([([92]:Bs),([92,92]:Bs),([34]:Bs),([92,34]:Bs)]:List Bs)).bind fun b=>(xe a.2 b.1 b.2.1 b.2.2.1 b.2.2.2).bind fun d=>bif decide (List.length ((([59,32]:Bs)++a.1)++[61,34])+d.length<=bf) then bif decide (List.length (((([59,32]:Bs)++a.1)++[61,34])++d)+List.length ([34]:Bs)<=bf) then some ((((([59,32]:Bs)++a.1)++[61,34])++d)++[34]) else none else none else none else none else qyn fu a
def qyk(a:Bs×Bs):Option (Bs):=(qbd fu a.2).bind fun c=>bif c then bif decide (List.length ([59,32]:Bs)+a.1.length<=bf) then bif decide (List.length (([59,32]:Bs)++a.1)+List.length ([61]:Bs)<=bf) then bif decide (List.length ((([59,32]:Bs)++a.1)++[61])+a.2.length<=bf) then some (((([59,32]:Bs)++a.1)++[61])++a.2) else none else none else none else bif decide ((a.2.length:Int)<=60) then(qw8 fu a.2).bind fun b=>qmu fu b a else qmu fu false a
abbrev qu8:=Bs->wV->Int->Int->(Int×Int)->Option (Bs×(Int×Int))
def qye(i:qu8):qu8:=fun d c b a e=>bif decide (a<b) then(ak c a).bind fun h=>(qyk fu h).bind fun f=>bif decide (d.length+f.length<=bf) then i (d++f) c b (af (a+1)) e else none else bif decide (4000<(d.length:Int)) then(ay 1 (-4)).bind fun g=>some (([]:Bs),g) else(bq).bind fun j=>some (d,j)
def qmp(fu:Nat):Nat->qu8|0=>fun _ _ _ _ _=>none|n+1=>qye fu (qmp fu n)
def qfg(a:Bs×Bs×wV):Option (Bs×(Int×Int)):=(qbb fu a).bind fun b=>(cy b).bind fun c=>bif c then some (([]:Bs),b) else bif decide (a.1.length+List.length ([47]:Bs)<=bf) then bif decide (List.length (a.1++[47])+a.2.1.length<=bf) then qmp fu fu ((a.1++[47])++a.2.1) a.2.2 (a.2.2.length:Int) 0 (0,0) else none else none
abbrev qu9:=Int->Int->wV->Option (wV)
def q0k(d:qu9):qu9:=fun b c a=>bif decide (c<(a.length:Int)) then bif decide (0<=c/\c.toNat<a.length) then(a[c.toNat]?).bind fun e=>(qfm fu e).bind fun f=>bif !f then bif decide (0<=b/\b.toNat<a.length) then(a[b.toNat]?).bind fun g=>d (af (b+1)) (af (c+1)) (List.set a b.toNat e) else none else d b (af (c+1)) a else none else bif decide (0<=b/\b.toNat<a.length) then bif decide (0<=b/\b<=(List.length (List.take b.toNat a++List.replicate (a.length-b.toNat) (([]:Bs),([]:Bs))):Int)) then some (List.take b.toNat (List.take b.toNat a++List.replicate (a.length-b.toNat) (([]:Bs),([]:Bs)))) else none else none
def qn6(fu:Nat):Nat->qu9|0=>fun _ _ _=>none|n+1=>q0k fu (qn6 fu n)
def q0j(a:List (Bs×Bs)):Option (wV):=(qn8 fu a).bind fun b=>bif b==(-1) then some a else qn6 fu fu b (af (b+1)) a
abbrev zc0:=Bool×wV
def qnk(h:List (Bs×Bs)):Option zc0:=(qfl fu h).bind fun j=>cm j (fun c=>(q0h fu []).bind fun o=>(qfg fu (c.1,(c.2.1,o))).bind fun i=>(cy i.2).bind fun l=>bif l then some (false,[]) else(jj h).bind fun e=>bif decide (0<=c.2.2.1/\c.2.2.1.toNat<e.length) then(e[c.2.2.1.toNat]?).bind fun m=>some (true,List.set e c.2.2.1.toNat (m.1,i.1)) else none) (fun a=>(q0j fu a.2.2.2.2).bind fun k=>(qfg fu (a.1,(a.2.1,k))).bind fun d=>(cy d.2).bind fun f=>bif f then some (false,[]) else(jj h).bind fun b=>bif decide (0<=a.2.2.1/\a.2.2.1.toNat<b.length) then(b[a.2.2.1.toNat]?).bind fun g=>some (true,List.set b a.2.2.1.toNat (g.1,d.1)) else none)
abbrev qqb:=wU×Bool×(Int×Int×Int)
abbrev qd5:=Bs->Int->(Int×Int×Int)->Option qqb
abbrev q1y:=wU×Bool×(Int×Int×Int)
abbrev qva:=Int->Int->Int->(Int×Int×Int)->(List Bs)->wV->(List wU)->Option q1y
def qz8(e:qd5)(fu:Nat)(k:qva):qva:=fun i g a h d f c=>bif decide (a<g) then bif decide (0<=a/\a.toNat<d.length) then(d[a.toNat]?).bind fun j=>(e j (af (i+1)) h).bind fun b=>bif !b.2.1 then some ((Tree.node ([],[]) []),(false,b.2.2)) else bif decide (List.length (c++([(Tree.node b.1.val b.1.kids)]:List wU))<=aq) then k i g (af (a+1)) b.2.2 d f (c++([(Tree.node b.1.val b.1.kids)]:List wU)) else none else none else some ((Tree.node (f,[]) c),(true,h))
def qnx(a:qd5)(fu:Nat):Nat->qva|0=>fun _ _ _ _ _ _ _=>none|n+1=>qz8 a fu (qnx a fu n)
def qz7(a:qd5)(fu:Nat)(h:Bs)(g:Int)(b:Int×Int×Int)(d:List (Bs×Bs)):Option q1y:=(jj d).bind fun f=>(jj h).bind fun e=>(qfo fu d h g).bind fun c=>bif(c.length:Int)==0 then some ((Tree.node (f,e) []),(true,(af (b.1+1),b.2))) else(qnk fu d).bind fun i=>bif !i.1 then some ((Tree.node (f,e) []),(true,(af (b.1+1),b.2))) else qnx a fu fu g (c.length:Int) 0 (af (b.1+1),b.2) c i.2 []
def qny(a:qd5)(fu:Nat)(e:Bs)(h:Int)(c:Int×Int×Int):Option qqb:=(qmf fu e).bind fun b=>(cy b.2.1).bind fun g=>bif g then(ay b.2.1.1 (-8)).bind fun f=>some ((Tree.node ([],[]) []),(false,(c.1,f))) else bif c.1==40 then(ay 2 (-7)).bind fun i=>some ((Tree.node ([],[]) []),(false,(c.1,i))) else bif decide (0<=b.1/\b.1<=(e.length:Int)) then(qz7 a fu (List.drop b.1.toNat e) h c b.2.2).bind fun d=>some ((Tree.node d.1.val d.1.kids),d.2) else none
def qnz(fu:Nat):Nat->qd5|0=>fun _ _ _=>none|n+1=>qny (qnz fu n) fu
def zcm(b:Bs)(c:Int)(a:Int×Int×Int):Option qqb:=qnz fu fu b c a
abbrev q1x:=wU×Bool×(Int×Int×Int)
abbrev qvc:=Int->Int->Int->(Int×Int×Int)->(List Bs)->wV->(List wU)->Option q1x
def qz6(j:qvc):qvc:=fun h f a g d e c=>bif decide (a<f) then bif decide (0<=a/\a.toNat<d.length) then(d[a.toNat]?).bind fun i=>(zcm fu i (af (h+1)) g).bind fun b=>bif !b.2.1 then some ((Tree.node ([],[]) []),(false,b.2.2)) else bif decide (List.length (c++([(Tree.node b.1.val b.1.kids)]:List wU))<=aq) then j h f (af (a+1)) b.2.2 d e (c++([(Tree.node b.1.val b.1.kids)]:List wU)) else none else none else some ((Tree.node (e,[]) c),(true,g))
def qnw(fu:Nat):Nat->qvc|0=>fun _ _ _ _ _ _ _=>none|n+1=>qz6 fu (qnw fu n)
def qz5(c:List (Bs×Bs))(f:Bs)(g:Int)(a:Int×Int×Int):Option q1x:=(jj c).bind fun e=>(jj f).bind fun d=>(qfo fu c f g).bind fun b=>bif(b.length:Int)==0 then some ((Tree.node (e,d) []),(true,(af (a.1+1),a.2))) else(qnk fu c).bind fun h=>bif !h.1 then some ((Tree.node (e,d) []),(true,(af (a.1+1),a.2))) else qnw fu fu g (b.length:Int) 0 (af (a.1+1),a.2) b h.2 []
abbrev zc2:=wU
def qfn(a:Tree (wV×Bs)):Option zc2:=some (Tree.node a.val a.kids)
abbrev zcz:=((Int×Int)×Bool) ⊕ ((Int×Int)×Bool)
def qzo(e:Int)(f:List (Bs×Bs))(g:Bs)(h:List wU)(d:Int)(a:Int×Int)(b:Bool):Option zcz:=bif decide (40<=e) then(ay 2 (-1)).bind fun c=>some (.inl (c,b)) else bif b then some (.inr (a,true)) else some (.inr (a,decide (8<d)))
abbrev qgh:=(Int×(Int×Int)×Bool) ⊕ (Int×(Int×Int)×Bool)
abbrev qj1:=wU->Int->Int->(Int×Int)->Bool->Option qgh
abbrev qvd:=Int->(List wU)->Int->Int->Int->(Int×Int)->Bool->Option qgh
def qzw(b:qj1)(fu:Nat)(m:qvd):qvd:=fun i d c a f g h=>bif decide (a<c) then(ak d a).bind fun j=>(b (Tree.node j.val j.kids) (af (i+1)) f g h).bind fun l=>cm l (fun k=>some (.inl k)) (fun e=>m i d c (af (a+1)) e.1 e.2.1 e.2.2) else some (.inr (f,(g,h)))
def qno(a:qj1)(fu:Nat):Nat->qvd|0=>fun _ _ _ _ _ _ _=>none|n+1=>qzw a fu (qno a fu n)
def qnm(a:qj1)(fu:Nat)(b:Tree (wV×Bs))(e:Int)(c:Int)(i:Int×Int)(h:Bool):Option qgh:=(qzo c b.val.1 b.val.2 b.kids e i h).bind fun g=>cm g (fun f=>some (.inl (c,f))) (fun d=>qno a fu fu e b.kids (b.kids.length:Int) 0 (af (c+1)) d.1 d.2)
def qnn(fu:Nat):Nat->qj1|0=>fun _ _ _ _ _=>none|n+1=>qnm (qnn fu n) fu
def zcj(e:Tree (wV×Bs))(a:Int)(b:Int)(d:Int×Int)(c:Bool):Option qgh:=qnn fu fu e a b d c
abbrev zc3:=(wU×(Int×Int)×Bool) ⊕ (wU×(Int×Int)×Bool)
def qzv(a:Tree (wV×Bs))(e:Int×Int)(f:Bool):Option zc3:=(zcj fu (Tree.node a.val a.kids) 0 0 e f).bind fun d=>cm d (fun b=>some (.inl ((Tree.node a.val a.kids),b.2))) (fun c=>some (.inr ((Tree.node a.val a.kids),c.2)))
def q0a:(Int->wU->Bs->Bs->wV->Option Int):=fun i e a b c=>(qmn fu (a,(b,c)) [98,111,117,110,100,97,114,121]).bind fun h=>(qfg fu (a,(b,c))).bind fun d=>bif h.2.1 then some 5 else bif decide (60<=(c.length:Int)) then some 5 else(cy d.2).bind fun f=>bif f then some 5 else(ak e.val.1 i).bind fun g=>bif !(d.1==g.2) then some 5 else bif decide (2000<(d.1.length:Int)) then some 5 else some 0
def uf:(Int->Bool->wU->Bs->Bs->wV->Option Int):=fun f e c a b d=>bif e then some 5 else q0a fu f (Tree.node c.val c.kids) a b d
def qz9(a:Tree (wV×Bs)):Option Int:=(qfl fu a.val.1).bind fun d=>cm d (fun c=>bif decide (0<(a.val.2.length:Int)) then uf fu c.2.2.1 true (Tree.node a.val a.kids) c.1 c.2.1 [] else bif !c.2.2.2 then uf fu c.2.2.1 true (Tree.node a.val a.kids) c.1 c.2.1 [] else(dj fu c.1 [109,117,108,116,105,112,97,114,116]).bind fun f=>uf fu c.2.2.1 (!f) (Tree.node a.val a.kids) c.1 c.2.1 []) (fun b=>bif decide (0<(a.val.2.length:Int)) then uf fu b.2.2.1 true (Tree.node a.val a.kids) b.1 b.2.1 b.2.2.2.2 else bif !b.2.2.2.1 then uf fu b.2.2.1 true (Tree.node a.val a.kids) b.1 b.2.1 b.2.2.2.2 else(dj fu b.1 [109,117,108,116,105,112,97,114,116]).bind fun e=>uf fu b.2.2.1 (!e) (Tree.node a.val a.kids) b.1 b.2.1 b.2.2.2.2)
def qzt(a:wU×Int):Option Int:=(w8 fu a.1.val.1).bind fun b=>(cy b).bind fun e=>bif e then some b.1 else bif decide (0<(a.1.kids.length:Int)) then(qz9 fu (Tree.node a.1.val a.1.kids)).bind fun d=>some d else bif decide (12000<(a.1.val.2.length:Int)) then some 1 else(qkz fu a.1.val.2).bind fun c=>bif c != 0 then some c else(qfo fu a.1.val.1 a.1.val.2 a.2).bind fun f=>bif decide (0<(f.length:Int)) then some 5 else some 0
def qzp(h:Int)(d:List (Bs×Bs))(e:Bs)(g:List wU)(f:Int)(b:Int×Int):Option (((Int×Int)) ⊕ ((Int×Int))):=(qzt fu ((Tree.node (d,e) g),f)).bind fun a=>bif a != 0 then(ay a h).bind fun c=>some (.inl c) else some (.inr b)
abbrev qgi:=(Int×(Int×Int)) ⊕ (Int×(Int×Int))
abbrev qj2:=wU->Int->Int->(Int×Int)->Option qgi
abbrev qvf:=Int->(List wU)->Int->Int->Int->(Int×Int)->Option qgi
def qzx(b:qj2)(fu:Nat)(l:qvf):qvf:=fun g d c a e f=>bif decide (a<c) then(ak d a).bind fun h=>(b (Tree.node h.val h.kids) (af (g+1)) e f).bind fun k=>cm k (fun j=>some (.inl j)) (fun i=>l g d c (af (a+1)) i.1 i.2) else some (.inr (e,f))
def qnr(a:qj2)(fu:Nat):Nat->qvf|0=>fun _ _ _ _ _ _=>none|n+1=>qzx a fu (qnr a fu n)
def qnp(a:qj2)(fu:Nat)(b:Tree (wV×Bs))(d:Int)(c:Int)(h:Int×Int):Option qgi:=(qzp fu c b.val.1 b.val.2 b.kids d h).bind fun g=>cm g (fun e=>some (.inl (c,e))) (fun f=>qnr a fu fu d b.kids (b.kids.length:Int) 0 (af (c+1)) f)
def qnq(fu:Nat):Nat->qj2|0=>fun _ _ _ _=>none|n+1=>qnp (qnq fu n) fu
def zck(b:Tree (wV×Bs))(d:Int)(a:Int)(c:Int×Int):Option qgi:=qnq fu fu b d a c
abbrev zc4:=(wU×(Int×Int)) ⊕ (wU×(Int×Int))
def qzz(a:Tree (wV×Bs))(e:Int×Int):Option zc4:=(zck fu (Tree.node a.val a.kids) 0 0 e).bind fun d=>cm d (fun b=>some (.inl ((Tree.node a.val a.kids),b.2))) (fun c=>some (.inr ((Tree.node a.val a.kids),c.2)))
def qzn(a:Tree (wV×Bs)):Option ((Int×Int)):=(qfn (Tree.node a.val a.kids)).bind fun c=>(qzv fu (Tree.node c.val c.kids) (0,0) false).bind fun g=>cm g (fun f=>some f.2.1) (fun e=>bif e.2.2 then(ay 2 (-2)).bind fun i=>some i else(qfn (Tree.node a.val a.kids)).bind fun d=>(qzz fu (Tree.node d.val d.kids) e.2.1).bind fun h=>cm h (fun j=>some j.2) (fun k=>(bq).bind fun b=>some b))
abbrev zcy:=wU×(Int×Int)
def qzl(b:wV×Bs):Option zcy:=(qfj fu b).bind fun c=>(cy c).bind fun e=>bif e then some ((Tree.node ([],[]) []),c) else(qz5 fu b.1 b.2 0 (0,(0,0))).bind fun a=>bif !a.2.1 then some ((Tree.node ([],[]) []),a.2.2.2) else(qzn fu (Tree.node a.1.val a.1.kids)).bind fun d=>(cy d).bind fun g=>bif g then(ay d.1 (-9)).bind fun h=>some ((Tree.node ([],[]) []),h) else(bq).bind fun f=>some ((Tree.node a.1.val a.1.kids),f)
abbrev zcw:=wU
def qzi(a:Tree (wV×Bs)):Option zcw:=some (Tree.node a.val a.kids)
def qpj(a:Bs)(b:UInt8):Option (Bs×UInt8):=some (a,b)
abbrev zc8:=(Bs×Bool×UInt8) ⊕ ((Bs×Bool) ⊕ ((Bs×Bool) ⊕ (Bs×Bool)))
def q1g(a:Bs):Option zc8:=(qpj [55,98,105,116] 127).bind fun c=>(qpj [56,98,105,116] 255).bind fun b=>(dj fu c.1 a).bind fun d=>bif d then some (.inl (c.1,(true,c.2))) else(dj fu b.1 a).bind fun g=>bif g then some (.inl (b.1,(true,b.2))) else(dj fu [98,97,115,101,54,52] a).bind fun e=>bif e then some (.inr (.inl (([98,97,115,101,54,52]:Bs),true))) else(dj fu [113,117,111,116,101,100,45,112,114,105,110,116,97,98,108,101] a).bind fun f=>bif f then some (.inr (.inr (.inl (([113,117,111,116,101,100,45,112,114,105,110,116,97,98,108,101]:Bs),true)))) else some (.inr (.inr (.inr (([]:Bs),false))))
abbrev zc9:=(Bs×(Int×Int)×UInt8) ⊕ ((Bs×(Int×Int)) ⊕ ((Bs×(Int×Int)) ⊕ (Bs×(Int×Int))))
def q1h(c:Bs)(s:Bs):Option zc9:=(q1g fu s).bind fun u=>cm u (fun a=>bif !a.2.1 then(ay 18 (-3)).bind fun v=>some (.inl (a.1,(v,a.2.2))) else bif decide (12000<(c.length:Int)) then(ay 1 (-1)).bind fun r=>some (.inl (a.1,(r,a.2.2))) else(bq).bind fun k=>some (.inl (a.1,(k,a.2.2)))) (fun t=>cm t (fun e=>bif !e.2 then(ay 18 (-3)).bind fun h=>some (.inr (.inl (e.1,h))) else bif decide (12000<(c.length:Int)) then(ay 1 (-1)).bind fun o=>some (.inr (.inl (e.1,o))) else(bq).bind fun l=>some (.inr (.inl (e.1,l)))) (fun q=>cm q (fun b=>bif !b.2 then(ay 18 (-3)).bind fun m=>some (.inr (.inr (.inl (b.1,m)))) else bif decide (12000<(c.length:Int)) then(ay 1 (-1)).bind fun i=>some (.inr (.inr (.inl (b.1,i)))) else(bq).bind fun g=>some (.inr (.inr (.inl (b.1,g))))) (fun d=>bif !d.2 then(ay 18 (-3)).bind fun f=>some (.inr (.inr (.inr (d.1,f)))) else bif decide (12000<(c.length:Int)) then(ay 1 (-1)).bind fun p=>some (.inr (.inr (.inr (d.1,p)))) else(bq).bind fun j=>some (.inr (.inr (.inr (d.1,j)))))))
def q1f(a:Bs):Option ((Int×Int)×Bs):=bif decide (a.length<=aq) then(bq).bind fun b=>some (b,a) else none
abbrev qvi:=Int->Int->Bs->Int->Int->(Int×Int)->Bs->Option ((Int×Int)×Bs)
def qeq(fu:Nat)(i:qvi):qvi:=fun h c d e b f a=>bif decide (b<e) then(ak d b).bind fun j=>bif j==61 then(bq).bind fun k=>some (k,a) else bif decide (0<List.length ([65,66,67,68,69,70,71,72,73,74,75,76,77,78,79,80,81,82,83,84,85,86,87,88,89,90,97,98,99,100,101,102,103,104,105,106,107,108,109,110,111,112,113,114,115,116,117,118,119,120,121,122,48,49,50,51,52,53,54,55,56,57,43,47]:Bs)) then(qar ([65,66,67,68,69,70,71,72,73,74,75,76,77,78,79,80,81,82,83,84,85,86,87,88,89,90,97,98,99,100,101,102,103,104,105,106,107,108,109,110,111,112,113,114,115,116,117,118,119,120,121,122,48,49,50,51,52,53,54,55,56,57,43,47]:Bs) j).bind fun g=>bif decide (g<0) then i h c d e (af (b+1)) f a else bif decide (8<=(af (c+6))) then bif decide (0<=af ((af (c+6))-8)) then bif decide (List.length (a++([cd (Int.fdiv (af (((BitVec.ofInt 64 (af (h*2 ^ min (6:Int).toNat 64))|||BitVec.ofInt 64 g).toNat:Int))) (2 ^ min (af ((af (c+6))-8)).toNat 64))]:Bs))<=aq) then bif decide (0<=af ((af (c+6))-8)) then i (af (((BitVec.ofInt 64 (af (((BitVec.ofInt 64 (af (h*2 ^ min (6:Int).toNat 64))|||BitVec.ofInt 64 g).toNat:Int)))&&&BitVec.ofInt 64 (af ((af (1*2 ^ min (af ((af (c+6))-8)).toNat 64))-1))).toNat:Int))) (af ((af (c+6))-8)) d e (af (b+1)) f (a++([cd (Int.fdiv (af (((BitVec.ofInt 64 (af (h*2 ^ min (6:Int).toNat 64))|||BitVec.ofInt 64 g).toNat:Int))) (2 ^ min (af ((af (c+6))-8)).toNat 64))]:Bs)) else none else none else none else i (af (((BitVec.ofInt 64 (af (h*2 ^ min (6:Int).toNat 64))|||BitVec.ofInt 64 g).toNat:Int))) (af (c+6)) d e (af (b+1)) f a else none else(bq).bind fun l=>some (l,a)
def t8(fu:Nat):Nat->qvi|0=>fun _ _ _ _ _ _ _=>none|n+1=>qeq fu (t8 fu n)
def qao(a:Bs):Option ((Int×Int)×Bs):=bif decide (24000<(a.length:Int)) then(ay 1 (-1)).bind fun b=>some (b,[]) else t8 fu fu 0 0 a (a.length:Int) 0 (0,0) []
def qxr(fu:Nat)(c:qj):qj:=fun a b=>bif decide (0<(a.length:Int)) then(ak a (af ((a.length:Int)-1))).bind fun d=>bif d==b then bif decide (0<=af ((a.length:Int)-1)/\af ((a.length:Int)-1)<=(a.length:Int)) then c (List.take (af ((a.length:Int)-1)).toNat a) b else none else some a else some a
def qlh(fu:Nat):Nat->qj|0=>fun _ _=>none|n+1=>qxr fu (qlh fu n)
def qxq(a:Bs)(b:UInt8):Option (Bs):=qlh fu fu a b
def qxj(fu:Nat)(e:qaj):qaj:=fun b d a=>bif decide (d<(b.length:Int)) then(ak b d).bind fun c=>bif decide (128<=c) then bif decide (a.length=256) then bif decide (a.length=a.length)&&decide (a.length=256) then bif decide (a.length=256)&&(true&&true) then some (a,false) else none else none else none else(a[c.toNat]?).bind fun f=>e b (af (d+1)) (List.set a c.toNat true) else bif decide (a.length=256) then bif decide (a.length=a.length)&&decide (a.length=256) then bif decide (a.length=256)&&(true&&true) then some (a,true) else none else none else none
def qld(fu:Nat):Nat->qaj|0=>fun _ _ _=>none|n+1=>qxj fu (qld fu n)
def qxi(a:Bs):Option ((List Bool)×Bool):=qld fu fu a 0 (List.replicate 256 false)
def qxg(b:UInt8)(a:List Bool):Option (Bool×(List Bool)):=(a[b.toNat]?).bind fun c=>some (c,a)
def qxp(fu:Nat)(d:qk):qk:=fun a c=>bif decide (0<(a.length:Int)) then(ak a (af ((a.length:Int)-1))).bind fun e=>(qxg e c).bind fun b=>bif !b.1 then some (a,b.2) else bif decide (0<=af ((a.length:Int)-1)/\af ((a.length:Int)-1)<=(a.length:Int)) then d (List.take (af ((a.length:Int)-1)).toNat a) b.2 else none else some (a,c)
def qlg(fu:Nat):Nat->qk|0=>fun _ _=>none|n+1=>qxp fu (qlg fu n)
def qxo(a:Bs)(b:List Bool):Option (Bs×(List Bool)):=qlg fu fu a b
def q1q:UInt8->UInt8->UInt8->UInt8->Option (Int×Int):=fun d a b c=>some (IntKind.i32.wrap (((BitVec.ofInt 32 (IntKind.i32.wrap (((BitVec.ofInt 32 (IntKind.i32.wrap (((BitVec.ofInt 32 (IntKind.i32.wrap (((d&&&7).toNat:Int)*2 ^ min (18:Int).toNat 32))|||BitVec.ofInt 32 (IntKind.i32.wrap (((a&&&63).toNat:Int)*2 ^ min (12:Int).toNat 32))).toNat:Int)))|||BitVec.ofInt 32 (IntKind.i32.wrap (((b&&&63).toNat:Int)*2 ^ min (6:Int).toNat 32))).toNat:Int)))|||BitVec.ofInt 32 ((c&&&63).toNat:Int)).toNat:Int)),4)
def qpz:UInt8->UInt8->UInt8->UInt8->Bool->Option (Int×Int):=fun e b c d a=>bif a then some (65533,1) else q1q e b c d
def q1p:Bs->UInt8->Int->UInt8->UInt8->Option (Int×Int):=fun e d f a b=>bif decide (f<=3) then some (IntKind.i32.wrap (((BitVec.ofInt 32 (IntKind.i32.wrap (((BitVec.ofInt 32 (IntKind.i32.wrap (((d&&&15).toNat:Int)*2 ^ min (12:Int).toNat 32))|||BitVec.ofInt 32 (IntKind.i32.wrap (((a&&&63).toNat:Int)*2 ^ min (6:Int).toNat 32))).toNat:Int)))|||BitVec.ofInt 32 ((b&&&63).toNat:Int)).toNat:Int)),3) else(ak e 3).bind fun c=>bif decide (c<128) then qpz d a b c true else qpz d a b c (decide (191<c))
def qpy:Bs->UInt8->Int->UInt8->UInt8->Bool->Option (Int×Int):=fun d e f a b c=>bif c then some (65533,1) else q1p d e f a b
def q1o:Bs->UInt8->Int->UInt8->Option (Int×Int):=fun c d e a=>bif decide (e<=2) then some (IntKind.i32.wrap (((BitVec.ofInt 32 (IntKind.i32.wrap (((d&&&31).toNat:Int)*2 ^ min (6:Int).toNat 32))|||BitVec.ofInt 32 ((a&&&63).toNat:Int)).toNat:Int)),2) else(ak c 2).bind fun b=>bif decide (b<128) then qpy c d e a b true else qpy c d e a b (decide (191<b))
def qpx:Bs->UInt8->Int->UInt8->Bool->Option (Int×Int):=fun c d e a b=>bif b then some (65533,1) else q1o c d e a
def qpw(b:Bs):Option (Int×Int):=bif decide ((b.length:Int)<1) then some (65533,0) else(ak b 0).bind fun d=>(qjm[d.toNat]?).bind fun a=>bif decide (240<=a) then(ak b 0).bind fun f=>some (IntKind.i32.wrap (((BitVec.ofInt 32 (IntKind.i32.wrap (((BitVec.ofInt 32 (f.toNat:Int) &&& ~~~ BitVec.ofInt 32 (Int.fdiv (IntKind.i32.wrap ((a.toNat:Int)*2 ^ min (31:Int).toNat 32)) (2 ^ min (31:Int).toNat 32))).toNat:Int)))|||BitVec.ofInt 32 (IntKind.i32.wrap (((BitVec.ofInt 32 65533&&&BitVec.ofInt 32 (Int.fdiv (IntKind.i32.wrap ((a.toNat:Int)*2 ^ min (31:Int).toNat 32)) (2 ^ min (31:Int).toNat 32))).toNat:Int)))).toNat:Int)),1) else(qjn[(qg a (min (4:Int).toNat 8)).toNat]?).bind fun e=>bif decide ((b.length:Int)<((a&&&7).toNat:Int)) then some (65533,1) else(ak b 1).bind fun c=>bif decide (c<e.1) then qpx b d ((a&&&7).toNat:Int) c true else qpx b d ((a&&&7).toNat:Int) c (decide (e.2<c))
abbrev qvj:=Bs->Bs->Int->Option (Int×Int)
def q1m(fu:Nat)(g:qvj):qvj:=fun a e f=>bif decide (0<f) then(ak e 0).bind fun b=>bif decide (b<128) then some ((b.toNat:Int),1) else(qpw a).bind fun d=>some d else(qpw a).bind fun c=>some c
def qpr(fu:Nat):Nat->qvj|0=>fun _ _ _=>none|n+1=>q1m fu (qpr fu n)
def qpq(a:Bs):Option (Int×Int):=qpr fu fu a a (a.length:Int)
def qpp:qkg:=fun c b a=>bif decide (0<=a/\a<=b/\b<=(c.length:Int)) then(qpq fu (List.take (b.toNat-a.toNat) (List.drop a.toNat c))).bind fun d=>bif(af (a+d.2)) != b then some (65533,1) else some d else none
def qpo:qkg:=fun a c b=>bif decide (b<0) then qpp fu a c 0 else qpp fu a c b
def q1l(f:qaf):qaf:=fun b c a d=>bif decide (d<=a) then(ak b a).bind fun g=>(qpu g).bind fun e=>bif e then qpo fu b c a else f b c (af (a-1)) d else qpo fu b c a
def qpn(fu:Nat):Nat->qaf|0=>fun _ _ _ _=>none|n+1=>q1l fu (qpn fu n)
def q1i(a:Bs):Option (Int×Int):=bif(a.length:Int)==0 then some (65533,0) else(ak a (af ((a.length:Int)-1))).bind fun b=>bif decide ((b.toNat:Int)<128) then some ((b.toNat:Int),1) else qpn fu fu a (a.length:Int) (af ((af ((a.length:Int)-1))-1)) (if 0>af ((a.length:Int)-4) then 0 else af ((a.length:Int)-4))
abbrev qvk:=Int->Bs->Nat->Option Bool
def qxh(fu:Nat)(d:qvk):qvk:=fun c a b=>bif Nat.blt b (a.length) then bif(((bz a b).1:Nat):Int)==c then some true else d c a (b+(bz a b).2) else some false
def qlc(fu:Nat):Nat->qvk|0=>fun _ _ _=>none|n+1=>qxh fu (qlc fu n)
def qlb(a:Bs)(b:Int):Option Bool:=qlc fu fu b a 0
def qxt(d:gx):gx:=fun a c=>bif decide (0<(a.length:Int)) then(ak a (af ((a.length:Int)-1))).bind fun e=>bif decide (128<=(e.toNat:Int)) then(q1i fu a).bind fun b=>(qlb fu c b.1).bind fun f=>bif !f then some a else bif decide (0<=af ((a.length:Int)-b.2)/\af ((a.length:Int)-b.2)<=(a.length:Int)) then d (List.take (af ((a.length:Int)-b.2)).toNat a) c else none else(qlb fu c (e.toNat:Int)).bind fun g=>bif !g then some a else bif decide (0<=af ((a.length:Int)-1)/\af ((a.length:Int)-1)<=(a.length:Int)) then d (List.take (af ((a.length:Int)-1)).toNat a) c else none else some a
def qli(fu:Nat):Nat->gx|0=>fun _ _=>none|n+1=>qxt fu (qli fu n)
def qxs(a:Bs)(b:Bs):Option (Bs):=qli fu fu a b
def qxf:gx:=fun b c=>(qxi fu c).bind fun a=>bif decide (a.1.length=List.length (List.replicate 256 false))&&decide (a.1.length=256) then bif a.2 then(qxo fu b a.1).bind fun e=>some e.1 else(qxs fu b c).bind fun d=>some d else none
def qla:tz:=fun b c a=>bif a then(ak c 0).bind fun e=>(qxq fu b e).bind fun d=>some d else qxf fu b c
def qxe:gx:=fun b a=>bif(a.length:Int)==1 then(ak a 0).bind fun c=>qla fu b a (decide (c<128)) else qla fu b a false
def qk9:tz:=fun b c a=>bif a then some b else qxe fu b c
def qxd(a:Bs)(b:Bs):Option (Bs):=bif(a.length:Int)==0 then qk9 fu a b true else qk9 fu a b (b==([]:Bs))
def q0e(fu:Nat)(e:nd):nd:=fun b a c=>bif decide (a<(b.length:Int)) then(ak b a).bind fun h=>bif h==61 then bif decide (0<=af (a+1)/\af (a+1)<=(if(b.length:Int)<af (a+3) then(b.length:Int) else af (a+3))/\(if(b.length:Int)<af (a+3) then(b.length:Int) else af (a+3))<=(b.length:Int)) then(oy (List.take ((if(b.length:Int)<af (a+3) then(b.length:Int) else af (a+3)).toNat-(af (a+1)).toNat) (List.drop (af (a+1)).toNat b))).bind fun d=>bif d.2 then bif decide (List.length (c++([d.1]:Bs))<=aq) then e b (af ((af (a+2))+1)) (c++([d.1]:Bs)) else none else(ak b a).bind fun f=>bif decide (List.length (c++([f]:Bs))<=aq) then e b (af (a+1)) (c++([f]:Bs)) else none else none else(ak b a).bind fun g=>bif decide (List.length (c++([g]:Bs))<=aq) then e b (af (a+1)) (c++([g]:Bs)) else none else some c
def qn4(fu:Nat):Nat->nd|0=>fun _ _ _=>none|n+1=>q0e fu (qn4 fu n)
def q0d(a:Bs):Option (Bs):=qn4 fu fu a 0 []
abbrev zq:=Bs->(Int×Int)->Bs->Option ((Int×Int)×Bs)
def qn3(h:zq):Bs->Int->Bs->Bs->(Int×Int)->Bs->Option ((Int×Int)×Bs):=fun e c g f d a=>(q0d fu g).bind fun b=>bif decide (List.length (a++b)<=aq) then bif decide (List.length ((a++b)++f)<=aq) then bif decide (0<=c/\c<=(e.length:Int)) then h (List.drop c.toNat e) d ((a++b)++f) else none else none else none
def qn2(g:zq):Bs->Int->Bs->(Int×Int)->Bs->Option ((Int×Int)×Bs):=fun f c b d e=>bif decide (0<=(b.length:Int)/\(b.length:Int)<=c/\c<=(f.length:Int)) then(qxd fu b [32,9]).bind fun a=>bif decide (0<List.length ([61]:Bs)) then(qk8 a ([61]:Bs)).bind fun h=>bif h then bif decide (0<=af ((a.length:Int)-1)/\af ((a.length:Int)-1)<=(a.length:Int)) then qn3 fu g f c (List.take (af ((a.length:Int)-1)).toNat a) [] d e else none else qn3 fu g f c a (List.take (c.toNat-(b.length:Int).toNat) (List.drop (b.length:Int).toNat f)) d e else none else none
def qn1(f:zq):Bs->Int->(Int×Int)->Bs->Option ((Int×Int)×Bs):=fun d a b c=>bif decide (0<=a/\a<=(d.length:Int)) then bif decide (0<List.length ([10]:Bs)) then(qeu (List.take a.toNat d) ([10]:Bs)).bind fun e=>bif decide ((e.length:Int)<a) then bif decide (0<List.length ([13]:Bs)) then(qeu e ([13]:Bs)).bind fun g=>qn2 fu f d a g b c else none else qn2 fu f d a e b c else none else none
def q0c(e:zq):zq:=fun b c a=>bif decide (0<(b.length:Int)) then(qar b 10).bind fun d=>bif(af (d+1))==0 then qn1 fu e b (b.length:Int) c a else qn1 fu e b (af (d+1)) c a else(bq).bind fun f=>some (f,a)
def qn0(fu:Nat):Nat->zq|0=>fun _ _ _=>none|n+1=>q0c fu (qn0 fu n)
def q0b(a:Bs):Option ((Int×Int)×Bs):=bif decide (48000<(a.length:Int)) then(ay 1 (-1)).bind fun b=>some (b,[]) else qn0 fu fu a (0,0) []
def qpi(a:Bs)(p:Bs):Option ((Int×Int)×Bs):=(q1h fu a p).bind fun l=>cm l (fun h=>(cy h.2.1).bind fun q=>bif q then some (h.2.1,[]) else(q1f a).bind fun m=>some m) (fun k=>cm k (fun j=>(cy j.2).bind fun d=>bif d then some (j.2,[]) else(qao fu a).bind fun e=>some e) (fun o=>cm o (fun g=>(cy g.2).bind fun b=>bif b then some (g.2,[]) else(q0b fu a).bind fun f=>some f) (fun i=>(cy i.2).bind fun c=>bif c then some (i.2,[]) else none)))
abbrev qvl:=wV->Int->Int->wU->Option (Bs)
def q1s(f:qvl):qvl:=fun c d b a=>bif decide (b<d) then(ak c b).bind fun g=>(dj fu g.1 [67,111,110,116,101,110,116,45,84,114,97,110,115,102,101,114,45,69,110,99,111,100,105,110,103]).bind fun h=>bif !h then f c d (af (b+1)) (Tree.node a.val a.kids) else(qpi fu a.val.2 g.2).bind fun e=>bif e.1.1 != 18 then some e.2 else f c d (af (b+1)) (Tree.node a.val a.kids) else(qpi fu a.val.2 [55,98,105,116]).bind fun i=>some i.2
def qp0(fu:Nat):Nat->qvl|0=>fun _ _ _ _=>none|n+1=>q1s fu (qp0 fu n)
def q1r(a:Tree (wV×Bs)):Option (Bs):=qp0 fu fu a.val.1 (a.val.1.length:Int) 0 (Tree.node a.val a.kids)
def qxk(b:Bs)(c:Bs)(a:Int):Option (Bs×Bs×Int):=some (c,(b,a))
def qxc(a:Bs)(c:Bs):Option (Bs×Bs×Int):=(qxk a c 0).bind fun b=>some b
def qmm(a:Bs)(b:Bs):Option (Bs):=(xa a b).bind fun c=>bif c then bif decide (0<=af ((a.length:Int)-(b.length:Int))/\af ((a.length:Int)-(b.length:Int))<=(a.length:Int)) then some (List.take (af ((a.length:Int)-(b.length:Int))).toNat a) else none else some a
def qfw(a:Bs)(c:Bs):Option (Bs):=(qmm a c).bind fun b=>some b
abbrev zt:=Bs->Int->Int->Bs->Option (Bs)
def qez(fu:Nat)(e:zt):zt:=fun c d b a=>bif decide (b<d) then(ak c b).bind fun f=>(gl f).bind fun h=>bif h then bif decide (0<(a.length:Int)) then bif decide (0<=af ((a.length:Int)-1)/\(af ((a.length:Int)-1)).toNat<a.length) then(a[(af ((a.length:Int)-1)).toNat]?).bind fun g=>bif g==32 then e c d (af (b+1)) a else bif decide (List.length (a++([32]:Bs))<=aq) then e c d (af (b+1)) (a++([32]:Bs)) else none else none else bif decide (List.length (a++([32]:Bs))<=aq) then e c d (af (b+1)) (a++([32]:Bs)) else none else bif decide (List.length (a++([f]:Bs))<=aq) then e c d (af (b+1)) (a++([f]:Bs)) else none else(qfw a [32]).bind fun i=>some i
def ud(fu:Nat):Nat->zt|0=>fun _ _ _ _=>none|n+1=>qez fu (ud fu n)
def qau(a:Bs):Option (Bs):=ud fu fu a (a.length:Int) 0 []
def qey(e:Bs)(d:Int)(c:Bs):Option (Int×Bs):=(qau fu e).bind fun a=>bif a==([]:Bs) then some (af (d+1),c) else(qbo [13,10] d).bind fun b=>bif decide (b.length+a.length<=bf) then bif decide (List.length (b++a)+List.length ([13,10]:Bs)<=bf) then bif decide (List.length (c++((b++a)++[13,10]))<=aq) then some (0,c++((b++a)++[13,10])) else none else none else none
abbrev q1u:=Bs×Bs×Int×Int×Bs
abbrev zu:=Bs->Bs->Int->Int->Bs->Option q1u
def qxm(h:zu):zu:=fun d b g f c=>bif decide (0<(b.length:Int)) then(qpq fu b).bind fun a=>bif decide (0<=(0:Int)/\0<=a.2/\a.2<=a.2/\a.2<=(b.length:Int)) then(qey fu (List.take (a.2.toNat-(0:Int).toNat) (List.drop (0:Int).toNat b)) f c).bind fun e=>bif decide (0<=a.2/\a.2<=(b.length:Int)) then h d (List.drop a.2.toNat b) g e.1 e.2 else none else none else some (d,(b,(g,(f,c))))
def qle(fu:Nat):Nat->zu|0=>fun _ _ _ _ _=>none|n+1=>qxm fu (qle fu n)
def qxn(i:zu):zu:=fun d a c g e=>(ua a d).bind fun b=>bif decide (b<0) then bif decide (0<=(0:Int)/\0<=(a.length:Int)/\(a.length:Int)<=(a.length:Int)/\(a.length:Int)<=(a.length:Int)) then(qey fu (List.take ((a.length:Int).toNat-(0:Int).toNat) (List.drop (0:Int).toNat a)) g e).bind fun h=>some (d,(a,(c,h))) else none else bif decide (0<=af (b+c)/\af (b+c)<=(a.length:Int)) then bif decide (0<=(0:Int)/\0<=(List.length (List.take (af (b+c)).toNat a):Int)/\(List.length (List.take (af (b+c)).toNat a):Int)<=(List.length (List.take (af (b+c)).toNat a):Int)/\(List.length (List.take (af (b+c)).toNat a):Int)<=(List.length (List.take (af (b+c)).toNat a):Int)) then(qey fu (List.take ((List.length (List.take (af (b+c)).toNat a):Int).toNat-(0:Int).toNat) (List.drop (0:Int).toNat (List.take (af (b+c)).toNat a))) g e).bind fun f=>bif decide (0<=af (b+(d.length:Int))/\af (b+(d.length:Int))<=(a.length:Int)) then i d (List.drop (af (b+(d.length:Int))).toNat a) c f.1 f.2 else none else none else none
def qlf(fu:Nat):Nat->zu|0=>fun _ _ _ _ _=>none|n+1=>qxn fu (qlf fu n)
def qxl(a:Bs)(b:Bs)(c:Int)(e:Int)(d:Bs):Option q1u:=bif(a.length:Int)==0 then qle fu fu a b c e d else qlf fu fu a b c e d
def qxx(c:Bs):Option (Bs):=bif decide (0<List.length ([13,10]:Bs)) then(qxc c ([13,10]:Bs)).bind fun a=>(qxl fu a.1 a.2.1 a.2.2 0 []).bind fun b=>some b.2.2.2.2 else none
def qat(c:Bs×Bs):Option (Bs):=(qp fu c.1).bind fun a=>bif decide (a.length+List.length ([58]:Bs)<=bf) then(qau fu c.2).bind fun b=>bif decide (List.length (a++[58])+b.length<=bf) then bif decide (List.length ((a++[58])++b)+List.length ([13,10]:Bs)<=bf) then some (((a++[58])++b)++[13,10]) else none else none else none
abbrev zx:=wV->Int->Int->wU->Bs->Bs->Option (Bs)
def qln(fu:Nat)(g:zx):zx:=fun b d e a f c=>g b d (af (e+1)) (Tree.node a.val a.kids) c f
def qll(j:zx):(wV->Int->Int->Bool->wU->(Bs×Bs)->Bs->Bs->Option (Bs)):=fun c e f g a h d b=>bif g then(qat fu h).bind fun i=>bif decide (List.length (b++i)<=aq) then qln fu j c e f (Tree.node a.val a.kids) (b++i) d else none else qln fu j c e f (Tree.node a.val a.kids) b d
def qlm(fu:Nat):(wU->Bs->Bs->Bs->Option (Bs)):=fun g e c b=>(o5 (g.kids.length:Int)).bind fun a=>bif decide (a.length+List.length ([32]:Bs)<=bf) then(o5 (b.length:Int)).bind fun d=>bif decide (List.length (a++[32])+d.length<=bf) then bif decide (List.length ((a++[32])++d)+List.length ([32]:Bs)<=bf) then(o5 (e.length:Int)).bind fun f=>bif decide (List.length (((a++[32])++d)++[32])+f.length<=bf) then bif decide (List.length ((((a++[32])++d)++[32])++f)+List.length ([13,10]:Bs)<=bf) then bif decide (List.length (c++(((((a++[32])++d)++[32])++f)++[13,10]))<=aq) then bif decide (List.length ((c++(((((a++[32])++d)++[32])++f)++[13,10]))++b)<=aq) then bif decide (List.length (((c++(((((a++[32])++d)++[32])++f)++[13,10]))++b)++e)<=aq) then some (((c++(((((a++[32])++d)++[32])++f)++[13,10]))++b)++e) else none else none else none else none else none else none else none else none
def qxv(h:zx):zx:=fun e f c a d b=>bif decide (c<f) then(ak e c).bind fun g=>(dj fu g.1 [82,101,99,101,105,118,101,100]).bind fun j=>bif !j then(dj fu g.1 [67,111,110,116,101,110,116,45,84,114,97,110,115,102,101,114,45,69,110,99,111,100,105,110,103]).bind fun i=>qll fu h e f c (!i) (Tree.node a.val a.kids) g d b else qll fu h e f c false (Tree.node a.val a.kids) g d b else bif(a.kids.length:Int)==0 then(q1r fu (Tree.node a.val a.kids)).bind fun l=>(qxx fu l).bind fun k=>qlm fu (Tree.node a.val a.kids) k d b else qlm fu (Tree.node a.val a.kids) [] d b
def qlk(fu:Nat):Nat->zx|0=>fun _ _ _ _ _ _=>none|n+1=>qxv fu (qlk fu n)
def qxu(e:Int)(a:List (Bs×Bs))(b:Bs)(d:List wU)(c:Bs):Option (Bs):=qlk fu fu a (a.length:Int) 0 (Tree.node (a,b) d) c []
def qzk(f:Int)(c:List (Bs×Bs))(d:Bs)(e:List wU)(g:Int)(a:Bs):Option (Bs):=(qxu fu f c d e a).bind fun b=>some b
abbrev qj4:=wU->Int->Int->Bs->Option (Int×Bs)
abbrev qvn:=Int->(List wU)->Int->Int->Int->Bs->Option (Int×Bs)
def qzy(b:qj4)(fu:Nat)(j:qvn):qvn:=fun h d c a f e=>bif decide (a<c) then(ak d a).bind fun i=>(b (Tree.node i.val i.kids) (af (h+1)) f e).bind fun g=>j h d c (af (a+1)) g.1 g.2 else some (f,e)
def qnu(a:qj4)(fu:Nat):Nat->qvn|0=>fun _ _ _ _ _ _=>none|n+1=>qzy a fu (qnu a fu n)
def qns(a:qj4)(fu:Nat)(b:Tree (wV×Bs))(c:Int)(d:Int)(f:Bs):Option (Int×Bs):=(qzk fu d b.val.1 b.val.2 b.kids c f).bind fun e=>qnu a fu fu c b.kids (b.kids.length:Int) 0 (af (d+1)) e
def qnt(fu:Nat):Nat->qj4|0=>fun _ _ _ _=>none|n+1=>qns (qnt fu n) fu
def zcl(b:Tree (wV×Bs))(d:Int)(a:Int)(c:Bs):Option (Int×Bs):=qnt fu fu b d a c
abbrev zc5:=wU×Bs
def qz0(a:Tree (wV×Bs))(c:Bs):Option zc5:=(zcl fu (Tree.node a.val a.kids) 0 0 c).bind fun b=>some ((Tree.node a.val a.kids),b.2)
abbrev zcx:=wU×Bs
def qzj(a:Tree (wV×Bs))(d:Bs):Option zcx:=(qfn (Tree.node a.val a.kids)).bind fun b=>(qz0 fu (Tree.node b.val b.kids) d).bind fun c=>some ((Tree.node a.val a.kids),c.2)
def qlj(e:wV×Bs):Option ((Int×Int)×Bs):=(qzl fu e).bind fun a=>(cy a.2).bind fun c=>bif c then some (a.2,[]) else(qzi (Tree.node a.1.val a.1.kids)).bind fun b=>(qzj fu (Tree.node b.val b.kids) []).bind fun f=>(bq).bind fun d=>some (d,f.2)
def qxw(h:wV×Bs)(f:wV×Bs):Option (Bool×(Int×Int)):=(qlj fu h).bind fun b=>(cy b.1).bind fun c=>bif c then some (false,b.1) else(qlj fu f).bind fun a=>(cy a.1).bind fun i=>bif i then(ay a.1.1 (-10)).bind fun e=>some (false,e) else(qk7 b.2 a.2).bind fun g=>(bq).bind fun d=>some (g,d)
def qkr:Option Bool:=bif decide (0<List.length ([99,13,10]:Bs)) then(qzc fu (([(([65]:Bs),([98]:Bs))]:List (Bs×Bs)),([99,13,10]:Bs))).bind fun b=>(qzb fu b.2).bind fun a=>(qxw fu (([(([65]:Bs),([98]:Bs))]:List (Bs×Bs)),([99,13,10]:Bs)) a.1).bind fun c=>bif b.1.1==0 then bif a.2.1==0 then bif c.2.1==0 then bif c.1 then bif b.2==([65,58,32,98,13,10,13,10,99,13,10]:Bs) then some ((a.1.1.length:Int)==1) else some false else some false else some false else some false else some false else none
def w9(b:Bs)(a:Bs):Option Bool:=bif decide ((a.length:Int)<=(b.length:Int)) then bif decide (0<=(a.length:Int)/\(a.length:Int)<=(b.length:Int)) then some ((List.take (a.length:Int).toNat b)==a) else none else some false
def jk(a:Bs)(c:Bs):Option Bool:=(w9 a c).bind fun b=>some b
def uh(a:Bs)(c:Bs):Option Int:=(nf a c).bind fun b=>some b
def qob(a:Bs)(c:Bs):Option Bool:=(uh a c).bind fun b=>some (decide (0<=b))
def qp3(fu:Nat)(c:gg):gg:=fun a d b=>c a d (af (b+1))
def qb1(d:gg):Bs->Int->Int->Bool->Option Bool:=fun b e c a=>bif a then some false else qp3 fu d b e c
def qgc(d:gg):gg:=fun a c b=>bif decide (b<c) then(ak a b).bind fun h=>bif decide (h<32) then qb1 fu d a c b true else(ak a b).bind fun f=>qb1 fu d a c b (decide (126<f)) else(jk a [32]).bind fun e=>bif !e then(qbi a [32]).bind fun i=>bif !i then(qob a [61,63]).bind fun g=>some (!g) else some false else some false
def uj(fu:Nat):Nat->gg|0=>fun _ _ _=>none|n+1=>qgc fu (uj fu n)
def qb0(a:Bs):Option Bool:=uj fu fu a (a.length:Int) 0
abbrev qvp:=Bs->Bs->Nat->Option (Bs)
def qlp(fu:Nat)(c:qvp):qvp:=fun d a b=>bif Nat.blt b (a.length) then bif decide (255<(((bz a b).1:Nat):Int)) then some [117,116,102,56] else bif decide (127<(((bz a b).1:Nat):Int)) then c [108,97,116,105,110,49] a (b+(bz a b).2) else c d a (b+(bz a b).2) else some d
def qav(fu:Nat):Nat->qvp|0=>fun _ _ _=>none|n+1=>qlp fu (qav fu n)
def qlo(a:Bs):Option (Bs):=qav fu fu [97,115,99,105,105] a 0
def qp5(a:Bs)(b:Bs):Option (Bs×Bs):=some (b,a)
def qmb(a:Bs):Option (Bs):=some a
abbrev qvq:=Int->(List (Int×Int×Int))->Int->Int->Option (Int×Bool)
def qma(fu:Nat)(f:qvq):qvq:=fun b e c a=>bif decide (a<c) then(ak e a).bind fun d=>bif decide (d.1<=b) then bif decide (b<=d.2.1) then some (d.2.2,true) else f b e c (af (a+1)) else f b e c (af (a+1)) else some (0,false)
def w7(fu:Nat):Nat->qvq|0=>fun _ _ _ _=>none|n+1=>qma fu (w7 fu n)
def ql9(b:Int)(a:List (Int×Int×Int)):Option (Int×Bool):=w7 fu fu b a (a.length:Int) 0
def qa7(a:Int):Option Int:=(ql9 fu a ([(13,13,1),(10,10,2),(0,31,3),(127,159,3),(768,879,4),(6832,6911,4),(7616,7679,4),(8400,8447,4),(65024,65039,4),(65056,65071,4),(127995,127999,4),(8205,8205,5),(127462,127487,6),(4352,4447,7),(4448,4519,8),(4520,4607,9)]:List (Int×Int×Int))).bind fun b=>some b.1
def w6(d:Bs):Option ((Int×Bool×Int)):=(jl d).bind fun a=>bif a.1==65533 then bif a.2==1 then some (0,(true,1)) else(qa7 fu a.1).bind fun c=>some (c,(false,a.2)) else(qa7 fu a.1).bind fun b=>some (b,(false,a.2))
def qa8(a:Int):Option Bool:=bif a==1 then some true else bif a==2 then some true else some (a==3)
abbrev qj6:=Int->Bool->(Int×Bool×Int)->(Int×Bool×Int)->Option Bool
def ql8:(Int×Bool×Int)->(Int×Bool×Int)->Option Bool:=fun b a=>bif b.1==7 then bif a.1==7 then some true else bif a.1==8 then some true else bif b.1==8 then bif a.1==8 then some true else bif a.1==9 then some true else bif b.1==9 then some (a.1==9) else some false else bif b.1==9 then some (a.1==9) else some false else bif b.1==8 then bif a.1==8 then some true else bif a.1==9 then some true else bif b.1==9 then some (a.1==9) else some false else bif b.1==9 then some (a.1==9) else some false
def qfe:qj6:=fun d c b a=>bif c then some true else bif b.1==5 then some (a.1==0) else bif a.1==6 then some ((Int.tmod d 2)==1) else ql8 b a
def qfd:qj6:=fun d c b a=>bif c then some false else bif a.1==4 then qfe d true b a else qfe d (a.1==5) b a
def qfc:qj6:=fun d c a b=>bif c then some true else(qa8 a.1).bind fun e=>bif e then qfd d true a b else(qa8 b.1).bind fun f=>qfd d f a b
def qfb:qj6:=fun c d a b=>bif d then some false else bif a.1==1 then qfc c (b.1==2) a b else qfc c false a b
def qfa(a:Int×Bool×Int)(b:Int×Bool×Int)(c:Int):Option Bool:=bif a.2.1 then qfb c true a b else qfb c b.2.1 a b
def qa6(a:Bs)(b:List Bs):Option ((List Bs)):=bif decide (List.length (b++([a]:List Bs))<=aq) then some (b++([a]:List Bs)) else none
abbrev qj7:=Int->Int->Bs->(Int×Bool×Int)->(List Bs)->Option (Bs×(List Bs))
abbrev z7:=Bs->(List Bs)->Option (Bs×(List Bs))
def qa9(fu:Nat)(h:z7)(d:qj7):Int->Int->Bs->(Int×Bool×Int)->(Int×Bool×Int)->(List Bs)->Option (Bs×(List Bs)):=fun e f c g a b=>d (af (e+a.2.2)) f c a b
def qme(f:z7)(g:qj7):qj7:=fun a h b d c=>bif decide (a<(b.length:Int)) then bif decide (0<=a/\a<=(b.length:Int)) then(w6 fu (List.drop a.toNat b)).bind fun e=>(qfa d e h).bind fun j=>bif !j then bif decide (0<=a/\a<=(b.length:Int)) then(qa6 (List.take a.toNat b) c).bind fun i=>bif decide (0<=a/\a<=(b.length:Int)) then f (List.drop a.toNat b) i else none else none else bif e.1 != 6 then qa9 fu f g a 0 b d e c else qa9 fu f g a (af (h+1)) b d e c else none else bif decide (0<=a/\a<=(b.length:Int)) then(qa6 (List.take a.toNat b) c).bind fun k=>bif decide (0<=a/\a<=(b.length:Int)) then f (List.drop a.toNat b) k else none else none
def oz(fu:Nat)(a:z7):Nat->qj7|0=>fun _ _ _ _ _=>none|n+1=>qme fu a (oz fu a n)
def qmd(d:z7):z7:=fun b a=>bif !(b==([]:Bs)) then(w6 fu b).bind fun c=>bif c.1==6 then oz fu d fu c.2.2 1 b c a else oz fu d fu c.2.2 0 b c a else some (b,a)
def qt(fu:Nat):Nat->z7|0=>fun _ _=>none|n+1=>qmd fu (qt fu n)
def qmc(a:Bs)(b:List Bs):Option (Bs×(List Bs)):=qt fu fu a b
def qe9(a:Bs):Option ((List Bs)):=(qmb a).bind fun c=>(qmc fu c []).bind fun b=>some b.2
def qaz(a:Bs)(b:Int):Option (Bs×Int):=some (a,b)
abbrev zcr:=(Bs×Bool×Int) ⊕ ((Bs×Bool) ⊕ ((Bs×Bool) ⊕ (Bs×Bool)))
def qay(a:Bs):Option zcr:=(qaz [97,115,99,105,105] 128).bind fun c=>(qaz [108,97,116,105,110,49] 256).bind fun b=>(dj fu c.1 a).bind fun d=>bif d then some (.inl (c.1,(true,c.2))) else(dj fu b.1 a).bind fun g=>bif g then some (.inl (b.1,(true,b.2))) else(dj fu [117,116,102,56] a).bind fun e=>bif e then some (.inr (.inl (([117,116,102,56]:Bs),true))) else(dj fu [117,116,102,49,54,98,101] a).bind fun f=>bif f then some (.inr (.inr (.inl (([117,116,102,49,54,98,101]:Bs),true)))) else some (.inr (.inr (.inr (([]:Bs),false))))
def qlx(a:Int)(b:Int):Option (Bool×Int×Bs):=some (decide (a<b),(b,([cd a]:Bs)))
def qf6:Int->Bool->Option (Bs):=fun a b=>bif b then bif decide (List.length ([240|||(cd (Int.fdiv a (2 ^ min (18:Int).toNat 32))),128|||((cd (Int.fdiv a (2 ^ min (12:Int).toNat 32)))&&&63),128|||((cd (Int.fdiv a (2 ^ min (6:Int).toNat 32)))&&&63),128|||((cd a)&&&63)]:Bs)<=aq) then some ([240|||(cd (Int.fdiv a (2 ^ min (18:Int).toNat 32))),128|||((cd (Int.fdiv a (2 ^ min (12:Int).toNat 32)))&&&63),128|||((cd (Int.fdiv a (2 ^ min (6:Int).toNat 32)))&&&63),128|||((cd a)&&&63)]:Bs) else none else bif decide (List.length ([239,191,189]:Bs)<=aq) then some ([239,191,189]:Bs) else none
def qw:Int->Int->Bool->Option (Bs):=fun a c b=>bif b then bif decide (List.length ([224|||(cd (Int.fdiv a (2 ^ min (12:Int).toNat 32))),128|||((cd (Int.fdiv a (2 ^ min (6:Int).toNat 32)))&&&63),128|||((cd a)&&&63)]:Bs)<=aq) then some ([224|||(cd (Int.fdiv a (2 ^ min (12:Int).toNat 32))),128|||((cd (Int.fdiv a (2 ^ min (6:Int).toNat 32)))&&&63),128|||((cd a)&&&63)]:Bs) else none else bif decide (65535<c) then qf6 a (decide (c<=1114111)) else qf6 a false
def qpv(a:Int):Option (Bs):=bif decide ((IntKind.u32.wrap (a))<=2047) then bif decide (List.length ([192|||(cd (Int.fdiv a (2 ^ min (6:Int).toNat 32))),128|||((cd a)&&&63)]:Bs)<=aq) then some ([192|||(cd (Int.fdiv a (2 ^ min (6:Int).toNat 32))),128|||((cd a)&&&63)]:Bs) else none else bif decide ((IntKind.u32.wrap (a))<55296) then qw a (IntKind.u32.wrap (a)) true else bif decide (57343<(IntKind.u32.wrap (a))) then qw a (IntKind.u32.wrap (a)) (decide ((IntKind.u32.wrap (a))<=65535)) else qw a (IntKind.u32.wrap (a)) false
def qf4(a:Int):Option (Bs):=bif decide ((IntKind.u32.wrap (a))<=127) then bif decide (List.length ([cd a]:Bs)<=aq) then some ([cd a]:Bs) else none else(qpv a).bind fun b=>some b
def qlv(a:Int):Option (Bool×Bs):=(qf4 a).bind fun b=>some (true,b)
def qx0(a:Int):Option (Bool×Bs):=bif decide (a<65536) then some (true,([cd (Int.fdiv a (2 ^ min (8:Int).toNat 32)),cd a]:Bs)) else some (true,([cd (Int.fdiv (IntKind.i32.wrap (55296+(Int.fdiv (IntKind.i32.wrap (a-65536)) (2 ^ min (10:Int).toNat 32)))) (2 ^ min (8:Int).toNat 32)),cd (IntKind.i32.wrap (55296+(Int.fdiv (IntKind.i32.wrap (a-65536)) (2 ^ min (10:Int).toNat 32)))),cd (Int.fdiv (IntKind.i32.wrap (56320+(IntKind.i32.wrap (((BitVec.ofInt 32 (IntKind.i32.wrap (a-65536))&&&BitVec.ofInt 32 1023).toNat:Int))))) (2 ^ min (8:Int).toNat 32)),cd (IntKind.i32.wrap (56320+(IntKind.i32.wrap (((BitVec.ofInt 32 (IntKind.i32.wrap (a-65536))&&&BitVec.ofInt 32 1023).toNat:Int)))))]:Bs))
abbrev qvs:=(Int×Int)->Bs->Bs->Nat->Int->Bs->Option ((Int×Int)×Bs)
abbrev z8:=(Int×Int)->Bs->Bs->Nat->Bs->Option ((Int×Int)×Bs)
abbrev qvt:=(Int×Int)->Bs->Bs->Nat->Option ((Int×Int)×Bs)
def qlq(fu:Nat)(j:qvs):qvs:=fun f g b a e c=>bif Nat.blt a (b.length) then(qlx (((bz b a).1:Nat):Int) e).bind fun d=>bif !d.1 then(ay 17 ((a:Nat):Int)).bind fun i=>some (i,[]) else bif decide (List.length (c++d.2.2)<=aq) then j f g b (a+(bz b a).2) d.2.1 (c++d.2.2) else none else(bq).bind fun h=>some (h,c)
def qaw(fu:Nat):Nat->qvs|0=>fun _ _ _ _ _ _=>none|n+1=>qlq fu (qaw fu n)
def qlr(fu:Nat)(i:z8):z8:=fun e f b a c=>bif Nat.blt a (b.length) then(qlv (((bz b a).1:Nat):Int)).bind fun d=>bif !d.1 then(ay 17 ((a:Nat):Int)).bind fun h=>some (h,[]) else bif decide (List.length (c++d.2)<=aq) then i e f b (a+(bz b a).2) (c++d.2) else none else(bq).bind fun g=>some (g,c)
def qax(fu:Nat):Nat->z8|0=>fun _ _ _ _ _=>none|n+1=>qlr fu (qax fu n)
def qxy(fu:Nat)(i:z8):z8:=fun e f b a c=>bif Nat.blt a (b.length) then(qx0 (((bz b a).1:Nat):Int)).bind fun d=>bif !d.1 then(ay 17 ((a:Nat):Int)).bind fun h=>some (h,[]) else bif decide (List.length (c++d.2)<=aq) then i e f b (a+(bz b a).2) (c++d.2) else none else(bq).bind fun g=>some (g,c)
def qls(fu:Nat):Nat->z8|0=>fun _ _ _ _ _=>none|n+1=>qxy fu (qls fu n)
def qxz(fu:Nat)(f:qvt):qvt:=fun d e b a=>bif Nat.blt a (b.length) then none else(bq).bind fun c=>some (c,[])
def qlt(fu:Nat):Nat->qvt|0=>fun _ _ _ _=>none|n+1=>qxz fu (qlt fu n)
def qe1(r:Bs)(a:Bs):Option ((Int×Int)×Bs):=bif decide (12000<(a.length:Int)) then(ay 1 (-1)).bind fun u=>some (u,[]) else(qay fu r).bind fun t=>cm t (fun b=>bif !b.2.1 then(ay 18 (-2)).bind fun s=>some (s,[]) else(gy a).bind fun i=>bif !i then(ay 5 (-3)).bind fun e=>some (e,[]) else qaw fu fu (0,0) b.1 a 0 b.2.2 []) (fun w=>cm w (fun q=>bif !q.2 then(ay 18 (-2)).bind fun l=>some (l,[]) else(gy a).bind fun j=>bif !j then(ay 5 (-3)).bind fun k=>some (k,[]) else qax fu fu (0,0) q.1 a 0 []) (fun v=>cm v (fun o=>bif !o.2 then(ay 18 (-2)).bind fun f=>some (f,[]) else(gy a).bind fun d=>bif !d then(ay 5 (-3)).bind fun c=>some (c,[]) else qls fu fu (0,0) o.1 a 0 []) (fun p=>bif !p.2 then(ay 18 (-2)).bind fun m=>some (m,[]) else(gy a).bind fun h=>bif !h then(ay 5 (-3)).bind fun g=>some (g,[]) else qlt fu fu (0,0) p.1 a 0)))
def qks(a:Bs):Option (Bs):=some a
def e7(e:UInt8)(b:UInt8)(c:UInt8)(d:UInt8)(f:Int)(a:Bs):Option (Int×Bs):=bif f==76 then bif decide (List.length (a++([13,10]:Bs))<=aq) then bif decide (List.length ((a++([13,10]:Bs))++([e,b,c,d]:Bs))<=aq) then some (4,(a++([13,10]:Bs))++([e,b,c,d]:Bs)) else none else none else bif decide (List.length (a++([e,b,c,d]:Bs))<=aq) then some (af (f+4),a++([e,b,c,d]:Bs)) else none
abbrev qvu:=Int->Int->Bs->Int->Bs->Option (Bs×Int×Bs)
abbrev qaa:=Bs->Int->Bs->Option (Bs×Int×Bs)
def ov(fu:Nat)(d:qaa):qvu:=fun a f c e b=>(ak [65,66,67,68,69,70,71,72,73,74,75,76,77,78,79,80,81,82,83,84,85,86,87,88,89,90,97,98,99,100,101,102,103,104,105,106,107,108,109,110,111,112,113,114,115,116,117,118,119,120,121,122,48,49,50,51,52,53,54,55,56,57,43,47] (af (((BitVec.ofInt 64 (Int.fdiv f (2 ^ min (18:Int).toNat 64))&&&BitVec.ofInt 64 63).toNat:Int)))).bind fun h=>bif decide (a<0) then(ak [65,66,67,68,69,70,71,72,73,74,75,76,77,78,79,80,81,82,83,84,85,86,87,88,89,90,97,98,99,100,101,102,103,104,105,106,107,108,109,110,111,112,113,114,115,116,117,118,119,120,121,122,48,49,50,51,52,53,54,55,56,57,43,47] (af (((BitVec.ofInt 64 (Int.fdiv f (2 ^ min (12:Int).toNat 64))&&&BitVec.ofInt 64 63).toNat:Int)))).bind fun y=>bif decide (a<1) then(ak [65,66,67,68,69,70,71,72,73,74,75,76,77,78,79,80,81,82,83,84,85,86,87,88,89,90,97,98,99,100,101,102,103,104,105,106,107,108,109,110,111,112,113,114,115,116,117,118,119,120,121,122,48,49,50,51,52,53,54,55,56,57,43,47] (af (((BitVec.ofInt 64 (Int.fdiv f (2 ^ min (6:Int).toNat 64))&&&BitVec.ofInt 64 63).toNat:Int)))).bind fun J=>bif decide (a<2) then(ak [65,66,67,68,69,70,71,72,73,74,75,76,77,78,79,80,81,82,83,84,85,86,87,88,89,90,97,98,99,100,101,102,103,104,105,106,107,108,109,110,111,112,113,114,115,116,117,118,119,120,121,122,48,49,50,51,52,53,54,55,56,57,43,47] (af (((BitVec.ofInt 64 (Int.fdiv f (2 ^ min (0:Int).toNat 64))&&&BitVec.ofInt 64 63).toNat:Int)))).bind fun K=>bif decide (a<3) then(e7 61 61 61 61 e b).bind fun F=>bif decide (0<=a/\a<=(c.length:Int)) then d (List.drop a.toNat c) F.1 F.2 else none else(e7 61 61 61 K e b).bind fun H=>bif decide (0<=a/\a<=(c.length:Int)) then d (List.drop a.toNat c) H.1 H.2 else none else(ak [65,66,67,68,69,70,71,72,73,74,75,76,77,78,79,80,81,82,83,84,85,86,87,88,89,90,97,98,99,100,101,102,103,104,105,106,107,108,109,110,111,112,113,114,115,116,117,118,119,120,121,122,48,49,50,51,52,53,54,55,56,57,43,47] (af (((BitVec.ofInt 64 (Int.fdiv f (2 ^ min (0:Int).toNat 64))&&&BitVec.ofInt 64 63).toNat:Int)))).bind fun L=>bif decide (a<3) then(e7 61 61 J 61 e b).bind fun I=>bif decide (0<=a/\a<=(c.length:Int)) then d (List.drop a.toNat c) I.1 I.2 else none else(e7 61 61 J L e b).bind fun G=>bif decide (0<=a/\a<=(c.length:Int)) then d (List.drop a.toNat c) G.1 G.2 else none else(ak [65,66,67,68,69,70,71,72,73,74,75,76,77,78,79,80,81,82,83,84,85,86,87,88,89,90,97,98,99,100,101,102,103,104,105,106,107,108,109,110,111,112,113,114,115,116,117,118,119,120,121,122,48,49,50,51,52,53,54,55,56,57,43,47] (af (((BitVec.ofInt 64 (Int.fdiv f (2 ^ min (6:Int).toNat 64))&&&BitVec.ofInt 64 63).toNat:Int)))).bind fun j=>bif decide (a<2) then(ak [65,66,67,68,69,70,71,72,73,74,75,76,77,78,79,80,81,82,83,84,85,86,87,88,89,90,97,98,99,100,101,102,103,104,105,106,107,108,109,110,111,112,113,114,115,116,117,118,119,120,121,122,48,49,50,51,52,53,54,55,56,57,43,47] (af (((BitVec.ofInt 64 (Int.fdiv f (2 ^ min (0:Int).toNat 64))&&&BitVec.ofInt 64 63).toNat:Int)))).bind fun C=>bif decide (a<3) then(e7 61 y 61 61 e b).bind fun x=>bif decide (0<=a/\a<=(c.length:Int)) then d (List.drop a.toNat c) x.1 x.2 else none else(e7 61 y 61 C e b).bind fun r=>bif decide (0<=a/\a<=(c.length:Int)) then d (List.drop a.toNat c) r.1 r.2 else none else(ak [65,66,67,68,69,70,71,72,73,74,75,76,77,78,79,80,81,82,83,84,85,86,87,88,89,90,97,98,99,100,101,102,103,104,105,106,107,108,109,110,111,112,113,114,115,116,117,118,119,120,121,122,48,49,50,51,52,53,54,55,56,57,43,47] (af (((BitVec.ofInt 64 (Int.fdiv f (2 ^ min (0:Int).toNat 64))&&&BitVec.ofInt 64 63).toNat:Int)))).bind fun B=>bif decide (a<3) then(e7 61 y j 61 e b).bind fun k=>bif decide (0<=a/\a<=(c.length:Int)) then d (List.drop a.toNat c) k.1 k.2 else none else(e7 61 y j B e b).bind fun i=>bif decide (0<=a/\a<=(c.length:Int)) then d (List.drop a.toNat c) i.1 i.2 else none else(ak [65,66,67,68,69,70,71,72,73,74,75,76,77,78,79,80,81,82,83,84,85,86,87,88,89,90,97,98,99,100,101,102,103,104,105,106,107,108,109,110,111,112,113,114,115,116,117,118,119,120,121,122,48,49,50,51,52,53,54,55,56,57,43,47] (af (((BitVec.ofInt 64 (Int.fdiv f (2 ^ min (12:Int).toNat 64))&&&BitVec.ofInt 64 63).toNat:Int)))).bind fun g=>bif decide (a<1) then(ak [65,66,67,68,69,70,71,72,73,74,75,76,77,78,79,80,81,82,83,84,85,86,87,88,89,90,97,98,99,100,101,102,103,104,105,106,107,108,109,110,111,112,113,114,115,116,117,118,119,120,121,122,48,49,50,51,52,53,54,55,56,57,43,47] (af (((BitVec.ofInt 64 (Int.fdiv f (2 ^ min (6:Int).toNat 64))&&&BitVec.ofInt 64 63).toNat:Int)))).bind fun t=>bif decide (a<2) then(ak [65,66,67,68,69,70,71,72,73,74,75,76,77,78,79,80,81,82,83,84,85,86,87,88,89,90,97,98,99,100,101,102,103,104,105,106,107,108,109,110,111,112,113,114,115,116,117,118,119,120,121,122,48,49,50,51,52,53,54,55,56,57,43,47] (af (((BitVec.ofInt 64 (Int.fdiv f (2 ^ min (0:Int).toNat 64))&&&BitVec.ofInt 64 63).toNat:Int)))).bind fun D=>bif decide (a<3) then(e7 h 61 61 61 e b).bind fun m=>bif decide (0<=a/\a<=(c.length:Int)) then d (List.drop a.toNat c) m.1 m.2 else none else(e7 h 61 61 D e b).bind fun l=>bif decide (0<=a/\a<=(c.length:Int)) then d (List.drop a.toNat c) l.1 l.2 else none else(ak [65,66,67,68,69,70,71,72,73,74,75,76,77,78,79,80,81,82,83,84,85,86,87,88,89,90,97,98,99,100,101,102,103,104,105,106,107,108,109,110,111,112,113,114,115,116,117,118,119,120,121,122,48,49,50,51,52,53,54,55,56,57,43,47] (af (((BitVec.ofInt 64 (Int.fdiv f (2 ^ min (0:Int).toNat 64))&&&BitVec.ofInt 64 63).toNat:Int)))).bind fun z=>bif decide (a<3) then(e7 h 61 t 61 e b).bind fun v=>bif decide (0<=a/\a<=(c.length:Int)) then d (List.drop a.toNat c) v.1 v.2 else none else(e7 h 61 t z e b).bind fun p=>bif decide (0<=a/\a<=(c.length:Int)) then d (List.drop a.toNat c) p.1 p.2 else none else(ak [65,66,67,68,69,70,71,72,73,74,75,76,77,78,79,80,81,82,83,84,85,86,87,88,89,90,97,98,99,100,101,102,103,104,105,106,107,108,109,110,111,112,113,114,115,116,117,118,119,120,121,122,48,49,50,51,52,53,54,55,56,57,43,47] (af (((BitVec.ofInt 64 (Int.fdiv f (2 ^ min (6:Int).toNat 64))&&&BitVec.ofInt 64 63).toNat:Int)))).bind fun q=>bif decide (a<2) then(ak [65,66,67,68,69,70,71,72,73,74,75,76,77,78,79,80,81,82,83,84,85,86,87,88,89,90,97,98,99,100,101,102,103,104,105,106,107,108,109,110,111,112,113,114,115,116,117,118,119,120,121,122,48,49,50,51,52,53,54,55,56,57,43,47] (af (((BitVec.ofInt 64 (Int.fdiv f (2 ^ min (0:Int).toNat 64))&&&BitVec.ofInt 64 63).toNat:Int)))).bind fun E=>bif decide (a<3) then(e7 h g 61 61 e b).bind fun u=>bif decide (0<=a/\a<=(c.length:Int)) then d (List.drop a.toNat c) u.1 u.2 else none else(e7 h g 61 E e b).bind fun s=>bif decide (0<=a/\a<=(c.length:Int)) then d (List.drop a.toNat c) s.1 s.2 else none else(ak [65,66,67,68,69,70,71,72,73,74,75,76,77,78,79,80,81,82,83,84,85,86,87,88,89,90,97,98,99,100,101,102,103,104,105,106,107,108,109,110,111,112,113,114,115,116,117,118,119,120,121,122,48,49,50,51,52,53,54,55,56,57,43,47] (af (((BitVec.ofInt 64 (Int.fdiv f (2 ^ min (0:Int).toNat 64))&&&BitVec.ofInt 64 63).toNat:Int)))).bind fun A=>bif decide (a<3) then(e7 h g q 61 e b).bind fun o=>bif decide (0<=a/\a<=(c.length:Int)) then d (List.drop a.toNat c) o.1 o.2 else none else(e7 h g q A e b).bind fun w=>bif decide (0<=a/\a<=(c.length:Int)) then d (List.drop a.toNat c) w.1 w.2 else none
def wu(d:qaa):qvu:=fun c e b f a=>bif decide (2<c) then(ak b 2).bind fun g=>ov fu d c (af (((BitVec.ofInt 64 (af (e*2 ^ min (8:Int).toNat 64))|||BitVec.ofInt 64 (g.toNat:Int)).toNat:Int))) b f a else ov fu d c (af (e*2 ^ min (8:Int).toNat 64)) b f a
def wt(d:qaa):qvu:=fun c e b f a=>bif decide (1<c) then(ak b 1).bind fun g=>wu fu d c (af (((BitVec.ofInt 64 (af (e*2 ^ min (8:Int).toNat 64))|||BitVec.ofInt 64 (g.toNat:Int)).toNat:Int))) b f a else wu fu d c (af (e*2 ^ min (8:Int).toNat 64)) b f a
def ou(d:qaa):qaa:=fun a c b=>bif decide (0<(a.length:Int)) then bif decide (0<(if(a.length:Int)<3 then(a.length:Int) else 3)) then(ak a 0).bind fun e=>wt fu d (if(a.length:Int)<3 then(a.length:Int) else 3) (af (((BitVec.ofInt 64 0|||BitVec.ofInt 64 (e.toNat:Int)).toNat:Int))) a c b else wt fu d (if(a.length:Int)<3 then(a.length:Int) else 3) 0 a c b else some (a,(c,b))
def kj(fu:Nat):Nat->qaa|0=>fun _ _ _=>none|n+1=>ou fu (kj fu n)
def qkt(b:Bs)(c:Int)(a:Bs):Option (Bs×Int×Bs):=kj fu fu b c a
def qep(b:Bs):Option ((Int×Int)×Bs):=bif decide (12000<(b.length:Int)) then(ay 1 (-1)).bind fun d=>some (d,[]) else(qks b).bind fun c=>(qkt fu c 0 []).bind fun a=>bif decide (0<a.2.1) then bif decide (List.length (a.2.2++([13,10]:Bs))<=aq) then(bq).bind fun f=>some (f,a.2.2++([13,10]:Bs)) else none else(bq).bind fun e=>some (e,a.2.2)
def qbz(a:Bs):Option (Bs):=(qep fu a).bind fun c=>(xh c.2 [13,10] []).bind fun b=>some b
def xf(a:UInt8)(c:Bs):Option (Bs):=(lj c).bind fun b=>bif decide (List.length (b++([a]:Bs))<=aq) then some (b++([a]:Bs)) else none
def qes(a:UInt8):Option Bool:=bif decide (97<=a) then bif decide (a<=122) then some true else bif decide (65<=a) then bif decide (a<=90) then some true else bif decide (48<=a) then some (decide (a<=57)) else some false else bif decide (48<=a) then some (decide (a<=57)) else some false else bif decide (65<=a) then bif decide (a<=90) then some true else bif decide (48<=a) then some (decide (a<=57)) else some false else bif decide (48<=a) then some (decide (a<=57)) else some false
def qfp(a:Bs)(c:Bs):Option (Int×Bs×Bs):=(lj c).bind fun b=>bif decide (List.length (b++a)<=aq) then some ((a.length:Int),(a,b++a)) else none
def qp2(fu:Nat)(f:zt):zt:=fun d e c a=>bif decide (c<e) then(ak d c).bind fun b=>bif b==32 then(xf 95 a).bind fun i=>f d e (af (c+1)) i else(qes b).bind fun k=>bif k then(xf b a).bind fun m=>f d e (af (c+1)) m else(ow (qg b (min (4:Int).toNat 8))).bind fun g=>(ow b).bind fun j=>(qfp ([61,g,j]:Bs) a).bind fun h=>f d e (af (c+1)) h.2.2 else(t7 a).bind fun l=>some l
def qby(fu:Nat):Nat->zt|0=>fun _ _ _ _=>none|n+1=>qp2 fu (qby fu n)
def qgb(a:Bs):Option (Bs):=qby fu fu a (a.length:Int) 0 []
def ul(a:Bs)(e:Bs):Option (Bs):=(qe1 fu a e).bind fun d=>bif a==([117,116,102,56]:Bs) then bif decide (List.length ([61,63]:Bs)+a.length<=bf) then bif decide (List.length (([61,63]:Bs)++a)+List.length ([63,66,63]:Bs)<=bf) then(qbz fu d.2).bind fun c=>bif decide (List.length ((([61,63]:Bs)++a)++[63,66,63])+c.length<=bf) then bif decide (List.length (((([61,63]:Bs)++a)++[63,66,63])++c)+List.length ([63,61]:Bs)<=bf) then some ((((([61,63]:Bs)++a)++[63,66,63])++c)++[63,61]) else none else none else none else none else bif decide (List.length ([61,63]:Bs)+a.length<=bf) then bif decide (List.length (([61,63]:Bs)++a)+List.length ([63,81,63]:Bs)<=bf) then(qgb fu d.2).bind fun b=>bif decide (List.length ((([61,63]:Bs)++a)++[63,81,63])+b.length<=bf) then bif decide (List.length (((([61,63]:Bs)++a)++[63,81,63])++b)+List.length ([63,61]:Bs)<=bf) then some ((((([61,63]:Bs)++a)++[63,81,63])++b)++[63,61]) else none else none else none else none
abbrev zda:=Bs×Bs×(List Bs)
def qbw(b:Bs)(c:Bs)(a:Bs)(d:List Bs):Option zda:=bif !(a==([]:Bs)) then bif decide (a.length+b.length<=bf) then(ul fu c (a++b)).bind fun f=>bif decide (75<(f.length:Int)) then(ul fu c a).bind fun e=>bif decide (List.length (d++([e]:List Bs))<=aq) then bif decide (List.length ([]:Bs)+b.length<=bf) then some (c,(([]:Bs)++b,d++([e]:List Bs))) else none else none else bif decide (a.length+b.length<=bf) then some (c,(a++b,d)) else none else none else bif decide (a.length+b.length<=bf) then some (c,(a++b,d)) else none
abbrev qgj:=Bs×Bs×Bs×Bs×(List Bs)
abbrev qvy:=Int->Int->Bs->Bs->Bs->Bs->(List Bs)->Bs->Nat->(List Bs)->Option qgj
abbrev qd8:=Int->Int->Bs->Bs->Bs->Bs->(List Bs)->(List Bs)->Option qgj
def qp7(l:qd8)(m:qvy):qvy:=fun d e h i k j f a b c=>bif Nat.blt b (a.length) then(qbw fu (ib (((bz a b).1:Nat):Int)) k j c).bind fun g=>m d e h i g.1 g.2.1 f a (b+(bz a b).2) g.2.2 else l d (af (e+1)) h i k j f c
def qb2(fu:Nat)(a:qd8):Nat->qvy|0=>fun _ _ _ _ _ _ _ _ _ _=>none|n+1=>qp7 fu a (qb2 fu a n)
def qp6(k:qd8):qd8:=fun c a g e j i b d=>bif decide (a<c) then bif decide (0<=a/\a.toNat<b.length) then(b[a.toNat]?).bind fun h=>(ul fu e h).bind fun l=>bif decide ((l.length:Int)<=75) then(qbw fu h j i d).bind fun f=>k c (af (a+1)) g e f.1 f.2.1 b f.2.2 else qb2 fu k fu c a g e j i b h 0 d else none else some (g,(e,(j,(i,d))))
def uk(fu:Nat):Nat->qd8|0=>fun _ _ _ _ _ _ _ _=>none|n+1=>qp6 fu (uk fu n)
def qge(b:Bs)(c:Bs)(d:Bs)(f:Bs)(e:List Bs):Option qgj:=(qe9 fu b).bind fun a=>uk fu fu (a.length:Int) 0 b c d f a e
def qbv(a:Bs):Option (Bs×(Int×Int)):=bif decide (1000<(a.length:Int)) then(ay 1 (-1)).bind fun j=>some (([]:Bs),j) else(gy a).bind fun i=>bif !i then(ay 5 (-2)).bind fun h=>some (([]:Bs),h) else(qb0 fu a).bind fun l=>bif l then(bq).bind fun k=>some (a,k) else(qlo fu a).bind fun g=>(qp5 g a).bind fun e=>(qge fu e.1 e.2 g ([]:Bs) []).bind fun b=>(ul fu b.2.2.1 b.2.2.2.1).bind fun f=>bif decide (List.length (b.2.2.2.2++([f]:List Bs))<=aq) then(o6 (b.2.2.2.2++([f]:List Bs)) [32]).bind fun c=>(bq).bind fun d=>some (c,d) else none
abbrev uo:=Bs×Bs×(Int×Int)
abbrev wk:=(List Bs)->Int->(List Bs)->Int->Int->(Int×Int)->Option uo
def ql6(fu:Nat)(f:wk):wk:=fun e g c b a d=>f e g c b (af (a+1)) d
def ql4(f:wk):(List Bs)->Int->Bs->(List Bs)->Int->Int->(Int×Int)->Option uo:=fun e h g c b a d=>ql6 fu f e (af (h+(g.length:Int))) c b a d
def ue(i:wk):(List Bs)->Int->Int->Bs->(List Bs)->Int->Int->Bool->(Int×Int)->Option uo:=fun f k h j d c b e a=>bif e then(ay 11 h).bind fun g=>some (([]:Bs),(([]:Bs),g)) else ql4 fu i f k j d c b a
def ql5:Bs->Bs->(Int×Int)->Option uo:=fun f d e=>(xi fu d [32,9]).bind fun a=>bif decide (4000<(a.length:Int)) then(ay 1 (-1)).bind fun c=>some (([]:Bs),(([]:Bs),c)) else(bq).bind fun b=>some (f,(a,b))
def wy:Bs->Bs->Bool->(Int×Int)->Option uo:=fun e d a b=>bif a then(ay 11 (-2)).bind fun c=>some (([]:Bs),(([]:Bs),c)) else ql5 fu e d b
def ql3(i:wk):wk:=fun g h d c a b=>bif decide (a<c) then(ak d a).bind fun e=>(wz fu e).bind fun j=>bif j then ue fu i g h a e d c a true b else bif decide (0<a) then bif e==([]:Bs) then ue fu i g h a e d c a true b else(ak e 0).bind fun o=>(gl o).bind fun p=>ue fu i g h a e d c a (!p) b else ue fu i g h a e d c a false b else bif decide (8000<h) then(ay 1 (-1)).bind fun l=>some (([]:Bs),(([]:Bs),l)) else(o6 g []).bind fun k=>(ug k [58]).bind fun f=>bif !f.2.2 then wy fu f.1 f.2.1 true b else(w3 fu f.1).bind fun m=>wy fu f.1 f.2.1 (!m) b
def ww(fu:Nat):Nat->wk|0=>fun _ _ _ _ _ _=>none|n+1=>ql3 fu (ww fu n)
def qa4(a:List Bs):Option uo:=bif decide (300<(a.length:Int)) then(ay 2 (-1)).bind fun b=>some (([]:Bs),(([]:Bs),b)) else ww fu fu a 0 a (a.length:Int) 0 (0,0)
abbrev qvz:=Int->Bs->Nat->Option Int
def q1n(fu:Nat)(d:qvz):qvz:=fun c a b=>bif Nat.blt b (a.length) then d (af (c+1)) a (b+(bz a b).2) else some c
def qpt(fu:Nat):Nat->qvz|0=>fun _ _ _=>none|n+1=>q1n fu (qpt fu n)
def qps(a:Bs):Option Int:=qpt fu fu 0 a 0
def q09(fu:Nat)(f:wg):wg:=fun c b e a=>bif decide (e<(af (b-1))) then(jl c).bind fun d=>bif decide (0<=d.2/\d.2<=(c.length:Int)) then bif decide (0<=e/\e.toNat<a.length) then(a[e.toNat]?).bind fun h=>bif decide (0<=d.2/\d.2<=(c.length:Int)) then f (List.drop d.2.toNat c) b (af (e+1)) (List.set a e.toNat (List.take d.2.toNat c)) else none else none else none else bif decide (0<b) then bif decide (0<=af (b-1)/\(af (b-1)).toNat<a.length) then(a[(af (b-1)).toNat]?).bind fun g=>some (List.set a ((af (b-1)).toNat) c) else none else some a
def qo4(fu:Nat):Nat->wg|0=>fun _ _ _ _=>none|n+1=>q09 fu (qo4 fu n)
def qo3:Bs->Int->Option ((List Bs)):=fun b a=>bif decide (0<=a/\a=a/\a<=4294967296) then qo4 fu fu b a 0 (List.replicate a.toNat []) else none
def qo2:Bs->Int->Int->Bool->Option ((List Bs)):=fun b c d a=>bif a then qo3 fu b d else qo3 fu b c
def q08(b:Bs)(a:Int):Option ((List Bs)):=(qps fu b).bind fun c=>bif decide (a<0) then qo2 fu b a c true else qo2 fu b a c (decide (c<a))
abbrev qv0:=Bs->Bs->Int->Option Int
def q0r(fu:Nat)(e:qv0):qv0:=fun c a d=>(uh c a).bind fun b=>bif b==(-1) then some d else bif decide (0<=af (b+(a.length:Int))/\af (b+(a.length:Int))<=(c.length:Int)) then e (List.drop (af (b+(a.length:Int))).toNat c) a (af (d+1)) else none
def qoc(fu:Nat):Nat->qv0|0=>fun _ _ _=>none|n+1=>q0r fu (qoc fu n)
def q0q(b:Bs)(a:Bs):Option Int:=bif(a.length:Int)==0 then(qps fu b).bind fun d=>some (af (d+1)) else bif(a.length:Int)==1 then(ak a 0).bind fun e=>(qet b e).bind fun c=>some c else qoc fu fu b a 0
abbrev qv2:=Bs->Bs->Int->Int->Int->(List Bs)->Option ((List Bs))
def qf0(fu:Nat)(h:qv2):qv2:=fun c e f g a b=>bif decide (a<g) then(uh c e).bind fun d=>bif decide (d<0) then bif decide (0<=a/\a.toNat<b.length) then(b[a.toNat]?).bind fun k=>bif decide (0<=af (a+1)/\af (a+1)<=(List.length (List.set b a.toNat c):Int)) then some (List.take (af (a+1)).toNat (List.set b a.toNat c)) else none else none else bif decide (0<=af (d+f)/\af (d+f)<=(c.length:Int)) then bif decide (0<=a/\a.toNat<b.length) then(b[a.toNat]?).bind fun i=>bif decide (0<=af (d+(e.length:Int))/\af (d+(e.length:Int))<=(c.length:Int)) then h (List.drop (af (d+(e.length:Int))).toNat c) e f g (af (a+1)) (List.set b a.toNat (List.take (af (d+f)).toNat c)) else none else none else none else bif decide (0<=a/\a.toNat<b.length) then(b[a.toNat]?).bind fun j=>bif decide (0<=af (a+1)/\af (a+1)<=(List.length (List.set b a.toNat c):Int)) then some (List.take (af (a+1)).toNat (List.set b a.toNat c)) else none else none
def qv(fu:Nat):Nat->qv2|0=>fun _ _ _ _ _ _=>none|n+1=>qf0 fu (qv fu n)
def qf1:Bs->Bs->Int->Int->Option ((List Bs)):=fun a d c b=>bif decide (0<=(if af ((a.length:Int)+1)<b then af ((a.length:Int)+1) else b)/\(if af ((a.length:Int)+1)<b then af ((a.length:Int)+1) else b)=(if af ((a.length:Int)+1)<b then af ((a.length:Int)+1) else b)/\(if af ((a.length:Int)+1)<b then af ((a.length:Int)+1) else b)<=4294967296) then qv fu fu a d c (af ((if af ((a.length:Int)+1)<b then af ((a.length:Int)+1) else b)-1)) 0 (List.replicate (if af ((a.length:Int)+1)<b then af ((a.length:Int)+1) else b).toNat []) else none
def qo5(c:Bs)(a:Bs)(d:Int)(b:Int):Option ((List Bs)):=bif b==0 then some [] else bif a==([]:Bs) then(q08 fu c b).bind fun f=>some f else bif decide (b<0) then(q0q fu c a).bind fun e=>qf1 fu c a d (af (e+1)) else qf1 fu c a d b
def qfv(d:Bs)(c:Bs)(b:Int):Option ((List Bs)):=(qo5 fu d c 0 b).bind fun a=>some a
abbrev qkc:=Bs->Int->Bs->Option (Bool×Bs)
def qga(fu:Nat)(f:qkc):Bs->Int->Bool->Bs->Option (Bool×Bs):=fun e d b a=>bif b then(ak e d).bind fun c=>bif decide (List.length (a++([c]:Bs))<=aq) then f e (af (d+1)) (a++([c]:Bs)) else none else some (false,[])
def qp1(d:qkc):qkc:=fun c b a=>bif decide (b<(c.length:Int)) then(ak c b).bind fun h=>bif h==95 then bif decide (List.length (a++([32]:Bs))<=aq) then d c (af (b+1)) (a++([32]:Bs)) else none else(ak c b).bind fun f=>bif f==61 then bif decide (0<=af (b+1)/\af (b+1)<=(c.length:Int)) then(oy (List.drop (af (b+1)).toNat c)).bind fun e=>bif !e.2 then some (false,[]) else bif decide (List.length (a++([e.1]:Bs))<=aq) then d c (af ((af (b+2))+1)) (a++([e.1]:Bs)) else none else none else(ak c b).bind fun g=>bif decide (33<=g) then(ak c b).bind fun i=>qga fu d c b (decide (i<=126)) a else qga fu d c b false a else some (true,a)
def qbx(fu:Nat):Nat->qkc|0=>fun _ _ _=>none|n+1=>qp1 fu (qbx fu n)
def qf9:Bs->Bool->Option (Bool×Bs):=fun b a=>bif a then qbx fu fu b 0 [] else some (false,[])
def qf8:Bs->Bs->Bool->Option (Bool×Bs):=fun a b c=>bif c then bif decide (a.length<=maxLen) then(qao fu a).bind fun d=>(qbz fu d.2).bind fun e=>some (e==a,d.2) else none else bif b==([81]:Bs) then qf9 fu a true else qf9 fu a (b==([113]:Bs))
def qf7(a:Bs)(b:Bs):Option (Bool×Bs):=bif a==([66]:Bs) then qf8 fu b a true else qf8 fu b a (a==([98]:Bs))
abbrev qv3:=Bs->Int->Int->Int->(List Int)->Option (Int×(List Int))
def qlw(fu:Nat)(g:qv3):qv3:=fun f e b c a=>bif decide (b<e) then(ak f b).bind fun d=>bif decide (c<=(d.toNat:Int)) then bif decide (List.length (a++([65533]:List Int))<=aq) then g f e (af (b+1)) c (a++([65533]:List Int)) else none else bif decide (List.length (a++([(d.toNat:Int)]:List Int))<=aq) then g f e (af (b+1)) c (a++([(d.toNat:Int)]:List Int)) else none else some (c,a)
def qa0(fu:Nat):Nat->qv3|0=>fun _ _ _ _ _=>none|n+1=>qlw fu (qa0 fu n)
def qe2(a:Bs)(b:Int):Option (Int×(List Int)):=qa0 fu fu a (a.length:Int) 0 b []
def qlu(a:Bs):Option ((List Int)):=bif decide (a.length<=4294967296) then some (eg a) else none
def qly(b:Int)(a:Bs):Option (Int×Bs):=(ak a b).bind fun d=>(ak a (af (b+1))).bind fun c=>some (IntKind.i32.wrap (((BitVec.ofInt 32 (IntKind.i32.wrap ((d.toNat:Int)*2 ^ min (8:Int).toNat 32))|||BitVec.ofInt 32 (c.toNat:Int)).toNat:Int)),a)
abbrev qac:=Int->Bs->(List Int)->Option ((List Int))
def qe4(fu:Nat)(d:qac):Int->Int->Bs->(List Int)->Option ((List Int)):=fun e c b a=>bif decide (55296<=c) then bif decide (c<57344) then bif decide (List.length (a++([65533]:List Int))<=aq) then d (af (e+2)) b (a++([65533]:List Int)) else none else bif decide (List.length (a++([c]:List Int))<=aq) then d (af (e+2)) b (a++([c]:List Int)) else none else bif decide (List.length (a++([c]:List Int))<=aq) then d (af (e+2)) b (a++([c]:List Int)) else none
def ql0(f:qac):Int->Int->Int->Bool->Bs->(List Int)->Option ((List Int)):=fun e d g c a b=>bif c then qe4 fu f (af (e+2)) (IntKind.i32.wrap ((IntKind.i32.wrap ((IntKind.i32.wrap (65536+(IntKind.i32.wrap ((IntKind.i32.wrap (d-55296))*2 ^ min (10:Int).toNat 32))))+g))-56320)) a b else qe4 fu f e d a b
def qe3(f:qac):Int->Int->Bool->Bs->(List Int)->Option ((List Int)):=fun d e g c a=>bif g then(qly (af (d+2)) c).bind fun b=>bif decide (56320<=b.1) then ql0 fu f d e b.1 (decide (b.1<57344)) b.2 a else ql0 fu f d e b.1 false b.2 a else qe4 fu f d e c a
def qx2(e:qac):qac:=fun c d a=>bif decide (c<(d.length:Int)) then bif(af (c+1))==(d.length:Int) then bif decide (List.length (a++([65533]:List Int))<=aq) then some (a++([65533]:List Int)) else none else(qly c d).bind fun b=>bif decide (55296<=b.1) then bif decide (b.1<56320) then qe3 fu e c b.1 (decide ((af (c+3))<(b.2.length:Int))) b.2 a else qe3 fu e c b.1 false b.2 a else qe3 fu e c b.1 false b.2 a else some a
def qlz(fu:Nat):Nat->qac|0=>fun _ _ _=>none|n+1=>qx2 fu (qlz fu n)
def qx1(a:Bs):Option ((List Int)):=qlz fu fu 0 a []
def qe0(m:Bs)(a:Bs):Option (Bs×(Int×Int)):=bif decide (12000<(a.length:Int)) then(ay 1 (-1)).bind fun r=>some (([]:Bs),r) else(qay fu m).bind fun q=>cm q (fun k=>bif !k.2.1 then(ay 18 (-2)).bind fun o=>some (([]:Bs),o) else(qe2 fu a k.2.2).bind fun f=>(bq).bind fun d=>some (gd f.2,d)) (fun u=>cm u (fun s=>bif !s.2 then(ay 18 (-2)).bind fun i=>some (([]:Bs),i) else(qlu a).bind fun g=>(bq).bind fun h=>some (gd g,h)) (fun t=>cm t (fun l=>bif !l.2 then(ay 18 (-2)).bind fun e=>some (([]:Bs),e) else(qx1 fu a).bind fun c=>(bq).bind fun b=>some (gd c,b)) (fun p=>bif !p.2 then(ay 18 (-2)).bind fun j=>some (([]:Bs),j) else none)))
def qp4:(List Bs)->Option (Bs×Int×Bool):=fun a=>(ak a 1).bind fun j=>(ak a 2).bind fun h=>(qf7 fu j h).bind fun c=>(ak a 0).bind fun g=>(qe0 fu g c.2).bind fun b=>(ak a 0).bind fun d=>(ak a 1).bind fun e=>(ak a 2).bind fun f=>bif c.1 then(cy b.2).bind fun i=>some (b.1,(af ((af ((af ((af (2+(d.length:Int)))+(e.length:Int)))+(f.length:Int)))+4),!i)) else some (b.1,(af ((af ((af ((af (2+(d.length:Int)))+(e.length:Int)))+(f.length:Int)))+4),false))
def qgd:(List Bs)->Bool->Option (Bs×Int×Bool):=fun b a=>bif a then some (([]:Bs),(0,false)) else qp4 fu b
def xn(a:Bs):Option (Bs×Int×Bool):=(jk a [61,63]).bind fun d=>bif !d then some (([]:Bs),(0,false)) else bif decide (0<=(2:Int)/\2<=(if 75<(a.length:Int) then 75 else(a.length:Int))/\(if 75<(a.length:Int) then 75 else(a.length:Int))<=(a.length:Int)) then(qfv fu (List.take ((if 75<(a.length:Int) then 75 else(a.length:Int)).toNat-(2:Int).toNat) (List.drop (2:Int).toNat a)) [63] 4).bind fun b=>bif decide ((b.length:Int)<4) then qgd fu b true else(ak b 3).bind fun c=>(jk c [61]).bind fun e=>qgd fu b (!e) else none
def xg(a:Bs)(c:Bs):Option (Int×Bs):=(lj c).bind fun b=>bif decide (List.length (b++a)<=aq) then some ((a.length:Int),b++a) else none
abbrev tw:=Bs->Int->Int->(Int×Int)->Bs->Option (Bs×(Int×Int))
def qbu(fu:Nat)(f:tw):tw:=fun c e d b a=>f c e (af (d+1)) b a
def qbt(g:tw):Bs->Int->Int->Bool->(Int×Int)->Bs->Option (Bs×(Int×Int)):=fun e c b f d a=>bif f then bif decide (0<=c/\c<=af (b+1)/\af (b+1)<=(e.length:Int)) then(xg (List.take ((af (b+1)).toNat-c.toNat) (List.drop c.toNat e)) a).bind fun h=>qbu fu g e (-1) b d h.2 else none else qbu fu g e c b d a
def qbs(f:tw):tw:=fun c e d b a=>bif decide (0<=e) then(ak c d).bind fun h=>(gl h).bind fun g=>qbt fu f c e d (!g) b a else qbt fu f c e d false b a
def ui(g:tw):tw:=fun b d c e a=>bif decide (c<(b.length:Int)) then bif decide (0<=c/\c<=(b.length:Int)) then(xn fu (List.drop c.toNat b)).bind fun f=>bif !f.2.2 then bif decide (d<0) then(ak b c).bind fun j=>(xf j a).bind fun h=>qbs fu g b d c e h else qbs fu g b d c e a else(xg f.1 a).bind fun p=>g b (af (c+f.2.1)) (af (c+f.2.1)) e p.2 else none else bif decide (0<=d) then bif decide (0<=d/\d<=(b.length:Int)) then(xg (List.drop d.toNat b) a).bind fun k=>(t7 k.2).bind fun l=>(bq).bind fun i=>some (l,i) else none else(t7 a).bind fun o=>(bq).bind fun m=>some (o,m)
def ll(fu:Nat):Nat->tw|0=>fun _ _ _ _ _=>none|n+1=>ui fu (ll fu n)
def xm(a:Bs):Option (Bs×(Int×Int)):=bif decide (4000<(a.length:Int)) then(ay 1 (-1)).bind fun b=>some (([]:Bs),b) else ll fu fu a (-1) 0 (0,0) []
abbrev qke:=wV->Bs->Int->(List Bs)->Int->Int->(Int×Int)->(List Bool)->Bs->Option ((Int×Int)×Bs)
abbrev qad:=wV->(List Bs)->Int->Int->(Int×Int)->(List Bool)->Bs->Option ((Int×Int)×Bs)
def qex(m:qad)(o:qke):wV->Bs->Int->(List Bs)->Int->Int->Bool->(Int×Int)->(List Bool)->Bs->Option ((Int×Int)×Bs):=fun h i a d e g j f b c=>bif j then bif decide (0<=a/\a.toNat<b.length) then(b[a.toNat]?).bind fun p=>(ak h a).bind fun l=>(qat fu l).bind fun k=>bif decide (List.length (c++k)<=aq) then m h d e (af (g+1)) f (List.set b a.toNat true) (c++k) else none else none else o h i (af (a-1)) d e g f b c
def qew(j:qad)(k:qke):qke:=fun i d a e f h g b c=>bif decide (0<=a) then bif decide (0<=a/\a.toNat<b.length) then(b[a.toNat]?).bind fun m=>bif !m then(ak i a).bind fun o=>(dj fu o.1 d).bind fun l=>qex fu j k i d a e f h l g b c else qex fu j k i d a e f h false g b c else none else j i e f (af (h+1)) g b c
def uc(fu:Nat)(a:qad):Nat->qke|0=>fun _ _ _ _ _ _ _ _ _=>none|n+1=>qew fu a (uc fu a n)
def qev(i:qad):qad:=fun g d c a e f b=>bif decide (a<c) then(ak d a).bind fun j=>uc fu i fu g j (af ((g.length:Int)-1)) d c a e f b else(bq).bind fun h=>some (h,b)
def ub(fu:Nat):Nat->qad|0=>fun _ _ _ _ _ _ _=>none|n+1=>qev fu (ub fu n)
def qas(a:List (Bs×Bs))(b:List Bs):Option ((Int×Int)×Bs):=(w8 fu a).bind fun c=>(cy c).bind fun e=>bif e then some (c,[]) else bif decide (300<(b.length:Int)) then(ay 2 (-2)).bind fun d=>some (d,[]) else bif decide (0<=(a.length:Int)/\(a.length:Int)=(a.length:Int)/\(a.length:Int)<=4294967296) then ub fu fu a b (b.length:Int) 0 (0,0) (List.replicate (a.length:Int).toNat false) [] else none
def qen(a:Bs)(b:Bs):Option Bool:=some (a==b)
def qkq:Bs->Bs->(List Bs)->(List Bs)->Option Bool:=fun f i c d=>(qa4 fu c).bind fun b=>(qa4 fu d).bind fun a=>(xm fu b.2.1).bind fun e=>(xm fu a.2.1).bind fun j=>(qas fu ([(([83,117,98,106,101,99,116]:Bs),b.2.1)]:List (Bs×Bs)) ([([115,117,98,106,101,99,116]:Bs)]:List Bs)).bind fun h=>(qas fu ([(([83,117,98,106,101,99,116]:Bs),a.2.1)]:List (Bs×Bs)) ([([115,117,98,106,101,99,116]:Bs)]:List Bs)).bind fun g=>bif b.2.2.1==0 then bif a.2.2.1==0 then bif e.2.1==0 then bif j.2.1==0 then bif h.1.1==0 then bif g.1.1==0 then bif e.1==f then bif j.1==i then bif !(f==i) then some true else(qen h.2 g.2).bind fun k=>some k else some false else some false else some false else some false else some false else some false else some false else some false
def qo:Bs->Bs->Bool->(List Bs)->(Int×Int)->(List Bs)->Option Bool:=fun e f b a d c=>bif b then bif d.1==0 then some true else some ((a.length:Int)==0) else qkq fu e f a c
def qkp:Bs->Bs->Bs->Bs->Option Bool:=fun c d f e=>(qr fu [83,117,98,106,101,99,116] f).bind fun a=>(qr fu [83,117,98,106,101,99,116] e).bind fun b=>bif a.1.1 != 0 then qo fu c d true a.2 a.1 b.2 else bif b.1.1 != 0 then qo fu c d true a.2 a.1 b.2 else bif decide (300<(a.2.length:Int)) then qo fu c d true a.2 a.1 b.2 else qo fu c d (decide (300<(b.2.length:Int))) a.2 a.1 b.2
def qeo:Bs->Bs->Bs->Bs->Bool->(Int×Int)->Option Bool:=fun d f c e a b=>bif a then bif b.1==0 then some true else some (c==([]:Bs)) else qkp fu d f c e
def wq(d:Bs)(c:Bs):Option Bool:=(qkr fu).bind fun e=>bif !e then some false else(qbv fu d).bind fun a=>(qbv fu c).bind fun b=>bif a.2.1 != 0 then qeo fu d c a.1 b.1 true a.2 else qeo fu d c a.1 b.1 (b.2.1 != 0) a.2
end
end Go.Sym

