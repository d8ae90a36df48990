/- What the claim rests on, part 3: gathered texts. -/
import Derived.RangeFuncRecord
import Derived.Lib.ItoaNum
import Derived.Lib.Index
import Derived.Lib.AtoiAll
import Derived.Shelf.SlSortCmp.Insertion
import Derived.Lib.Replace
import Derived.Lib.Repeat
import Derived.Lib.MapLaws
import Derived.Lib.ValidLaws
import Derived.Lib.BytesEntry
import Derived.Laws.Externs
import Derived.WalkKit
import Derived.ProofKit
import Derived.OpenShut
import Derived.ShutString
import Derived.ChangeOld
import Derived.Carry
import Derived.Handed
import Derived.Deep.DeepHandedRow
import Derived.LaidMore
import Derived.Lay
import Derived.LaidHandle
import Derived.MakeChecks
import Derived.LaidLaws
import Derived.Test.YtbcijcbgdaggdabGreatDoorSyU2
set_option linter.defProp false
set_option linter.unusedSimpArgs false
set_option linter.unusedVariables false
namespace Go.Sym
open Go.RowKit
variable[LC]
def g8(i:Nat)(c:Code):Code:=match c with
 |.seq a b=>match i with|0=>a|_=>b
 |.cond _ a b=>match i with|0=>a|_=>b
 |.block _ a=>a|.loop a=>a|.scope a=>a|.rangeFunc _ _ a b=>match i with|0=>a|_=>b
 |c=>c
def sub(body:Code):List Nat->Code|[]=>body|i::p=>g8 i (sub body p)
structure dp where
 kd:Nat
 path:List Nat
 it:Item
def uo(body:Code)(kd:Nat)(p:List Nat):Item:=match kd with
 |0 => .code (sub body p)|1=>match sub body p with|.block id _ => .inBlock id|c => .code c
 |2=>match sub body p with|.loop x => .inLoop x|c => .code c
 |3=>match sub body p with|.scope x => .inScope x|c => .code c
 |_ => .beginRound
def dp.Ok(body:Code)(i:dp):Prop:=i.it=uo body i.kd i.path
abbrev ww:=List (Nat×List Nat)
def lz(body:Code):ww->List dp|[]=>[]|(kd,p)::r=>⟨kd,p,uo body kd p⟩::lz body r
def dv:List dp->List Item|[]=>[]|i::r=>i.it::dv r
def qbu:ww->List dp->Bool|[],[]=>true|(kd,p)::r,i::k=>Nat.beq kd i.kd&&ob p i.path&&qbu r k|_,_=>false
def q6z{body:Code}:∀{key:ww}{k:List dp},qbu key k=true->(∀i∈k,i.Ok body)->dv (lz body key)=dv k
 |[],[],_,_=>rfl|(kd,p)::r,⟨kd',p',it⟩::k,h,hk=>by
  simp only[qbu,qA]at h;obtain⟨⟨h1,h2⟩,h3⟩:=h;have h1:=qN h1;have h2:=qmu h2;subst h1 h2;have ho:it=uo body kd p:=hk _ qH;simp only[lz,dv];rw[q6z h3 (fun i hi=>hk i (qE _ hi)),ho]
 |[],_::_,h,_=>by cases h
 |_::_,[],h,_=>by cases h
def qxk{body:Code}:∀{key:ww},∀i∈lz body key,i.Ok body
 |[],i,h=>by cases h
 |(kd,p)::r,i,h=>by
  rcases List.mem_cons.1 h with rfl|h
  ·rfl
  ·exact qxk i h
def zkz{body:Code}{kd:Nat}{p:List Nat}{c:Code}(h:Item.code c=uo body kd p):sub body p=c:=by
 unfold uo at h;split at h
 ·injection h with h;exact h.symm
 ·split at h
  ·cases h
  ·injection h with h;exact h.symm
 ·split at h
  ·cases h
  ·injection h with h;exact h.symm
 ·split at h
  ·cases h
  ·injection h with h;exact h.symm
 ·cases h
def zk0{body:Code}{kd:Nat}{p:List Nat}{c:Code}(h:Item.inLoop c=uo body kd p):sub body p = .loop c:=by
 unfold uo at h;split at h
 ·cases h
 ·split at h<;>cases h
 ·split at h
  ·rename_i e;injection h with h;subst h;exact e
  ·cases h
 ·split at h<;>cases h
 ·cases h
def od(id:Nat):List dp->Option (List dp)
 |[]=>none|i::k=>match i.it with|.inBlock id'=>if id'==id then some k else od id k|_=>od id k
def qw3{id:Nat}:∀{k k':List dp},od id k=some k'->exitTo id (dv k)=some (dv k')/\∀i∈k',i∈k
 |[],_,h=>by cases h
 |⟨kd,p,it⟩::k,k',h=>by
  simp only[od]at h;split at h
  ·rename_i id';split at h
   ·rename_i he;simp only[qI]at h;subst h;exact⟨by simp only[dv,exitTo];rw[qX he],fun i hi=>qE _ hi⟩
   ·rename_i he;obtain⟨h1,h2⟩:=qw3 h;exact⟨by simp only[dv,exitTo];rw[qW he];exact h1,fun i hi=>qE _ (h2 i hi)⟩
  ·rename_i hne;obtain⟨h1,h2⟩:=qw3 h;refine⟨?_,fun i hi=>qE _ (h2 i hi)⟩
   (try simp only at hne)
   simp only[dv];cases it<;>first
    |(exfalso;exact hne _ rfl)
    |(simp only[exitTo];exact h1)
def qvv(P:Program)(s:St):ResultVar->Option AV
 |.tmp t=>ae s.fr t|.cell t T=>match ae s.fr t with
  |some (.ptr b off)=>match ae s.hp b with|some (.cells cs _)=>mo P T cs off|_=>none
  |some (.oel k sz 0 0)=>match ae s.hp k,u9 P T,dw P T with|some (.row τ l _),some true,some _=>bif τ.is1&&Nat.beq sz 1 then some (.arr τ l) else none|_,_,_=>none
  |_=>none
def qy4(P:Program)(s:St):ResultVar->Bool
 |.tmp _=>true|.cell t T=>match ae s.fr t with
  |some (.oel k _ 0 0)=>match ae s.hp k,dw P T with|some (.row _ l _),some n=>decide (l.length=n)|_,_=>true
  |_=>true
def qhw(P:Program)(s:St):List ResultVar->Bool|[]=>true|x::xs=>qy4 P s x&&qhw P s xs
def qba(P:Program)(s:St):List ResultVar->Option (List AV)
 |[]=>some []|x::xs=>match qvv P s x with
  |some v=>match qba P s xs with|some vs=>some (v::vs)|none=>none
  |none=>none
def qvw(P:Program)(fn:Func)(s:St):Option AV:=
 match qba P s fn.results.toList with
 |some vs=>match vs with|[v]=>some v|vs=>some (.tup vs)
 |none=>none
def frzC(p:Pt)(b off:Nat)(s:St):St:=match ae s.hp b with|some (.cells cs _)=>frzL (qm9 p (.agg (cs.drop off))) s|_=>s
def coR(bs:List (Nat×a7)):List ResultVar->List Pt->St->St
 |[],_,s=>s|x::xs,ps,s=>match ps with
  |[]=>s|p::ps=>match x with
   |.tmp t=>coR bs xs ps (coF bs [(t,p)] s)|.cell t _=>match ae s.fr t with|some (.ptr b off)=>coR bs xs ps (frzC p b off (coB1 bs b [p] off s))|_=>coR bs xs ps s
def qn7:Pt->List Pt|.tup ps=>ps|p=>[p]
def qm2(v:AV)(ids:NM)(p:Pt)(hp:List (Nat×a7))(s:St):Option (p.den×fb hp):=
 match p.get v ids with
 |some (d,nm)=>match pz s.hp hp nm with|some (d',nm')=>bif dq nm'&&se nm' hp then some (d,d') else none|none=>none
 |none=>none
def qw6(P:Program)(fn:Func)(ids:NM)(rv:Option AV)(p:Pt)(hp:List (Nat×a7))(s:St):Option (p.den×fb hp):=
 match rv with
 |some v=>qm2 v ids p hp (coB hp ids hp s)|none=>match qvw P fn (coR hp fn.results.toList (qn7 p) (coB hp ids hp s)) with|some v=>qm2 v ids p hp (coR hp fn.results.toList (qn7 p) (coB hp ids hp s))|none=>none
def qw7(P:Program)(fn:Func)(ids:NM)(rv:Option AV)(p:Pt)(hp:List (Nat×a7))(s:St):Bool:=
 match rv with|some _=>true|none=>qhw P (coR hp fn.results.toList (qn7 p) (coB hp ids hp s)) fn.results.toList
def RS.fin(P:Program)(fn:Func)(ids:NM)(rv:Option AV)(s:St):{α:Type}->RS α->Option α
 | _,.one p hp _ fro _=>bif qw7 P fn ids rv p hp s then(match qw6 P fn ids rv p hp s with
  |some y=>some (fro y)| none=>none) else none
 |_,.two l r=>match l.fin P fn ids rv s with
  |some a=>some (.inl a)|none=>match r.fin P fn ids rv s with|some b=>some (.inr b)|none=>none
structure eu(R:Type) where
 key:ww
 ls:LS
 F:ls.den->Option R
def ye{R:Type}(ids:NM)(s:St)(k:List dp):List (eu R)->Option (eu R)
 |[]=>none| l::ls=>bif qbu l.key k then(match ye ids s k ls with
   |none=>some l|some l'=>match l.ls.get ids (l.ls.co ids s) with
    |some _=>some l| none=>some l') else ye ids s k ls
structure Cx:Type 1 where
 P:Program
 tb:Tb
 fn:Func
 f:FuncId
 ids:NM
 rd:Option Nat
 tags:List (List Nat×Nat)
def St.noDf(s:St):Bool:=match s.df with|[]=>true|_=>false
def qgv:List Nat->St->Option St
 |[],s=>some { s with df:=[] }|n::ns,s=>match ae s.hp n with|some .dfr=>qgv ns { s with hp:=(n,.dead)::s.hp,df:=ns }|_=>none
def ss:Option de->Bool|none=>true|some _=>false
def mq(cx:Cx){R:Type}(enc:RS R)(j:Option de)(s:St):Option R:=
 match cx.rd with
 |none=>match qgv s.df s with|some s'=>enc.fin cx.P cx.fn cx.ids none s'|none=>none
 |some m=>bif s.noDf then
   (match ae s.hp m with
   |some (.loop _ _ f n fr ps tag D)=>enc.fin cx.P cx.fn cx.ids (some (.val (.bool (ss j)))) { s with hp:=(m,.loop (bif ss j then .ready else .done) j f n fr ps tag D)::s.hp }| _=>none)
  else none
def St.enterRF(s:St)(f:FuncId)(ps:List Tmp)(tag:Nat)(around:Option Nat):Option St:=
 bif a6 s.nx s.hp then
  (match around with
  |none=>some { s with hp:=(s.nx,.loop .ready none f s.n s.fr ps tag (s.nx+1))::(s.nx+1,.dfr)::s.hp,df:=(s.nx+1)::s.df,nx:=s.nx+32 }|some m=>match ae s.hp m with
   |some (.loop _ _ _ _ _ _ _ D)=>some { s with hp:=(s.nx,.loop .ready none f s.n s.fr ps tag D)::s.hp,nx:=s.nx+32 }| _=>none)
 else none
def zah(s:St)(ys:List AV)(d:D):Option St:=match d with
 |.mem names xs hp _ hp'=>
  bif dq names&&qb names&&a6 s.nx s.hp then
   (match gx (ax names) s.hp names,be false [] (AV.rens (ax names) ys) xs with
   |some hpv,some _=>match jd hpv hp with|some _=>some { s with hp:=kg (ke names hp' s.nx) hp'++(lv names++s.hp),nx:=s.nx+32 }|none=>none
   | _,_=>none)
  else none
 |_=>none
def qj(p:List Nat):List (List Nat×Nat)->Option Nat|[]=>none|(q,t)::r=>bif ob q p then some t else qj p r
def q8y:LoopState->Bool|.busy=>false|_=>true
def qoc(cx:Cx)(p:List Nat)(g:Operand)(ps:List Tmp)(s:St):Option (Rq×St×List AV):=
 match qj p cx.tags,s.ev g with
 |some tag,some (.fn (.func h) [] cap)=>match s.enterRF cx.f ps tag cx.rd with
  |some s1=>match xl (qgu s1 h (.yld s.nx::cap)) cx.tb.ents with|some q=>some (q,s1,.yld s.nx::cap)|none=>none
  |none=>none
 |_,_=>none
def zaj(cx:Cx)(p:List Nat)(g:Operand)(ps:List Tmp)(s:St):Option St:=
 match qj p cx.tags,s.ev g with
 |some tag,some (.fn (.func h) [] cap)=>match s.enterRF cx.f ps tag cx.rd with
  |some s1=>match qms (fun e=>qi h e.key) cx.tb.ents with|some e=>some (coB e.hp (sx s1 e.hp (uv e.args (.yld s.nx::cap))) e.hp (frzL (xp e.args (.yld s.nx::cap)) s))|none=>none
  |none=>none
 |_,_=>none
def qod{R:Type}(nl:Nat)(a:Rq×St×List AV)(K:Option de->St->Option R):Option R:=
 a.1.K fun d=>match zah a.2.1 a.2.2 d with
  |some s3=>match ae s3.hp nl with|some (.loop st pe _ _ _ _ _ _)=>bif q8y st then K pe { s3 with hp:=(nl,.dead)::s3.hp } else none|_=>none
  |none=>none
def rfR(cx:Cx){R:Type}(p:List Nat)(g:Operand)(ps:List Tmp)(s:St)(K:Option de->St->Option R):Option R:=
 match qoc cx p g ps s with
 |some a=>qod s.nx a K|none=>match zaj cx p g ps s with
  |some s'=>match qoc cx p g ps s' with|some a=>qod s'.nx a K|none=>none
  |none=>none
def run(cx:Cx){R:Type}(enc:RS R)(labs:List (eu R)):Nat->Bool->List dp->St->Option R
 |0,_,_,_=>none|n+1,chk,k,s=>match(bif chk then ye cx.ids s k labs else none) with
  |some lab=>match lab.ls.get cx.ids (lab.ls.co cx.ids s) with|some d=>lab.F d|none=>none
  |none=>match k with
   |[]=>mq cx enc none s|⟨_,p,it⟩::k'=>match it with
    |.code c=>match c with
     |.skip=>run cx enc labs n true k' s|.label _=>run cx enc labs n true k' s|.seq x y=>run cx enc labs n true (⟨0,0::p,.code x⟩::⟨0,1::p,.code y⟩::k') s|.cond c x y=>match s.ev c with|some (.bool b)=>bif b then run cx enc labs n true (⟨0,0::p,.code x⟩::k') (s.know c true) else run cx enc labs n true (⟨0,1::p,.code y⟩::k') (s.know c false)|some (.val (.bool b))=>bif b then run cx enc labs n true (⟨0,0::p,.code x⟩::k') s else run cx enc labs n true (⟨0,1::p,.code y⟩::k') s|_=>none
     |.block id x=>run cx enc labs n true (⟨0,0::p,.code x⟩::⟨1,p,.inBlock id⟩::k') s|.loop x=>run cx enc labs n true (⟨0,0::p,.code x⟩::⟨2,p,.inLoop x⟩::k') s|.scope x=>run cx enc labs n true (⟨0,0::p,.code x⟩::⟨3,p,.inScope x⟩::k') s|.exit id=>match od id k' with
      |some k''=>run cx enc labs n true k'' s|none=>match cx.rd with|some _=>mq cx enc (some (.exit id)) s|none=>none
     |.region _ ops d=>bif d then qww cx.P cx.tb ops s (fun s'=>run cx enc labs n true k' s'.bump) else yc cx.P cx.tb ops ops.toList s (fun s'=>run cx enc labs n true k' s'.bump)
     |.ret=>mq cx enc (some .ret) s|.rangeFunc g ps _ _=>rfR cx p g ps.toList s fun j s'=>match j with
      |none=>run cx enc labs n true k' s'|some .ret=>mq cx enc (some .ret) s'|some (.exit id)=>match od id k' with
       |some k''=>run cx enc labs n true k'' s'|none=>match cx.rd with|some _=>mq cx enc (some (.exit id)) s'|none=>none
     |_=>none
    |.inBlock _=>run cx enc labs n true k' s|.inScope _=>run cx enc labs n true k' s|.inLoop x=>run cx enc labs n true (⟨0,0::p,.code x⟩::⟨2,p,.inLoop x⟩::k') s|.beginRound=>match cx.rd with
     |some m=>match ae s.hp m with|some (.loop .ready pe f n' fr ps tag D)=>run cx enc labs n true k' { s with hp:=(m,.loop .busy pe f n' fr ps tag D)::s.hp }|_=>none
     |none=>none
    |_=>none
def vj(P:Program)(ro:Option Nat)(f:FuncId)(x:Machine)(cs:List Frame)(Q:Value->World->Prop):Prop:=
 match ro with|none=>∃v w' fr,Q v w'/\Steps P x (lone fr cs w')/\fr.fn=f/\fr.leaving P w' (.returned v)|some _=>∀c cs',cs=c::cs'->∃v w',Q v w'/\Steps P x (lone (c.finish v) cs' w')
def vj.head{P:Program}{ro:Option Nat}{f:FuncId}{x y:Machine}{cs:List Frame}{Q:Value->World->Prop}(h:Steps P x y)(k:vj P ro f y cs Q):vj P ro f x cs Q:=by
 cases ro with
 |none=>obtain⟨v,w',fr,h1,h2,h3⟩:=k;exact⟨v,w',fr,h1,h.trans h2,h3⟩
 |some l=>exact fun c cs' e=>by obtain⟨v,w',h1,h2⟩:=k c cs' e;exact⟨v,w',h1,h.trans h2⟩
section
variable{P:Program}{vem:World}{veh:Gh}{vej:List (Nat×ah)}{G:Gh}{s:St}{a:Act}{w:World}
def qcm(tmps:Array Value)(x:ResultVar):Sem Value:=match x with|.tmp t=>pure (tmps.getD t undef)|.cell a t=>do loadVar t (← asAddr (tmps.getD a undef))
def zoe(fn:Func)(tmps:Array Value):results fn tmps=(do let vs ← fn.results.mapM (qcm tmps);pure (if h:vs.size=1 then vs[0] else .tuple vs)):=rfl
def zg2(hr:ak vem veh vej G s a w){x:ResultVar}{v:AV}(hq:qy4 P s x=true)(h:qvv P s x=some v):∃u,(qcm a.tmps x).run P w = .ok u w/\aj v G u:=by
 cases x with
 |tmp t=>
  obtain⟨u,h1,h2⟩:=hr.frame t v h;exact⟨u,by simp[qcm,Array.getD_eq_getD_getElem?,h1],h2⟩
 |cell t T=>
  simp only[qvv]at h;split at h
  ·rename_i b off hb;split at h
   ·rename_i cs T' hc;obtain⟨u,h1,B,hB,rfl⟩:=hr.frame _ _ hb;obtain⟨B',vs,k1,k2,k3,_⟩:=hr.fin.mem.holds _ _ hc;rw[k1]at hB;injection hB with hB;subst hB
    obtain⟨z,hz,hrz⟩:=qcn (P:=P) (w:=w) h (o:=0) k3 (fun j u hu=>by rw[wO];exact cell_of_heap k2 hu)
    rw[wO]at hz;exact⟨z,by simp[qcm,Array.getD_eq_getD_getElem?,h1,asAddr,hz],hrz⟩
   ·cases h
  ·rename_i k sz hb;split at h
   ·rename_i τ l E n hl hagg hn;simp only[qy4,hb,hl,hn,decide_eq_true_eq]at hq;cases hbb:τ.is1&&Nat.beq sz 1<;>rw[hbb]at h<;>simp only[qT,qF,reduceCtorEq,qI]at h
    subst h;simp only[qA]at hbb;have hsz:τ.sz=1:=qb8 hbb.1;obtain⟨u,h1,B,n0,c0,ho,rfl⟩:=hr.frame _ _ hb;obtain⟨ad,c',q1,q2⟩:=hr.fin.mem.holds _ _ hl;rw[ho]at q1;simp only[qI,qP]at q1;obtain⟨rfl,rfl,rfl⟩:=q1;rcases q2 with⟨q2,_⟩|⟨g,vs,fz,k1,k2,k3,k4,k5,k6,k7,k8,k9⟩
    ·cases q2
    ·simp only[qI,Addr.mk.injEq,and_true]at k1;subst k1;have hfl:(l.flatMap τ.enc).length=n:=by rw[qe,hsz,hq,Nat.mul_one]
     have hload:mo P T (l.flatMap τ.enc) 0=some (.agg (l.flatMap τ.enc)):=by
      unfold mo;rw[hagg,hn];have:Nat.ble (0+n) (l.flatMap τ.enc).length=true:=by rw[hfl,wO];simp
      simp only[this,qT,List.drop_zero];rw[List.take_of_length_le (by rw[hfl];exact wF _)]
     obtain⟨u,hu,us,rfl,hru⟩:=qcn (P:=P) (w:=w) hload (B:=B) (o:=0) k7 (fun j u hu=>by
      rw[List.getElem?_take]at hu;split at hu
      ·rw[wO];exact cell_of_heap k2 hu
      ·cases hu)
     simp only[Nat.add_zero]at hu;refine⟨.agg us,by simp[qcm,Array.getD_eq_getD_getElem?,h1,asAddr,hu],?_⟩
     have:=qy0 (G:=G) hbb.1 hru;simpa using this
   ·cases h
  ·cases h
def q5m(hr:ak vem veh vej G s a w):∀{xs:List ResultVar}{vs:List AV},qhw P s xs=true->qba P s xs=some vs ->
  ∃us:List Value,(xs.mapM (qcm a.tmps)).run P w = .ok us w/\al vs G us
 |[],vs,_,h=>by simp only[qba,qI]at h;subst h;exact⟨[],by simp,trivial⟩|x::xs,vs,hq,h=>by
  simp only[qhw,qA]at hq;simp only[qba]at h;split at h
  ·rename_i v hv;split at h
   ·rename_i us hus;simp only[qI]at h;subst h;obtain⟨u,hu,hru⟩:=zg2 hr hq.1 hv;obtain⟨us',hu',hru'⟩:=q5m hr hq.2 hus;refine⟨u::us',?_,hru,hru'⟩;rw[List.mapM_cons];simp only[Sem.run_bind,hu,Result.andThen_ok,hu',Sem.run_pure]
   ·cases h
  ·cases h
def zg3(hr:ak vem veh vej G s a w){fn:Func}{v:AV}(hq:qhw P s fn.results.toList=true)(h:qvw P fn s=some v):∃u,(results fn a.tmps).run P w = .ok u w/\aj v G u:=by
 unfold qvw at h;have key:∀vs,qba P s fn.results.toList=some vs->∃us:List Value,(results fn a.tmps).run P w = .ok (if h:us.toArray.size=1 then us.toArray[0] else .tuple us.toArray) w/\al vs G us:=fun vs hv=>by
  obtain⟨us,h1,h2⟩:=q5m hr hq hv;refine⟨us,?_,h2⟩;rw[zoe,Array.mapM_eq_mapM_toList];simp only[Sem.run_bind,Sem.run_map,h1,Result.andThen_ok,Sem.run_pure]
 split at h
 ·rename_i vs hv;obtain⟨us,h1,h2⟩:=key _ hv;split at h
  ·simp only[qI]at h;subst h
   match us,h2 with|[u],h2=>exact⟨u,by rw[h1];rfl,h2.1⟩|[],h2=>exact h2.elim|_::_::_,h2=>exact h2.2.elim
  ·rename_i hne;simp only[qI]at h;subst h;refine⟨.tuple us.toArray,?_,us.toArray,rfl,by simpa using h2⟩
   rw[h1,dif_neg];intro he;have hl:=h2.length;simp at he;rw[he]at hl
   match vs,hl,hne with|[x],_,hne=>exact hne x rfl
 ·cases h
def ak.frzC{p:Pt}{b off:Nat}{s:St}{G:Gh}(hr:ak vem veh vej G s a w):∃G',ak vem veh vej G' (frzC p b off s) a w:=by
 unfold Sym.frzC;split
 ·exact hr.frzL
 ·exact⟨G,hr⟩
def ak.coR{bs:List (Nat×a7)}:∀{xs:List ResultVar}{ps:List Pt}{s:St}{G:Gh},ak vem veh vej G s a w->∃G',ak vem veh vej G' (coR bs xs ps s) a w
 |[],_,s,G,hr=>⟨G,hr⟩|x::xs,ps,s,G,hr=>by
  unfold Sym.coR;split
  ·exact⟨G,hr⟩
  ·split
   ·obtain⟨G',hr'⟩:=hr.coF (bs:=bs) (l:=[(_,_)]);exact ak.coR hr'
   ·split
    ·obtain⟨G',hr'⟩:=hr.coB1 (bs:=bs);obtain⟨G2,hr2⟩:=hr'.frzC;exact ak.coR hr2
    ·exact ak.coR hr
def q67(hr:ak vem veh vej G s a w){ids:NM}(hid:∀n bx,ae vej n=some bx->az ids n=some n){v:AV}{p:Pt}{hp:List (Nat×a7)}{y:p.den×fb hp}(h:qm2 v ids p hp s=some y) :
  ∃G',Fin vem veh vej G' (cg hp y.2) w/\∀u,aj v G u->aj (p.put y.1) G' u:=by
 unfold qm2 at h;split at h
 ·rename_i d nm h1;split at h
  ·rename_i d' nm' h2;cases hq:dq nm'&&se nm' hp<;>rw[hq]at h<;>simp only[qT,qF,reduceCtorEq]at h
   have h:=qJ h;subst h;simp only[qA]at hq;obtain⟨g1,g2⟩:=Pt.get_seen h1;obtain⟨b1,b2⟩:=w9 h2;obtain⟨b3,_⟩:=b2 nm' hq.1 (cq.refl _);exact⟨G.view nm',hr.fin.fit hq.1 (fun n bx hb=>b1 _ _ (g1 _ _ (hid n bx hb))) b3,fun u hu=>(g2 nm' hq.1 b1).rep hu⟩
  ·cases h
 ·cases h
def qge(P:Program)(fn:Func)(rv:Option AV)(a:Act)(w:World)(Q:Value->Prop):Prop:=
 match rv with|none=>∃u,(results fn a.tmps).run P w = .ok u w/\Q u|some x=>∀b,x = .val (.bool b)->Q (.bool b)
def zjm(hr:ak vem veh vej G s a w){ids:NM}(hid:∀n bx,ae vej n=some bx->az ids n=some n){fn:Func}{rv:Option AV}{p:Pt}{hp:List (Nat×a7)}{y:p.den×fb hp}(hq:qw7 P fn ids rv p hp s=true)(h:qw6 P fn ids rv p hp s=some y) :
  qge P fn rv a w fun u=>∃G',Fin vem veh vej G' (cg hp y.2) w/\aj (p.put y.1) G' u:=by
 unfold qw6 at h;split at h
 ·rename_i x;obtain⟨G1,hr1⟩:=hr.coB (bs:=hp) (nm:=ids) (l:=hp);obtain⟨G',h1,h2⟩:=q67 hr1 hid h;exact fun b e=>⟨G',h1,h2 _ (by subst e;rfl)⟩
 ·split at h
  ·rename_i v hv;obtain⟨G1,hr1⟩:=hr.coB (bs:=hp) (nm:=ids) (l:=hp);obtain⟨G2,hr2⟩:=hr1.coR (bs:=hp) (xs:=fn.results.toList) (ps:=qn7 p);obtain⟨G',h1,h2⟩:=q67 hr2 hid h;obtain⟨u,hu,hru⟩:=zg3 hr2 hq hv;exact⟨u,hu,G',h1,h2 _ hru⟩
  ·cases h
def qge.mono{fn:Func}{rv:Option AV}{Q Q':Value->Prop}(h:qge P fn rv a w Q)(k:∀v,Q v->Q' v):qge P fn rv a w Q':=by
 cases rv with
 |none=>obtain⟨u,h1,h2⟩:=h;exact⟨u,h1,k _ h2⟩
 |some x=>exact fun b e=>k _ (h b e)
def qm3(hr:ak vem veh vej G s a w){ids:NM}(hid:∀n bx,ae vej n=some bx->az ids n=some n){fn:Func}{rv:Option AV}:∀{α:Type}{enc:RS α}{x:α},enc.fin P fn ids rv s=some x ->
  qge P fn rv a w fun u=>∃G',Fin vem veh vej G' (enc.res x).2 w/\aj (enc.res x).1 G' u
 |_,.one p hp tq fro ok,x,h=>by
  simp only[RS.fin]at h;cases hq:qw7 P fn ids rv p hp s<;>rw[hq]at h<;>simp only[qT,qF,reduceCtorEq]at h
  split at h
  ·rename_i y hy;have h:=qJ h;subst h;have:=zjm (P:=P) hr hid hq hy;simp only[RS.res,ok];exact this
  ·cases h
 |_,.two l r,x,h=>by
  simp only[RS.fin]at h;split at h
  ·rename_i y hy;have h:=qJ h;subst h;have:=qm3 (enc:=l) hr hid hy;exact this
  ·split at h
   ·rename_i y hy;have h:=qJ h;subst h;have:=qm3 (enc:=r) hr hid hy;exact this
   ·cases h
def q6e:∀{ns:List Nat}{s s':St}{G:Gh}{a:Act}{w:World},s.df=ns->qgv ns s=some s'->ak vem veh vej G s a w->∀(fr:Frame)(cs:List Frame),fr.mode = .returning->fr.defers=a.defers ->
  ∃w',ak vem veh vej G s' { a with defers:=[] } w'/\Steps P (lone fr cs w) (lone { fr with defers:=[] } cs w')
 |[],s,s',G,a,w,hd,h,hr,fr,cs,hm,hfd=>by
  simp only[qgv,qI]at h;subst h;obtain⟨bs,h1,h2⟩:=hr.defers;rw[hd]at h2;have:bs=[]:=by cases bs with|nil=>rfl|cons _ _=>simp at h2
  subst this;refine⟨w,⟨⟨[],rfl,rfl⟩,hr.size,hr.frame,hr.fresh,hr.fin⟩,?_⟩;have e:({ fr with defers:=[] }:Frame)=fr:=by rw[← show fr.defers=[] by rw[hfd,h1];rfl]
  rw[e];exact .refl _ _
 |n::ns,s,s',G,a,w,hd,h,hr,fr,cs,hm,hfd=>by
  simp only[qgv]at h;split at h
  ·rename_i hl;obtain⟨bs,h1,h2⟩:=hr.defers;rw[hd]at h2
   cases bs with
   |nil=>simp at h2|cons b bs=>
    simp only[List.map_cons,List.cons.injEq]at h2;obtain⟨B,k1,k2,k3⟩:=hr.fin.mem.holds n _ hl;rw[k1]at h2;obtain⟨e,h2⟩:=h2;injection e with e;subst e
    have hr1:=hr.setBox (bx' := .dead) (o := .deferred none) hl (show G.at n .dfr=some b from k1) (fun c hc=>by cases hc) trivial k3
    have hr2:ak vem veh vej G { s with hp:=(n,.dead)::s.hp,df:=ns } { a with defers:=bs.map (fun b=>{ target := .collected b,args:=#[] }) } (w.putObj b (.deferred none)):=
     ⟨⟨bs,rfl,h2⟩,hr1.size,hr1.frame,hr1.fresh,hr1.fin⟩
    have hs:=step_collected (P:=P) (cs:=cs) (fr:=fr) (by rw[hm];simp) (by rw[hfd,h1];rfl) rfl (run_takeDeferred k2)
    obtain⟨w',i1,i2⟩:=q6e (a:={ a with defers:=bs.map (fun b=>{ target := .collected b,args:=#[] }) }) rfl h hr2 { fr with defers:=[]++bs.map (fun b=>{ target := .collected b,args:=#[] }) } cs hm rfl
    exact⟨w',i1,(Steps.one hs).trans i2⟩
  ·cases h
end
structure Cx.Ok(cx:Cx)(body:Code):Prop where
 ents:∀e∈cx.tb.ents,e.Sound cx.P
 mixed:cx.P.follows .mixedOrders=true
 func:cx.P.funcs[cx.f]? = some cx.fn
 tags:∀p t,qj p cx.tags=some t->∀g ps x y,sub body p = .rangeFunc g ps x y->LC.lc t=some (x,y)
def pt(cx:Cx)(veh:Gh)(vej:List (Nat×ah))(b:Frame):Prop:=match cx.rd with|none=>b.roundOf=none|some m=>∃B bx,veh.box m=some B/\ae vej m=some bx/\b.roundOf=some B
section
variable{vem:World}{veh:Gh}{vej:List (Nat×ah)}{G:Gh}{s:St}{a:Act}{w:World}
def zpd{P:Program}(fn:FuncId)(tmps:Array Value)(ps:Array Tmp)(asn bo:Code){l:Nat}{r:Loop}(h:w.heap[l]? = some (.loop r)) :
  (Instr.enterLoop fn tmps ps asn bo (some l)).run P w = .ok (w.heap.size,[]) (w.alloc (.loop { state := .ready,pending:=none,fn,tmps,params:=ps,assign:=asn,body:=bo,defers:=r.defers })):=by
 unfold Instr.enterLoop;simp only[Sem.run_bind,run_getLoop h,run_newObj_alloc,Result.andThen,Sem.run_pure]
def q8a(hr:ak vem veh vej G s a w){k D DB:Nat}{f:FuncId}{ps:Array Tmp}{tag:Nat}{asn bo:Code}(htag:LC.lc tag=some (asn,bo))(hk:ae s.hp k=none)(hkx:s.nx<=k)(hD:G.box D=some DB)(hne:D≠k) :
  ak vem veh vej (G.addBox k w.heap.size) { s with hp:=(k,.loop .ready none f s.n s.fr ps.toList tag D)::s.hp } a (w.alloc (.loop { state := .ready,pending:=none,fn:=f,tmps:=a.tmps,params:=ps,assign:=asn,body:=bo,defers:=DB })):=by
 have hle:G.le (G.addBox k w.heap.size):=Gh.addBox_le (hr.fresh k hkx hk).1;refine hr.newBox hk hkx (fun b hb => ?_) ⟨w.heap.size,a.tmps,DB,Gh.addBox_self,by rw[Gh.addBox_ne hne];exact hD,⟨asn,bo,htag,?_⟩,hr.size,fun i x hx => ?_,fun o => ?_⟩
 ·have hb:(G.addBox k w.heap.size).box k=some b:=hb;rw[Gh.addBox_self]at hb;injection hb with hb;exact hb.symm
 ·rw[oo];simp
 ·obtain⟨v,h1,h2⟩:=hr.frame i x hx;exact⟨v,h1,h2.le hle⟩
 ·cases hq:(G.addBox k w.heap.size).imm w.heap.size o with
  |none=>rfl|some v=>
   have:=World.block_lt_of_cell? _ _ (hr.fin.mem.agree _ _ _ hq);simp at this
def ak.nx(hr:ak vem veh vej G s a w){k:Nat}(h:s.nx<=k):ak vem veh vej G { s with nx:=k } a w:=⟨hr.defers,hr.size,hr.frame,fun m hm hl=>hr.fresh m (Nat.le_trans h hm) hl,hr.fin⟩
def zjd(hr:ak vem veh vej G s a w){cx:Cx}{ps:Array Tmp}{tag:Nat}{asn bo:Code}(htag:LC.lc tag=some (asn,bo)){s1:St}(h:s.enterRF cx.f ps.toList tag cx.rd=some s1){b:Frame}(hb:b.fn=cx.f)(hrd:pt cx veh vej b) :
  ∃G1 l mark w1,(Instr.enterLoop b.fn a.tmps ps asn bo b.roundOf).run cx.P w = .ok (l,mark) w1/\G1.box s.nx=some l/\G.le G1/\ak vem veh vej G1 s1 { a with defers:=mark++a.defers } w1/\s1.nx=s.nx+32:=by
 unfold St.enterRF at h;cases hn:a6 s.nx s.hp<;>rw[hn]at h<;>simp only[qT,qF,reduceCtorEq]at h
 have hk0:=kv hn s.nx (wF _) (by omega)
 have hk1:=kv hn (s.nx+1) (by omega) (by omega)
 unfold pt at hrd;split at h
 ·rename_i hc;rw[hc]at hrd;simp only at hrd;simp only[qI]at h;subst h;have hr1:=hr.newBox (k:=s.nx+1) (bx := .dfr) (o := .deferred (some [])) hk1 (by omega) (fun b hb=>by
   have hb:(G.addBox (s.nx+1) w.heap.size).box (s.nx+1)=some b:=hb;rw[Gh.addBox_self]at hb;injection hb with hb;exact hb.symm)
   ⟨w.heap.size,Gh.addBox_self,oo _ _,fun o=>by
    cases hq:(G.addBox (s.nx+1) w.heap.size).imm w.heap.size o with
    |none=>rfl|some v=>
     have:=World.block_lt_of_cell? _ _ (hr.fin.mem.agree _ _ _ hq);simp at this⟩
  have hk0':ae ((s.nx+1,ah.dfr)::s.hp) s.nx=none:=by
   simp only[ae];have:Nat.beq (s.nx+1) s.nx=false:=by
    cases hq:Nat.beq (s.nx+1) s.nx
    ·rfl
    ·have:=qN hq;omega
   rw[this];exact hk0
  have hr2:=q8a hr1 (k:=s.nx) (D:=s.nx+1) (f:=cx.f) (ps:=ps) htag hk0' (wF _) Gh.addBox_self (by omega)
  have hle1:G.le (G.addBox (s.nx+1) w.heap.size):=Gh.addBox_le (hr.fresh (s.nx+1) (by omega) hk1).1
  have hle2:(G.addBox (s.nx+1) w.heap.size).le ((G.addBox (s.nx+1) w.heap.size).addBox s.nx (w.alloc (.deferred (some []))).heap.size):=Gh.addBox_le (hr1.fresh s.nx (wF _) hk0').1;refine⟨_,w.heap.size+1,[{ target := .collected w.heap.size,args:=#[] }],_,by rw[hrd,hb];exact run_enterLoop_outer _ _ _ _ _,?_,hle1.trans hle2,?_,rfl⟩
  ·rw[Gh.addBox_self,World.size_alloc]
  ·have hr3:=hr2.nx (k:=s.nx+32) (by show s.nx<=_;omega)
   refine⟨?_,hr3.size,hr3.frame,hr3.fresh,hr3.fin⟩;obtain⟨bs,h1,h2⟩:=hr3.defers;refine⟨w.heap.size::bs,by rw[h1];rfl,?_⟩
   simp only[List.map_cons,List.cons.injEq];refine⟨?_,h2⟩;rw[Gh.addBox_ne (by omega),Gh.addBox_self]
 ·rename_i m hc;rw[hc]at hrd;simp only at hrd;obtain⟨B,bx0,e1,e2,e3⟩:=hrd;split at h
  ·rename_i D hm;simp only[qI]at h;subst h;obtain⟨B',tmps,DB,k1,k2,⟨asn',bo',_,k3⟩,_⟩:=hr.fin.mem.holds _ _ hm;have:=hr.fin.keep m bx0 B e2 e1;rw[this]at k1;injection k1 with k1;subst k1
   have hne:D≠s.nx:=fun e=>by subst e;rw[(hr.fresh _ (wF _) hk0).1]at k2;cases k2
   have hr2:=q8a hr (k:=s.nx) (D:=D) (f:=cx.f) (ps:=ps) htag hk0 (wF _) k2 hne;have hle2:G.le (G.addBox s.nx w.heap.size):=Gh.addBox_le (hr.fresh s.nx (wF _) hk0).1;refine⟨_,w.heap.size,[],_,by rw[e3,hb];exact zpd _ _ _ _ _ k3,Gh.addBox_self,hle2,?_,rfl⟩
   exact hr2.nx (k:=s.nx+32) (by show s.nx<=_;omega)
  ·cases h
end
def qxm:Option de->List Item|none=>[]|some j=>[.code j.code]
section
variable{vem:World}{veh:Gh}{vej:List (Nat×ah)}{G:Gh}{s:St}{a:Act}{w:World}{cx:Cx}{body:Code}{R:Type}
def zai(ok:cx.Ok body)(hr:ak vem veh vej G s a w){p:List Nat}{g:Operand}{ps:Array Tmp}{asn bo:Code}(hsub:sub body p = .rangeFunc g ps asn bo){q:Rq×St×List AV}(hq:qoc cx p g ps.toList s=some q)
  {K:Option de->St->Option R} {x:R} (h:qod s.nx q K=some x) {b:Frame} (cs:List Frame) (hb:b.fn=cx.f) (_hkind:b.kind = .normal) (hrd:pt cx veh vej b) (k:List Item) :
  ∃j s' G' a' w',K j s'=some x/\ak vem veh vej G' s' a' w'/\Steps cx.P (lone (b.atR a (.code (.rangeFunc g ps asn bo)::k)) cs w) (lone (b.atR a' (qxm j++k)) cs w'):=by
 unfold qoc at hq;split at hq
 ·rename_i tag h0 cap ht hg;split at hq
  ·rename_i s1 hs1;split at hq
   ·rename_i q1 hq1;have hq:=qJ hq;subst hq;obtain⟨G1,l,mark,w1,he,hl,hle,hr1,hnx⟩:=zjd hr (ok.tags p tag ht g ps asn bo hsub) hs1 hb hrd;unfold qod at h;obtain⟨d,hd,h⟩:=Rq.K_some h;simp only at h hd;obtain⟨e,hemem,hc⟩:=xm hq1;unfold qgu at hc;cases hkk:qi h0 e.key<;>rw[hkk]at hc<;>simp only[qT,qF,reduceCtorEq]at hc
    obtain⟨N,x1,x1',y,k1,k2,k3,k4,k5,k6⟩:=qnv hc hd;subst k2;have hs:=ok.ents e hemem x1 x1' y k1;rw[qxo hkk]at hs;obtain⟨hpl,hct⟩:=hs;unfold zah at h;simp only at h;cases hbb:dq N&&qb N&&a6 s1.nx s1.hp<;>rw[hbb]at h<;>simp only[qT,qF,reduceCtorEq]at h
    simp only[qA]at hbb;obtain⟨⟨hb1,_⟩,hb2⟩:=hbb
    cases hv:gx (ax N) s1.hp N with
    |none=>rw[hv]at h;simp only[reduceCtorEq]at h|some hpv=>
    cases hvs:be false [] (AV.rens (ax N) (.yld s.nx::cap)) (Pts.put e.args x1) with
    |none=>rw[hv,hvs]at h;simp only[reduceCtorEq]at h|some ps1=>
    rw[hv,hvs]at h;simp only at h
    cases hvw:jd hpv (cg e.hp x1') with
    |none=>rw[hvw]at h;simp only[reduceCtorEq]at h|some ps2=>
    rw[hvw]at h;simp only at h;have p1:=k5 _ hvs;have p2:=k6 _ _ hv hvw;obtain⟨fs,cps,hge,hfs,hcs⟩:=bf hr hg;have hfs0:fs=#[]:=Array.eq_empty_of_size_eq_zero (by simpa using hfs.length.symm)
    subst hfs0;have hge':({ a with defers:=mark++a.defers }:Act).eval g = .func (.func h0) #[] cps:=hge
    have hres:(resolve a.eval (rangeCall g l) 0).run cx.P w1 = .ok { target := .fn (.func h0) cps,args:=#[.func (.yield l) #[] #[]] } w1:=by
     have hy:a.eval (.const (.func (.yield l) #[] #[])) = .func (.yield l) #[] #[]:=rfl;simp[resolve,hge,Deferred.ofValue,hy]
    have hinv:(invoke (.fn (.func h0) cps) #[.func (.yield l) #[] #[]]).run cx.P w1 = .ok (.enter h0 (#[.func (.yield l) #[] #[]]++cps)) w1:=by
     simp[invoke,hpl _ w1]
    have henter:=stepR_rangeFunc (P:=cx.P) (b:=b) (a:=a) (k:=k) (cs:=cs) he hres hinv;have hreps:al (.yld s.nx::cap) G1 (.func (.yield l) #[] #[]::cps.toList):=⟨⟨l,hl,rfl⟩,hcs.le hle⟩;have hm:da (G1.view N) (cg e.hp x1') w1:=(hr1.fin.mem.view hv (qbs hb1)).vw hvw p2;have hreps2:=jr (Gh.le.refl _) (fun e=>by cases e) hvs p1 (al.ren (G:=G1) (G':=G1.view N) (fun _ _ _ h=>h) (qx N) (td N) hreps)
    have hcalls:=hct w1 (G1.view N) _ hm hreps2;have e1:(Value.func (.yield l) #[] #[]::cps.toList).toArray=#[.func (.yield l) #[] #[]]++cps:=by simp
    rw[e1]at hcalls;obtain⟨en,w2,fr,hpost,hcomes,hfrfn,hleave⟩:=hcalls (b.atR { a with defers:=mark++a.defers } (.inRangeFunc l::k)::cs)
    obtain⟨G2,v,rfl,_,hle2,hr2⟩:=q8l hr1 hb1 hb2 (wF _) hv hvw p2 hpost;have hsteps:Steps cx.P (lone (b.atR a (.code (.rangeFunc g ps asn bo)::k)) cs w) (lone (b.atR { a with defers:=mark++a.defers } (.endRangeFunc l::k)) cs w2):=by
     refine(Steps.one henter).trans (Steps.trans hcomes (.one ?_));rw[← finish_atR_inRangeFunc l v];exact step_leave_returned hleave
    split at h
    ·rename_i st pe f' n' fr' ps' tag' D' hlk;cases hnb:q8y st<;>rw[hnb]at h<;>simp only[qT,qF,reduceCtorEq]at h
     obtain⟨B,tmps,DB,i1,i2,⟨asn',bo',_,i3⟩,i4,i5,i6⟩:=hr2.fin.mem.holds _ _ hlk;have:=hle2.box _ _ hl;rw[this]at i1;injection i1 with i1;subst i1
     have hend:=run_endLoop (P:=cx.P) i3 (by intro e;simp only at e;subst e;cases hnb)
     have hst:=stepR_endRangeFunc (b:=b) (a:={ a with defers:=mark++a.defers }) (k:=k) (cs:=cs) hend
     have e2:(Option.map Item.code (Option.map de.code pe)).toList=qxm pe:=by cases pe<;>rfl
     rw[e2]at hst;exact⟨pe,_,G2,{ a with defers:=mark++a.defers },_,h,(hr2.nx (k:=s1.nx+32) (Nat.le_add_right _ _)).setBox (bx' := .dead) hlk (show G2.at s.nx (.loop st pe f' n' fr' ps' tag' D')=some l from this) (fun c hc=>by cases hc) trivial i6,hsteps.trans (.one hst)⟩
    ·cases h
   ·cases hq
  ·cases hq
 ·cases hq
def zof(ok:cx.Ok body)(hr:ak vem veh vej G s a w){p:List Nat}{g:Operand}{ps:Array Tmp}{asn bo:Code}(hsub:sub body p = .rangeFunc g ps asn bo)
  {K:Option de->St->Option R} {x:R} (h:rfR cx p g ps.toList s K=some x) {b:Frame} (cs:List Frame) (hb:b.fn=cx.f) (hkind:b.kind = .normal) (hrd:pt cx veh vej b) (k:List Item) :
  ∃j s' G' a' w',K j s'=some x/\ak vem veh vej G' s' a' w'/\Steps cx.P (lone (b.atR a (.code (.rangeFunc g ps asn bo)::k)) cs w) (lone (b.atR a' (qxm j++k)) cs w'):=by
 unfold rfR at h;split at h
 ·rename_i q hq;exact zai ok hr hsub hq h cs hb hkind hrd k
 ·split at h
  ·rename_i s' hs';have:∃G',ak vem veh vej G' s' a w:=by
    unfold zaj at hs';split at hs'
    ·split at hs'
     ·split at hs'
      ·have hs':=qJ hs';subst hs';obtain⟨G1,hr1⟩:=hr.frzL;exact hr1.coB
      ·cases hs'
     ·cases hs'
    ·cases hs'
   obtain⟨G',hr'⟩:=this;split at h
   ·rename_i q hq;exact zai ok hr' hsub hq h cs hb hkind hrd k
   ·cases h
  ·cases h
def ix(cx:Cx)(vej:List (Nat×ah)){R:Type}(enc:RS R)(k:List Item)(s:St)(r:R):Prop:=
 ∀(vem:World)(veh G:Gh)(a:Act)(w:World),ak vem veh vej G s a w->∀(b:Frame)(cs:List Frame),b.fn=cx.f->b.kind = .normal->pt cx veh vej b ->
  vj cx.P b.roundOf cx.f (lone (b.atR a k) cs w) cs fun v w'=>∃G',Fin vem veh vej G' (enc.res r).2 w'/\aj (enc.res r).1 G' v
def qp1(cx:Cx)(j:Option de)(k:List Item):Prop:=match j with|none=>k=[]|some .ret=>∃k',k = .code .ret::k'|some (.exit id)=>cx.rd≠none/\∃k',k = .code (.exit id)::k'/\exitTo id k'=none
def qmr(ok:cx.Ok body)(hid:∀n bx,ae vej n=some bx->az cx.ids n=some n){enc:RS R}{j:Option de}{r:R}{k:List Item}(hk:qp1 cx j k)(h:mq cx enc j s=some r):ix cx vej enc k s r:=by
 intro vem veh G a w hr b cs hb hkind hrd;unfold mq at h;unfold pt at hrd;split at h
 ·rename_i hrdn;rw[hrdn]at hrd;simp only at hrd;split at h
  ·rename_i s' hs';have h1:Steps cx.P (lone (b.atR a k) cs w) (lone { b.atR a k with mode := .returning } cs w):=by
    cases j with
    |none=>simp only[qp1]at hk;subst hk;exact .one (stepR_end hrd)|some j=>cases j with
     |ret=>obtain⟨k',rfl⟩:=hk;exact .one (stepR_ret hrd)
     |exit id=>exact absurd hrdn hk.1
   obtain⟨w',i1,i2⟩:=q6e (P:=cx.P) rfl hs' hr { b.atR a k with mode := .returning } cs rfl rfl
   obtain⟨u,u1,u2⟩:=qm3 (P:=cx.P) i1 hid h;rw[hrd];exact⟨u,w',_,u2,h1.trans i2,hb,rfl,rfl,hkind,cx.fn,by rw[← ok.func,← hb];rfl,u1⟩
  ·cases h
 ·rename_i m hrdm;rw[hrdm]at hrd;simp only at hrd;obtain⟨B,bx0,e1,e2,e3⟩:=hrd;cases hd:s.noDf<;>rw[hd]at h<;>simp only[qT,qF,reduceCtorEq]at h
  split at h
  ·rename_i st pe f n fr ps tag D hl;obtain⟨B',tmps,DB,i1,i2,⟨asn,bo,i3,i4⟩,i5,i6,i7⟩:=hr.fin.mem.holds _ _ hl;have:=hr.fin.keep m bx0 B e2 e1;rw[this]at i1;injection i1 with i1;subst i1
   have hend:=run_endRound (P:=cx.P) (j.map de.code) i4;have hiso:(j.map de.code).isNone=ss j:=by cases j<;>rfl
   rw[hiso]at hend;have hst:(if ss j=true then LoopState.ready else LoopState.done)=(bif ss j then LoopState.ready else LoopState.done):=by cases ss j<;>rfl
   rw[hst]at hend;have hr2:=hr.setBox (bx' := .loop (bif ss j then .ready else .done) j f n fr ps tag D) (o := .loop { state:=bif ss j then .ready else .done,pending:=j.map de.code,fn:=f,tmps:=tmps,params:=ps.toArray,assign:=asn,body:=bo,defers:=DB }) hl (show G.box m=some B from this)
    (fun c hc=>by have hc:G.box m=some c:=hc;rw[this]at hc;injection hc with hc;exact hc.symm)
    ⟨B,tmps,DB,this,i2,⟨asn,bo,i3,by rw[World.putObj_heap_same (Array.getElem?_eq_some_iff.1 i4).1]⟩,i5,i6,i7⟩ i7
   have hfin:=qm3 (P:=cx.P) hr2 hid h;rw[e3];intro c cs' hcs;subst hcs;refine⟨.bool (ss j),_,hfin _ rfl,.one ?_⟩
   cases j with
   |none=>simp only[qp1]at hk;subst hk;exact stepR_round_end e3 hkind hend|some j=>cases j with
    |ret=>obtain⟨k',rfl⟩:=hk;exact stepR_round_ret e3 hkind hend
    |exit id=>obtain⟨_,k',rfl,hx⟩:=hk;exact stepR_round_exit e3 hkind hx hend
  ·cases h
end
section
variable{vej:List (Nat×ah)}{s:St}{cx:Cx}{body:Code}{R:Type}{enc:RS R}
def ix.via{k k':List Item}{s':St}{r:R}(h:ix cx vej enc k' s' r)(hs:∀vem veh G a w,ak vem veh vej G s a w->∀(b:Frame)(cs:List Frame),b.fn=cx.f->b.kind = .normal->pt cx veh vej b ->
  ∃G' a' w',ak vem veh vej G' s' a' w'/\Steps cx.P (lone (b.atR a k) cs w) (lone (b.atR a' k') cs w')):ix cx vej enc k s r:=by
 intro vem veh G a w hr b cs hb hk hrd;obtain⟨G',a',w',h1,h2⟩:=hs vem veh G a w hr b cs hb hk hrd;exact(h vem veh G' a' w' h1 b cs hb hk hrd).head h2
def ix.one{k k':List Item}{r:R}(h:ix cx vej enc k' s r)(hs:∀(a:Act)(w:World)(b:Frame)(cs:List Frame),step cx.P (lone (b.atR a k) cs w) = .next (lone (b.atR a k') cs w)):ix cx vej enc k s r:=
 h.via fun _ _ G a w hr b cs _ _ _=>⟨G,a,w,hr,.one (hs a w b cs)⟩
def pp(cx:Cx)(vej:List (Nat×ah)){R:Type}(enc:RS R)(body:Code)(l:eu R):Prop:=∀d r,l.F d=some r->ix cx vej enc (dv (lz body l.key)) (l.ls.st d) r
def qyo{ids:NM}{s:St}{k:List dp}:∀{ls:List (eu R)}{l:eu R},ye ids s k ls=some l->l∈ls/\qbu l.key k=true
 |[],_,h=>by cases h
 |x::xs,l,h=>by
  simp only[ye]at h;cases hb:qbu x.key k<;>rw[hb]at h<;>simp only[qT,qF]at h
  ·obtain⟨h1,h2⟩:=qyo h;exact⟨qE _ h1,h2⟩
  ·split at h
   ·simp only[qI]at h;subst h;exact⟨qH,hb⟩
   ·rename_i l' hl;split at h
    ·simp only[qI]at h;subst h;exact⟨qH,hb⟩
    ·simp only[qI]at h;subst h;obtain⟨h1,h2⟩:=qyo hl;exact⟨qE _ h1,h2⟩
def q87{i:dp}{k:List dp}(h:∀x∈i::k,x.Ok body):i.Ok body/\∀x∈k,x.Ok body:=⟨h _ qH,fun x hx=>h x (qE _ hx)⟩
def kj{i:dp}{k:List dp}(h:i.Ok body)(k':∀x∈k,x.Ok body):∀x∈i::k,x.Ok body:=fun x hx=>by
 rcases List.mem_cons.1 hx with rfl|hx
 ·exact h
 ·exact k' x hx
def zig{kd:Nat}{p:List Nat}{c:Code}(h:(dp.mk kd p (.code c)).Ok body):sub body p=c:=zkz h
def p6{p:List Nat}{c:Code}(i:Nat){x:Code}(h:sub body p=c)(hc:g8 i c=x):(dp.mk 0 (i::p) (.code x)).Ok body:=by
 show Item.code x = .code (g8 i (sub body p));rw[h,hc]
def zhu{p:List Nat}{id:Nat}{x:Code}(h:sub body p = .block id x):(dp.mk 1 p (.inBlock id)).Ok body:=by
 show Item.inBlock id=(match sub body p with | .block id _ => .inBlock id|c => .code c)
 rw[h]
def q79{p:List Nat}{x:Code}(h:sub body p = .loop x):(dp.mk 2 p (.inLoop x)).Ok body:=by
 show Item.inLoop x=(match sub body p with | .loop x => .inLoop x|c => .code c)
 rw[h]
def zp3{P:Program}{b:Frame}{a:Act}{k:List Item}{cs:List Frame}{w:World}{x:Code}:step P (lone (b.atR a (.inScope x::k)) cs w) = .next (lone (b.atR a k) cs w):=
 step_lone_go (by simp[stepG,stepG.exec,Frame.atR])
def zp4{P:Program}{b:Frame}{a:Act}{k:List Item}{cs:List Frame}{w:World}{c:Code} :
  step P (lone (b.atR a (.code (.scope c)::k)) cs w) = .next (lone (b.atR a (.code c :: .inScope c::k)) cs w):=
 step_lone_go (by simp[stepG,stepG.exec,Frame.atR])
def zps{p:List Nat}{x:Code}(h:sub body p = .scope x):(dp.mk 3 p (.inScope x)).Ok body:=by
 show Item.inScope x=(match sub body p with | .scope x => .inScope x|c => .code c)
 rw[h]
def qw2{id:Nat}:∀{k:List dp},od id k=none->(∀i∈k,i.Ok body)->exitTo id (dv k)=none
 |[],_,_=>rfl|⟨kd,p,it⟩::k,h,hk=>by
  simp only[od]at h;have hk':=(q87 hk).2;split at h
  ·rename_i id';split at h
   ·cases h
   ·rename_i he;simp only[dv,exitTo];rw[qW he];exact qw2 h hk'
  ·rename_i hne;have:=qw2 h hk';simp only[dv];cases it<;>first
    |(exfalso;exact hne _ rfl)
    |(simp only[exitTo];exact this)
abbrev IH(cx:Cx)(vej:List (Nat×ah)){R:Type}(enc:RS R)(body:Code)(labs:List (eu R))(n:Nat):Prop:=
 ∀(chk:Bool)(k:List dp)(s:St)(r:R),(∀i∈k,i.Ok body)->run cx enc labs n chk k s=some r->ix cx vej enc (dv k) s r
def yh(cx:Cx){R:Type}(enc:RS R)(labs:List (eu R))(n:Nat)(p:List Nat)(k':List dp)(s:St)(c:Code):Option R:=match c with
 |.skip=>run cx enc labs n true k' s|.label _=>run cx enc labs n true k' s|.seq x y=>run cx enc labs n true (⟨0,0::p,.code x⟩::⟨0,1::p,.code y⟩::k') s|.cond c x y=>match s.ev c with|some (.bool b)=>bif b then run cx enc labs n true (⟨0,0::p,.code x⟩::k') (s.know c true) else run cx enc labs n true (⟨0,1::p,.code y⟩::k') (s.know c false)|some (.val (.bool b))=>bif b then run cx enc labs n true (⟨0,0::p,.code x⟩::k') s else run cx enc labs n true (⟨0,1::p,.code y⟩::k') s|_=>none
 |.block id x=>run cx enc labs n true (⟨0,0::p,.code x⟩::⟨1,p,.inBlock id⟩::k') s|.loop x=>run cx enc labs n true (⟨0,0::p,.code x⟩::⟨2,p,.inLoop x⟩::k') s|.scope x=>run cx enc labs n true (⟨0,0::p,.code x⟩::⟨3,p,.inScope x⟩::k') s|.exit id=>match od id k' with
  |some k''=>run cx enc labs n true k'' s|none=>match cx.rd with|some _=>mq cx enc (some (.exit id)) s|none=>none
 |.region _ ops d=>bif d then qww cx.P cx.tb ops s (fun s'=>run cx enc labs n true k' s'.bump) else yc cx.P cx.tb ops ops.toList s (fun s'=>run cx enc labs n true k' s'.bump)
 |.ret=>mq cx enc (some .ret) s|.rangeFunc g ps _ _=>rfR cx p g ps.toList s fun j s'=>match j with
  |none=>run cx enc labs n true k' s'|some .ret=>mq cx enc (some .ret) s'|some (.exit id)=>match od id k' with
   |some k''=>run cx enc labs n true k'' s'|none=>match cx.rd with|some _=>mq cx enc (some (.exit id)) s'|none=>none
 |_=>none
def zpc{labs:List (eu R)}{n:Nat}(ih:IH cx vej enc body labs n){p:List Nat}{k':List dp}{c:Operand}{x y:Code}{r:R}(hsub:sub body p = .cond c x y)(hk':∀i∈k',i.Ok body)(h:yh cx enc labs n p k' s (.cond c x y)=some r):ix cx vej enc (.code (.cond c x y)::dv k') s r:=by
 unfold yh at h;simp only at h;split at h
 ·rename_i t ht;cases t<;>simp only[qT,qF]at h
  ·refine(ih true _ _ r (kj (p6 1 hsub rfl) hk') h).via fun vem veh G a w hr b cs _ _ _ => ?_
   have he:a.eval c = .bool false:=bf hr ht;exact⟨G,a,w,hr.know he,.one (stepR_cond he)⟩
  ·refine(ih true _ _ r (kj (p6 0 hsub rfl) hk') h).via fun vem veh G a w hr b cs _ _ _ => ?_
   have he:a.eval c = .bool true:=bf hr ht;exact⟨G,a,w,hr.know he,.one (stepR_cond he)⟩
 ·rename_i t ht;cases t<;>simp only[qT,qF]at h
  ·refine(ih true _ _ r (kj (p6 1 hsub rfl) hk') h).via fun vem veh G a w hr b cs _ _ _ => ?_
   have he:a.eval c = .bool false:=bf hr ht;exact⟨G,a,w,hr,.one (stepR_cond he)⟩
  ·refine(ih true _ _ r (kj (p6 0 hsub rfl) hk') h).via fun vem veh G a w hr b cs _ _ _ => ?_
   have he:a.eval c = .bool true:=bf hr ht;exact⟨G,a,w,hr,.one (stepR_cond he)⟩
 ·cases h
def zpi(ok:cx.Ok body){labs:List (eu R)}{n:Nat}(ih:IH cx vej enc body labs n){p:List Nat}{k':List dp}{id:Nat}{ops:Array Oper}{d:Bool}{r:R}(hk':∀i∈k',i.Ok body)(h:yh cx enc labs n p k' s (.region id ops d)=some r):ix cx vej enc (.code (.region id ops d)::dv k') s r:=by
 unfold yh at h;simp only at h;cases d<;>simp only[qT,qF]at h
 ·intro vem veh G a w hr b cs hb hkd hrd;have hops:=q9d (P:=cx.P) (ops:=ops) ok.ents (N:=fun a' w'=>vj cx.P b.roundOf cx.f (lone (b.atR a' (dv k')) cs w') cs fun v w'=>∃G',Fin vem veh vej G' (enc.res r).2 w'/\aj (enc.res r).1 G' v)
   (fun s' h' G' a' w' hr'=>ih true k' s'.bump r hk' h' vem veh G' a' w' hr'.bump b cs hb hkd hrd) ops.toList 0 s G a w (fun j hj=>by simp) h hr
  have e:List.range' 0 ops.toList.length=List.range ops.size:=by simp[List.range_eq_range']
  rw[e]at hops;obtain⟨a',w',h1,h2⟩:=zir (id:=id) hops b (dv k') cs hkd;exact h1.head h2
 ·intro vem veh G a w hr b cs hb hkd hrd;obtain⟨a',w',h1,h2⟩:=zi2 (P:=cx.P) ok.ents ok.mixed h (N:=fun a' w'=>vj cx.P b.roundOf cx.f (lone (b.atR a' (dv k')) cs w') cs fun v w'=>∃G',Fin vem veh vej G' (enc.res r).2 w'/\aj (enc.res r).1 G' v)
   (fun s' h' G' a' w' hr'=>ih true k' s'.bump r hk' h' vem veh G' a' w' hr'.bump b cs hb hkd hrd) hr id b (dv k') cs hkd
  exact h1.head h2
def za1(ok:cx.Ok body)(hid:∀n bx,ae vej n=some bx->az cx.ids n=some n){labs:List (eu R)}{n:Nat}(ih:IH cx vej enc body labs n){k':List dp}{id:Nat}{r:R}(hk':∀i∈k',i.Ok body)
  (h:(match od id k' with
   |some k''=>run cx enc labs n true k'' s|none=>match cx.rd with
    |some _=>mq cx enc (some (.exit id)) s| none=>none)=some r):ix cx vej enc (.code (.exit id)::dv k') s r:=by
 split at h
 ·rename_i k'' hx;obtain⟨h1,h2⟩:=qw3 hx;exact(ih true k'' s r (fun i hi=>hk' i (h2 i hi)) h).one fun a w b cs=>stepR_exit h1
 ·rename_i hx;split at h
  ·rename_i m hm;exact qmr ok hid (j:=some (.exit id)) ⟨by rw[hm];simp,_,rfl,qw2 hx hk'⟩ h
  ·cases h
def zph(ok:cx.Ok body)(hid:∀n bx,ae vej n=some bx->az cx.ids n=some n){labs:List (eu R)}{n:Nat}(ih:IH cx vej enc body labs n){p:List Nat}{k':List dp}{g:Operand}{ps:Array Tmp}{asn bo:Code}{r:R}(hsub:sub body p = .rangeFunc g ps asn bo)(hk':∀i∈k',i.Ok body)
  (h:yh cx enc labs n p k' s (.rangeFunc g ps asn bo)=some r):ix cx vej enc (.code (.rangeFunc g ps asn bo)::dv k') s r:=by
 unfold yh at h;simp only at h;intro vem veh G a w hr b cs hb hkd hrd;obtain⟨j,s',G',a',w',h1,h2,h3⟩:=zof ok hr hsub h cs hb hkd hrd (dv k');refine vj.head h3 ?_
 cases j with
 |none=>exact ih true k' s' r hk' h1 vem veh G' a' w' h2 b cs hb hkd hrd|some j=>cases j with|ret=>exact qmr ok hid (j:=some .ret) (k := .code .ret::dv k') ⟨_,rfl⟩ h1 vem veh G' a' w' h2 b cs hb hkd hrd|exit id=>exact za1 ok hid ih hk' h1 vem veh G' a' w' h2 b cs hb hkd hrd
def zpb(ok:cx.Ok body)(hid:∀n bx,ae vej n=some bx->az cx.ids n=some n){labs:List (eu R)}{n:Nat}(ih:IH cx vej enc body labs n){kd:Nat}{p:List Nat}{k':List dp}{c:Code}{r:R}(hi:(dp.mk kd p (.code c)).Ok body)(hk':∀i∈k',i.Ok body)
  (h:yh cx enc labs n p k' s c=some r):ix cx vej enc (.code c::dv k') s r:=by
 have hsub:=zig hi
 cases c with
 |skip=>exact(ih true k' s r hk' h).one fun a w b cs=>stepR_skip
 |label l=>exact(ih true k' s r hk' h).one fun a w b cs=>stepR_label
 |seq x y=>exact(ih true _ s r (kj (p6 0 hsub rfl) (kj (p6 1 hsub rfl) hk')) h).one fun a w b cs=>stepR_seq
 |cond c x y=>exact zpc ih hsub hk' h|block id x=>exact(ih true _ s r (kj (p6 0 hsub rfl) (kj (zhu hsub) hk')) h).one fun a w b cs=>stepR_block
 |loop x=>exact(ih true _ s r (kj (p6 0 hsub rfl) (kj (q79 hsub) hk')) h).one fun a w b cs=>stepR_loop
 |scope x=>exact(ih true _ s r (kj (p6 0 hsub rfl) (kj (zps hsub) hk')) h).one fun a w b cs=>zp4
 |exit id=>exact za1 ok hid ih hk' h|region id ops d=>exact zpi ok ih hk' h|ret=>exact qmr ok hid (j:=some .ret) ⟨_,rfl⟩ h|rangeFunc g ps asn bo=>exact zph ok hid ih hsub hk' h|_=>cases h
def zpa{labs:List (eu R)}{n:Nat}(ih:IH cx vej enc body labs n){k':List dp}{r:R}(hk':∀i∈k',i.Ok body)
  (h:(match cx.rd with
   |some m=>match ae s.hp m with|some (.loop .ready pe f n' fr ps tag D)=>run cx enc labs n true k' { s with hp:=(m,.loop .busy pe f n' fr ps tag D)::s.hp }|_=>none
   | none=>none)=some r):ix cx vej enc (.beginRound::dv k') s r:=by
 split at h
 ·rename_i m hm;split at h
  ·rename_i pe f n' fr ps tag D hl;refine(ih true k' _ r hk' h).via fun vem veh G a w hr b cs _ _ hrd => ?_
   unfold pt at hrd;rw[hm]at hrd;simp only at hrd;obtain⟨B,bx0,e1,e2,e3⟩:=hrd;obtain⟨B',tmps,DB,i1,i2,⟨asn,bo,i3,i4⟩,i5,i6,i7⟩:=hr.fin.mem.holds _ _ hl;have:=hr.fin.keep m bx0 B e2 e1;rw[this]at i1;injection i1 with i1;subst i1
   have hbr:=run_beginRound (P:=cx.P) i4 rfl;exact⟨G,a,_,hr.setBox (bx' := .loop .busy pe f n' fr ps tag D) hl (show G.box m=some B from this)
    (fun c hc=>by have hc:G.box m=some c:=hc;rw[this]at hc;injection hc with hc;exact hc.symm)
    ⟨B,tmps,DB,this,i2,⟨asn,bo,i3,by rw[World.putObj_heap_same (Array.getElem?_eq_some_iff.1 i4).1]⟩,i5,i6,i7⟩ i7,.one (stepR_beginRound e3 hbr)⟩
  ·cases h
 ·cases h
def qzb(ok:cx.Ok body)(hid:∀n bx,ae vej n=some bx->az cx.ids n=some n){labs:List (eu R)}(hlab:∀l∈labs,pp cx vej enc body l) :
  ∀(n:Nat)(chk:Bool)(k:List dp)(s:St)(r:R),(∀i∈k,i.Ok body)->run cx enc labs n chk k s=some r->ix cx vej enc (dv k) s r:=by
 intro n
 induction n with
 |zero=>intro chk k s r _ h;cases h
 |succ n ih=>
  intro chk k s r hk h;unfold run at h
  cases hl:(bif chk then ye cx.ids s k labs else none) with
  |some lab=>
   rw[hl]at h;have hl:ye cx.ids s k labs=some lab:=by cases chk<;>simp only[qT,qF,reduceCtorEq]at hl;exact hl
   obtain⟨hm,hkey⟩:=qyo hl;simp only at h;split at h
   ·rename_i d hd;have hg:=hlab lab hm d r h;rw[q6z hkey hk]at hg;refine hg.via fun vem veh G a w hr b cs _ _ _ => ?_
    obtain⟨G1,hr1⟩:=hr.co lab.ls cx.ids;obtain⟨G2,hr2⟩:=hr1.fit hid hd;exact⟨G2,a,w,hr2,.refl _ _⟩
   ·cases h
  |none=>
   rw[hl]at h;simp only at h;clear hl
   cases k with
   |nil=>exact qmr ok hid (by rfl) h|cons i k'=>
    obtain⟨kd,p,it⟩:=i;obtain⟨hi,hk'⟩:=q87 hk;clear hk
    cases it with
    |code c=>exact zpb ok hid ih hi hk' h|inBlock id=>exact(ih true k' s r hk' h).one fun a w b cs=>stepR_inBlock
    |inScope id=>exact(ih true k' s r hk' h).one fun a w b cs=>zp3
    |inLoop x=>
     have hsub:sub body p = .loop x:=zk0 hi;exact(ih true _ s r (kj (p6 0 hsub rfl) (kj (q79 hsub) hk')) h).one fun a w b cs=>stepR_inLoop
    |beginRound=>exact zpa ih hk' h|_=>cases h
end
def St.reCell(s:St)(b off:Nat):St:=
 match ae s.hp b with
 |some (.cells cs T)=>match cs[off]? with
  |some (.own k)=>match ae s.hp k with|some (.row τ l E)=>bif a6 s.nx s.hp then{ s with hp:=(b,.cells (cs.set off (.own s.nx)) T)::(s.nx,.row τ l E)::(k,.dead)::s.hp,nx:=s.nx+32 } else s|_=>s
  |_=>s
 |_=>s
def qnk:Pt->Bool|.own _=>true|_=>false
def reB1(b:Nat):List Pt->Nat->St->St|[],_,s=>s|p::ps,off,s=>reB1 b ps (off+1) (bif qnk p then s.reCell b off else s)
def reB:List (Nat×a7)->St->St
 |[],s=>s|(n,p)::r,s=>match p with|.cells ps _=>reB r (reB1 n ps 0 s)|_=>reB r s
def St.reSlot(s:St)(i:Nat):St:=
 match ae s.fr i with
 |some (.own k)=>match ae s.hp k with|some (.row τ l E)=>bif a6 s.nx s.hp&&Nat.blt i s.n then{ s with fr:=(i,.own s.nx)::s.fr,hp:=(s.nx,.row τ l E)::(k,.dead)::s.hp,nx:=s.nx+32 } else s|_=>s
 |_=>s
def reA:List Pt->Nat->St->St|[],_,s=>s|p::ps,i,s=>reA ps (i+1) (bif qnk p then s.reSlot i else s)
section
variable{vem:World}{veh:Gh}{vej:List (Nat×ah)}{G:Gh}{s:St}{a:Act}{w:World}
def Fin.rename{hp:List (Nat×ah)}(hf:Fin vem veh vej G hp w){k k':Nat}{τ:Ty}{l:List τ.den}{E:TypeId}{v:Option Addr×Nat×Nat}(hk:ae hp k=some (.row τ l E))(hk':ae hp k'=none)(hfr:G.own k'=none)(ho:G.own k=some v) :
  Fin vem veh vej (G.addOwn k' v) ((k',.row τ l E)::(k,.dead)::hp) w:=by
 have hle:G.le (G.addOwn k' v):=Gh.addOwn_le hfr;have hlk:∀m b,ae ((k',ah.row τ l E)::(k,.dead)::hp) m=some b->(m=k'/\b = .row τ l E)\/b = .dead\/(m≠k/\ae hp m=some b):=fun m b h=>by
  simp only[ae]at h;cases hb:Nat.beq k' m
  ·rw[hb]at h;cases hb2:Nat.beq k m
   ·rw[hb2]at h;exact .inr (.inr ⟨fun e=>by subst e;simp at hb2,h⟩)
   ·rw[hb2]at h;simp only[qT,qF,qI]at h;exact .inr (.inl h.symm)
  ·rw[hb]at h;simp only[qT,qI]at h;exact .inl ⟨(qN hb).symm,h.symm⟩
 have hat:(G.addOwn k' v).at k' (.row τ l E)=G.at k (.row τ l E):=by simp only[Gh.at,Gh.addOwn_self,ho]
 refine⟨⟨hf.mem.agree,hf.mem.one,?_,?_,hf.mem.tab⟩,hf.bel,hf.imm_le,hf.imm_new,?_,fun n bx B h1 h2=>hle.box _ _ (hf.keep n bx B h1 h2),fun n bx B h1 h2=>hle.own _ _ (hf.keepOwn n bx B h1 h2)⟩
 ·intro m b h;rcases hlk m b h with⟨rfl,rfl⟩|rfl|⟨_,h⟩
  ·obtain⟨ad,c,i1,i2⟩:=hf.mem.holds k _ hk;rw[ho]at i1;injection i1 with i1;subst i1
   exact⟨ad,c,Gh.addOwn_self,i2⟩
  ·trivial
  ·exact(hf.mem.holds m b h).mono hle (fun _ _=>rfl) (fun _ _ _ h => .inl h)
 ·intro m m' b b' c h1 h2 h3 h4;rcases hlk m b h1 with⟨rfl,rfl⟩|rfl|⟨n1,g1⟩<;>rcases hlk m' b' h2 with⟨e2,rfl⟩|rfl|⟨n2,g2⟩
  ·exact e2.symm
  ·cases h4
  ·rw[hat]at h3;rw[(hf.mem.holds m' b' g2).at_le hle]at h4;exact absurd (hf.mem.apart m' k b' _ c g2 hk h4 h3) n2
  ·cases h3
  ·cases h3
  ·cases h3
  ·subst e2;rw[hat]at h4;rw[(hf.mem.holds m b g1).at_le hle]at h3;exact absurd (hf.mem.apart m k b _ c g1 hk h3 h4) n1
  ·cases h4
  ·rw[(hf.mem.holds m b g1).at_le hle]at h3;rw[(hf.mem.holds m' b' g2).at_le hle]at h4;exact hf.mem.apart m m' b b' c g1 g2 h3 h4
 ·intro m b c h1 h2;rcases hlk m b h1 with⟨rfl,rfl⟩|rfl|⟨n1,h1⟩
  ·rw[hat]at h2;exact hf.base k _ c hk h2
  ·cases h2
  ·rw[(hf.mem.holds m b h1).at_le hle]at h2;exact hf.base m b c h1 h2
def ak.reCell(hr:ak vem veh vej G s a w)(b off:Nat):∃G',ak vem veh vej G' (s.reCell b off) a w:=by
 unfold St.reCell;split
 ·rename_i cs T hb0;split
  ·rename_i k hx0;split
   ·rename_i τ l E hk0;cases hn:a6 s.nx s.hp
    ·exact⟨G,hr⟩
    ·simp only[qT];have hk:=kv hn s.nx (wF _) (by omega)
     obtain⟨ad,c,i1,_⟩:=hr.fin.mem.holds k _ hk0;have hfresh:=hr.fresh s.nx (wF _) hk;have hle:G.le (G.addOwn s.nx (ad,l.length,c)):=Gh.addOwn_le hfresh.2;have hf:=hr.fin.rename hk0 hk hfresh.2 i1;have hne:s.nx≠b:=fun e=>by rw[e,hb0]at hk;cases hk
     have hne2:k≠b:=fun e=>by rw[e,hb0]at hk0;cases hk0
     have hb1:ae ((s.nx,ah.row τ l E)::(k,.dead)::s.hp) b=some (.cells cs T):=by
      simp only[ae];cases hq:Nat.beq s.nx b
      ·cases hq2:Nat.beq k b
       ·exact hb0
       ·exact absurd (qN hq2) hne2
      ·exact absurd (qN hq) hne
     obtain⟨B,vs,k1,k2,k3,k4,k5⟩:=hf.mem.holds _ _ hb1;have hv:vs.toList[off]? = some (.slice ad l.length c):=by
      obtain⟨v,h1,h2⟩:=la k3 hx0;obtain⟨a',n',c',q1,q2⟩:=h2;rw[hle.own _ _ i1]at q1;simp only[qI,qP]at q1;obtain⟨rfl,rfl,rfl⟩:=q1;subst q2;exact h1
     have hset:vs.toList.set off (.slice ad l.length c)=vs.toList:=by
      obtain⟨hlt,he⟩:=List.getElem?_eq_some_iff.1 hv;rw[← he,List.set_getElem_self]
     refine⟨G.addOwn s.nx (ad,l.length,c),⟨by obtain⟨bs,q1,q2⟩:=hr.defers;exact⟨bs,q1,qa hle.box q2⟩,hr.size,fun j x hx=>by obtain⟨v,h1,h2⟩:=hr.frame j x hx;exact⟨v,h1,h2.le hle⟩,fun m hm hl => ?_,?_⟩⟩
     ·simp only at hm;have hmn:s.nx≠m:=by omega
      simp only[ae]at hl;cases hq:Nat.beq b m<;>rw[hq]at hl<;>simp only[qT,qF,reduceCtorEq]at hl
      cases hq1:Nat.beq s.nx m<;>rw[hq1]at hl<;>simp only[qT,qF,reduceCtorEq]at hl
      cases hq2:Nat.beq k m<;>rw[hq2]at hl<;>simp only[qT,qF,reduceCtorEq]at hl
      obtain⟨h1,h2⟩:=hr.fresh m (by omega) hl
      refine⟨h1,?_⟩;show(bif Nat.beq m s.nx then some _ else G.own m)=none
      cases hbm:Nat.beq m s.nx
      ·exact h2
      ·exact absurd (qN hbm).symm hmn
     ·refine hf.update (bx := .cells cs T) (bx' := .cells (cs.set off (.own s.nx)) T) hb1 (B:=B) k1 k1 ⟨rfl,rfl,rfl,wF _,fun _ _ _=>rfl⟩ ⟨B,vs,k1,k2,?_,k4,k5⟩ k5
      have:=qhv off k3 (x := .own s.nx) (v := .slice ad l.length c) ⟨ad,l.length,c,Gh.addOwn_self,rfl⟩
      rwa [hset]at this
   ·exact⟨G,hr⟩
  ·exact⟨G,hr⟩
 ·exact⟨G,hr⟩
def ak.reSlot(hr:ak vem veh vej G s a w)(i:Nat):∃G',ak vem veh vej G' (s.reSlot i) a w:=by
 unfold St.reSlot;split
 ·rename_i k hx0;split
  ·rename_i τ l E hk0;cases hn:a6 s.nx s.hp&&Nat.blt i s.n
   ·exact⟨G,hr⟩
   ·simp only[qT];simp only[qA]at hn;have hk:=kv hn.1 s.nx (wF _) (by omega)
    obtain⟨ad,c,i1,_⟩:=hr.fin.mem.holds k _ hk0;have hfresh:=hr.fresh s.nx (wF _) hk;have hle:G.le (G.addOwn s.nx (ad,l.length,c)):=Gh.addOwn_le hfresh.2;refine⟨G.addOwn s.nx (ad,l.length,c),⟨by obtain⟨bs,q1,q2⟩:=hr.defers;exact⟨bs,q1,qa hle.box q2⟩,hr.size,fun j x hx => ?_,fun m hm hl => ?_,hr.fin.rename hk0 hk hfresh.2 i1⟩⟩
    ·simp only[ae]at hx;cases hq:Nat.beq i j
     ·rw[hq]at hx;obtain⟨v,h1,h2⟩:=hr.frame j x hx;exact⟨v,h1,h2.le hle⟩
     ·rw[hq]at hx;simp only[qT,qI]at hx;subst hx;have:=qN hq;subst this;obtain⟨v,h1,a',n',c',q1,q2⟩:=hr.frame i _ hx0;rw[i1]at q1;simp only[qI,qP]at q1;obtain⟨rfl,rfl,rfl⟩:=q1;exact⟨v,h1,ad,l.length,c,Gh.addOwn_self,q2⟩
    ·simp only at hm;have hmn:s.nx≠m:=by omega
     simp only[ae]at hl;cases hq1:Nat.beq s.nx m<;>rw[hq1]at hl<;>simp only[qT,qF,reduceCtorEq]at hl
     cases hq2:Nat.beq k m<;>rw[hq2]at hl<;>simp only[qT,qF,reduceCtorEq]at hl
     obtain⟨h1,h2⟩:=hr.fresh m (by omega) hl
     refine⟨h1,?_⟩;show(bif Nat.beq m s.nx then some _ else G.own m)=none
     cases hbm:Nat.beq m s.nx
     ·exact h2
     ·exact absurd (qN hbm).symm hmn
  ·exact⟨G,hr⟩
 ·exact⟨G,hr⟩
def ak.reA:∀{ps:List Pt}{i:Nat}{s:St}{G:Gh},ak vem veh vej G s a w->∃G',ak vem veh vej G' (reA ps i s) a w
 |[],_,s,G,hr=>⟨G,hr⟩|p::ps,i,s,G,hr=>by
  unfold Sym.reA;cases qnk p
  ·exact ak.reA hr
  ·obtain⟨G',hr'⟩:=hr.reSlot i;exact ak.reA hr'
def ak.reB1{b:Nat}:∀{ps:List Pt}{off:Nat}{s:St}{G:Gh},ak vem veh vej G s a w->∃G',ak vem veh vej G' (reB1 b ps off s) a w
 |[],_,s,G,hr=>⟨G,hr⟩|p::ps,off,s,G,hr=>by
  unfold Sym.reB1;cases qnk p
  ·exact ak.reB1 hr
  ·obtain⟨G',hr'⟩:=hr.reCell b off;exact ak.reB1 hr'
def ak.reB:∀{l:List (Nat×a7)}{s:St}{G:Gh},ak vem veh vej G s a w->∃G',ak vem veh vej G' (reB l s) a w
 |[],s,G,hr=>⟨G,hr⟩|(n,p)::r,s,G,hr=>by
  unfold Sym.reB;split
  ·obtain⟨G',hr'⟩:=hr.reB1;exact ak.reB hr'
  ·exact ak.reB hr
end
def eh:List (Nat×a7)->NM|[]=>[]|(n,_)::r=>(n,n)::eh r
def iz(N:NM)(n:Nat):Bool:=match ax N n with|some m=>Nat.beq m n|none=>false
def ul{N:NM}{n:Nat}(h:iz N n=true):ax N n=some n:=by
 unfold iz at h;split at h
 ·rename_i m hm;have:=qN h;subst this;exact hm
 ·cases h
mutual
def qyv(N:NM):Pt->Bool|.agg ps=>qo N ps|.tup ps=>qo N ps|.ptr b _=>iz N b|.own k=>iz N k|.el k _=>iz N k|.iel _ k _=>iz N k|.yld k=>iz N k|.pn k=>iz N k|.fn _ ps=>qo N ps|_=>true
def qo(N:NM):List Pt->Bool|[]=>true|p::ps=>qyv N p&&qo N ps
end
def zhi{ρ:Nat->Option Nat}:∀{τ:Ty}{d:τ.den},(τ.av d).ren ρ=τ.av d|.int _,_=>rfl|.byte,_=>rfl|.bool,_=>rfl|.str,_=>rfl|.unit,_=>rfl|.list _,_=>rfl|.prod a b,d=>by show AV.agg (AV.rens ρ ((Ty.prod a b).enc d))=_;rw[Ty.enc_ren];rfl|.tree a,d=>by show AV.agg (AV.rens ρ ((Ty.tree a).enc d))=_;rw[Ty.enc_ren];rfl
mutual
def q9t{N:NM}:∀{p:Pt}{d:p.den},qyv N p=true->(p.put d).ren (ax N)=p.put d|.h τ,d,_=>zhi|.c _,_,_=>rfl|.agg ps,d,h=>congrArg AV.agg (yg (ps:=ps) (d:=d) h)|.tup ps,d,h=>congrArg AV.tup (yg (ps:=ps) (d:=d) h)|.ptr b off,_,h=>by show AV.ren (ax N) (.ptr b off)=_;simp only[AV.ren,ul (show iz N b=true from h)];rfl|.own k,_,h=>by show AV.ren (ax N) (.own k)=_;simp only[AV.ren,ul (show iz N k=true from h)];rfl|.arr _,_,_=>rfl|.el k sz,_,h=>by show AV.ren (ax N) (.oel k sz 0 0)=_;simp only[AV.ren,ul (show iz N k=true from h)];rfl|.iel t k sz,_,h=>by show AV.ren (ax N) (.iface t (.oel k sz 0 0))=_;simp only[AV.ren,ul (show iz N k=true from h)];rfl|.yld k,_,h=>by show AV.ren (ax N) (.yld k)=_;simp only[AV.ren,ul (show iz N k=true from h)];rfl|.pn k,_,h=>by show AV.ren (ax N) (.pn k)=_;simp only[AV.ren,ul (show iz N k=true from h)];rfl|.fn f ps,d,h=>congrArg (AV.fn (.func f) []) (yg (ps:=ps) (d:=d) h)|.u,_,_=>rfl
def yg{N:NM}:∀{ps:List Pt}{d:Pts.den ps},qo N ps=true->AV.rens (ax N) (Pts.put ps d)=Pts.put ps d
 |[],_,_=>rfl|p::ps,d,h=>by
  simp only[qo,qA]at h;have h1:=q9t (p:=p) (d:=d.1) h.1;have h2:=yg (ps:=ps) (d:=d.2) h.2;show AV.ren (ax N) (p.put d.1)::AV.rens (ax N) (Pts.put ps d.2)=p.put d.1::Pts.put ps d.2;rw[h1,h2]
end
def fIn(N:NM):List (Nat×Pt)->Bool|[]=>true|(_,p)::r=>qyv N p&&fIn N r
def q7m{N:NM}:∀{l:List (Nat×Pt)}{d:og l},fIn N l=true->ne (ax N) (jh l d)=jh l d
 |[],_,_=>rfl|(i,p)::r,d,h=>by
  simp only[fIn,qA]at h;have h1:=q9t (p:=p) (d:=d.1) h.1;have h2:=q7m (l:=r) (d:=d.2) h.2;show(i,AV.ren (ax N) (p.put d.1))::ne (ax N) (jh r d.2)=(i,p.put d.1)::jh r d.2;rw[h1,h2]
def qv8(N:NM):a7->Bool|.cells ps _=>qo N ps|.loop _ _ _ _ fr _ _ D=>iz N D&&fIn N fr|_=>true
def bIn(N:NM):List (Nat×a7)->Bool|[]=>true|(n,p)::r=>iz N n&&qv8 N p&&bIn N r
def zhy{N:NM}:∀{p:a7}{d:p.den},qv8 N p=true->du (ax N) (p.put d)=p.put d
 |.cells ps T,d,h=>congrArg (fun l=>ah.cells l T) (yg (ps:=ps) (d:=d) h)
 |.row _ _,_,_=>rfl|.loop st pe f n fr ps tag D,d,h=>by
  simp only[qv8,qA]at h;have h2:=q7m (l:=fr) (d:=d) h.2;have h3:du (ax N) (.loop st pe f n (jh fr d) ps tag D) = .loop st pe f n (ne (ax N) (jh fr d)) ps tag D:=by simp only[du,ul h.1]
  exact h3.trans (congrArg (fun l=>ah.loop st pe f n l ps tag D) h2)
 |.dfr,_,_=>rfl|.it,_,_=>rfl|.dead,_,_=>rfl|.dat τ T,d,_=>congrArg (fun l=>ah.cells l T) (Ty.enc_ren (ax N) τ d)
def qv0{N:NM}:∀{l:List (Nat×a7)}{d:fb l},bIn N l=true->∀n b,ae (cg l d) n=some b->ax N n=some n/\du (ax N) b=b
 |[],_,_,_,_,h=>by cases h
 |(m,p)::r,d,h,n,b,hl=>by
  simp only[bIn,qA]at h;have hl:(bif Nat.beq m n then some (p.put d.1) else ae (cg r d.2) n)=some b:=hl
  cases hb:Nat.beq m n
  ·rw[hb]at hl;exact qv0 (d:=d.2) h.2 n b hl
  ·rw[hb]at hl;have:=qN hb;subst this;simp only[qT,qI]at hl;subst hl;exact⟨ul h.1.1,zhy h.1.2⟩
def da.only{G:Gh}{hp:List (Nat×ah)}{w:World}{N:NM}(hm:da G hp w)(h:∀n b,ae hp n=some b->ax N n=some n/\du (ax N) b=b):da (G.view N) hp w:=by
 have hb:∀n b,ae hp n=some b->(G.view N).box n=G.box n/\(G.view N).own n=G.own n:=fun n b hl=>by
  have:=qq (h n b hl).1;exact⟨by simp[Gh.view,this],by simp[Gh.view,this]⟩
 have hat:∀n b c,ae hp n=some b->(G.view N).at n b=some c->G.at n b=some c:=fun n b c hl hc=>by
  have:=(h n b hl).2;exact py (G:=G) (G':=G.view N) (ρ:=ax N) (hb n b hl).1 (hb n b hl).2 (by rw[this];exact hc)
 refine⟨hm.agree,hm.one,fun n b hl => ?_,fun n m b b' c h1 h2 h3 h4=>hm.apart n m b b' c h1 h2 (hat _ _ _ h1 h3) (hat _ _ _ h2 h4),hm.tab⟩
 have:=c8.ren (G:=G) (G':=G.view N) (ρ:=ax N) (n:=n) (m:=n) (fun _ _ _ h=>h) (fun _ _ _ h=>h) (qx N) (td N) (fun B hB=>by rw[(hb n b hl).1];exact hB) (fun B hB=>by rw[(hb n b hl).2];exact hB) (hm.holds n b hl)
 rw[(h n b hl).2]at this;exact this
def Fin.only{G G':Gh}{hp hp':List (Nat×ah)}{w w':World}{N:NM}(h:∀n b,ae hp n=some b->ax N n=some n/\du (ax N) b=b)(hf:Fin w (G.view N) hp G' hp' w'):Fin w G hp G' hp' w':=by
 have hb:∀n b,ae hp n=some b->(G.view N).box n=G.box n/\(G.view N).own n=G.own n:=fun n b hl=>by
  have:=qq (h n b hl).1;exact⟨by simp[Gh.view,this],by simp[Gh.view,this]⟩
 have hblk:∀c,n8 (G.view N) hp c->n8 G hp c:=fun c⟨n,b,h1,h2⟩=>⟨n,b,h1,py (G:=G) (G':=G.view N) (ρ:=ax N) (hb n b h1).1 (hb n b h1).2 (by rw[(h n b h1).2];exact h2)⟩
 refine⟨hf.mem,⟨hf.bel.os,hf.bel.tape,hf.bel.output,hf.bel.size,fun k hk hS=>hf.bel.block k hk fun hx=>hS (hblk k hx)⟩,hf.imm_le,fun b o v hv => ?_,fun n b c h1 h2 => ?_,fun n b B h1 h2=>hf.keep n b B h1 (by rw[(hb n b h1).1];exact h2),fun n b B h1 h2=>hf.keepOwn n b B h1 (by rw[(hb n b h1).2];exact h2)⟩
 ·rcases hf.imm_new b o v hv with h|h|h
  ·exact .inl h
  ·exact .inr (.inl h)
  ·exact .inr (.inr (hblk _ h))
 ·rcases hf.base n b c h1 h2 with h|h
  ·exact .inl h
  ·exact .inr (hblk _ h)
def qhg:List AV->Nat->List (Nat×AV)|[],_=>[]|x::xs,i=>(i,x)::qhg xs (i+1)
def q7w:∀{xs:List AV}{G:Gh}{vs:List Value}(i:Nat),al xs G vs->∀j x,ae (qhg xs i) j=some x->i<=j/\∃v,vs[j-i]? = some v/\aj x G v
 |[],_,[],_,_,j,x,h=>by cases h
 |x::xs,G,v::vs,i,hr,j,y,h=>by
  simp only[qhg,ae]at h;cases hb:Nat.beq i j
  ·rw[hb]at h;obtain⟨h1,u,h2,h3⟩:=q7w (i+1) hr.2 j y h;refine⟨by omega,u,?_,h3⟩
   rw[show j-i=(j-(i+1))+1 by omega];simpa using h2
  ·rw[hb]at h;have:=qN hb;subst this;simp only[qT,qI]at h;subst h;exact⟨wF _,v,by simp,hr.1⟩
 |[],_,_::_,_,h,_,_,_=>h.elim|_::_,_,[],_,h,_,_,_=>h.elim
def qmb{G:Gh}{w:World}{hp:List (Nat×ah)}(hm:da G hp w):Fin w G hp G hp w:=
 ⟨hm,⟨rfl,rfl,rfl,wF _,fun _ _ _=>rfl⟩,fun _ _ _ h=>h,fun _ _ _ h => .inl h,fun n bx _b h1 h2 => .inr ⟨n,bx,h1,h2⟩,fun _ _ _ _ h=>h,fun _ _ _ _ h=>h⟩
def NX:Nat:=64
def qy9(cx:Cx)(body:Code){R:Type}(enc:RS R)(labs:List (eu R))(asn:List Pt)(pts:List (Nat×a7))(xs:List AV)(hp:List (Nat×ah)):Option R:=
 run cx enc labs 1000000 true [⟨0,[],.code body⟩] (reB pts (reA (bif cx.tb.sub then asn else[]) 0 { n:=cx.fn.ntmps,fr:=qhg xs 0,hp:=hp,nx:=NX,df:=[] }))
def qm7(cx:Cx)(args:List Pt)(hp:List (Nat×a7)):Bool:=qo (eh hp) args&&bIn (eh hp) hp&&Nat.ble args.length cx.fn.ntmps
def qng:∀{l:List (Nat×a7)}{d:fb l}{n:Nat}{b:ah},ae (cg l d) n=some b->az (eh l) n=some n
 |[],_,_,_,h=>by cases h
 |(m,p)::r,d,n,b,h=>by
  have h:(bif Nat.beq m n then some (p.put d.1) else ae (cg r d.2) n)=some b:=h
  simp only[eh,az];cases hb:Nat.beq m n
  ·rw[hb]at h;exact qng (d:=d.2) h
  ·have:=qN hb;subst this;rfl
def qx8{m:Nat}:∀{l:List (Nat×a7)}{d:fb l},ae (cg l d) m=none->az (eh l) m=none
 |[],_,_=>rfl|(n,p)::r,d,h=>by
  have h:(bif Nat.beq n m then some (p.put d.1) else ae (cg r d.2) m)=none:=h
  simp only[eh,az];cases hb:Nat.beq n m
  ·rw[hb]at h;exact qx8 (d:=d.2) h
  ·rw[hb]at h;cases h
def q9u:∀{ps:List Pt}{d:Pts.den ps},(Pts.put ps d).length=ps.length|[],_=>rfl|p::ps,d=>by show(p.put d.1::Pts.put ps d.2).length=_;simp[q9u]
def dn.sound_fn{e:dn}{cx:Cx}{body:Code}{labs:List (eu e.R)}(ok:cx.Ok body)(hkey:e.key = .fn cx.f)(hbody:cx.fn.body=some body)(hrd:cx.rd=none)(hids:cx.ids=eh e.hp)(hpl:rt cx.P cx.f)
  (hfine:qm7 cx e.args e.hp=true) (hlab:∀d',∀l∈labs,pp cx (cg e.hp d') e.out body l) (hF:∀d d',qy9 cx body e.out labs e.args e.hp (Pts.put e.args d) (cg e.hp d')=e.F d d'):e.Sound cx.P:=by
 intro d d' r hr;rw[hkey];refine⟨hpl,fun w G vs hm hreps => ?_⟩
 simp only[qm7,qA]at hfine;obtain⟨⟨f1,f2⟩,f3⟩:=hfine;have f3:=Nat.le_of_ble_eq_true f3;have hin:=qv0 (d:=d') f2;have hm':=hm.only hin;have hreps':al (Pts.put e.args d) (G.view (eh e.hp)) vs:=by
  have:=al.ren (ρ:=ax (eh e.hp)) (G:=G) (G':=G.view (eh e.hp)) (fun _ _ _ h=>h) (qx _) (td _) hreps
  rwa [yg f1]at this
 have hlv:=hreps.length;rw[q9u]at hlv;have hrun:=hF d d';rw[hr]at hrun;have hg:=qzb (enc:=e.out) ok (vej:=cg e.hp d') (fun n bx h=>by rw[hids];exact qng h) (hlab d') _ _ _ _ _ (fun i hi=>by
  rcases List.mem_cons.1 hi with rfl|hi
  ·rfl
  ·cases hi) hrun
 have hr0:ak w (G.view (eh e.hp)) (cg e.hp d') (G.view (eh e.hp)) { n:=cx.fn.ntmps,fr:=qhg (Pts.put e.args d) 0,hp:=cg e.hp d',nx:=NX,df:=[] } { tmps:=vs.toArray++Array.replicate (cx.fn.ntmps-vs.toArray.size) undef,defers:=[] } w:=by
  refine⟨⟨[],rfl,rfl⟩,by simp;omega,fun i x hx => ?_,fun m _ hl => ?_,qmb hm'⟩
  ·obtain⟨_,v,h2,h3⟩:=q7w 0 hreps' i x hx;refine⟨v,?_,h3⟩;have hlt:i<vs.length:=by have:=(List.getElem?_eq_some_iff.1 h2).1;simpa using this
   rw[Array.getElem?_append_left (by simpa using hlt)]
   simpa using h2
  ·have:az (eh e.hp) m=none:=qx8 hl;simp[Gh.view,this]
 obtain⟨G0,hr0'⟩:=hr0.reA (ps:=bif cx.tb.sub then e.args else[]) (i:=0)
 obtain⟨G1,hr1⟩:=hr0'.reB (l:=e.hp);intro cs
 let b:Frame:={ (default:Frame) with fn:=cx.f,kind := .normal }
 have henter:Frame.enter cx.P cx.f vs.toArray .normal=b.atR { tmps:=vs.toArray++Array.replicate (cx.fn.ntmps-vs.toArray.size) undef,defers:=[] } [.code body]:=by
  simp[Frame.enter,Frame.atR,ok.func,hbody,b];rfl
 have:=hg w _ _ _ w hr1 b cs rfl rfl (by unfold pt;rw[hrd];rfl)
 obtain⟨v,w',fr,⟨G',h1,h2⟩,h3,h4,h5⟩:=this;exact⟨.returned v,w',fr,⟨v,G',rfl,h1.only hin,h2⟩,by rw[henter];exact h3,h4,h5⟩
def qht:List Tmp->List AV->List (Nat×AV)->List (Nat×AV)|p::ps,x::xs,fr=>qht ps xs ((p,x)::fr)|_,_,fr=>fr
def qgo(n:Nat):List Nat->Bool|[]=>true|p::ps=>Nat.blt p n&&qgo n ps
def q9y{G:Gh}{n:Nat}:∀{ps:List Tmp}{xs:List AV}{vs:List Value}{fr:List (Nat×AV)}{tmps:Array Value},qgo n ps=true->tmps.size=n->ps.length=xs.length->al xs G vs->(∀i x,ae fr i=some x->∃v,tmps[i]? = some v/\aj x G v) ->
  ((ps.zip vs).foldl (fun(tmps:Array Value)(q:Tmp×Value)=>tmps.setIfInBounds q.1 q.2) tmps).size=n/\∀i x,ae (qht ps xs fr) i=some x->∃v,((ps.zip vs).foldl (fun(tmps:Array Value)(q:Tmp×Value)=>tmps.setIfInBounds q.1 q.2) tmps)[i]? = some v/\aj x G v
 |[],[],[],fr,tmps,_,hn,_,_,hfr=>⟨hn,hfr⟩|p::ps,x::xs,v::vs,fr,tmps,hlt,hn,hl,hr,hfr=>by
  simp only[qgo,qA]at hlt;have hp:p<n:=by have:=hlt.1;simpa using this
  simp only[List.zip_cons_cons,List.foldl_cons,qht];refine q9y hlt.2 (by simp[hn]) (by simpa using hl) hr.2 (fun i y hy => ?_)
  simp only[ae]at hy;cases he:Nat.beq p i
  ·rw[he]at hy;simp only[qF]at hy;have hne:p≠i:=fun e=>by subst e;simp at he
   obtain⟨u,h1,h2⟩:=hfr i y hy;exact⟨u,by simp[hne,h1],h2⟩
  ·rw[he]at hy;simp only[qT,qI]at hy;subst hy;have:=qN he;subst this;exact⟨v,by simp[hn,hp],hr.1⟩
 |[],_::_,_,_,_,_,_,h,_,_=>by simp at h|_::_,[],_,_,_,_,_,h,_,_=>by simp at h|[],[],_::_,_,_,_,_,_,h,_=>h.elim|_::_,_::_,[],_,_,_,_,_,h,_=>h.elim
def yi(cx:Cx)(body:Code)(p:List Nat)(m:Nat){R:Type}(enc:RS R)(labs:List (eu R))(pts:List (Nat×a7))(xs:List AV)(hp:List (Nat×ah)):Option R:=
 match ae hp m with
 |some (.loop .ready none f n fr ps tag _)=>bif Nat.beq f cx.f&&qgo n ps&&eqLen ps xs&&tagIs tag p cx.tags then
   run cx enc labs 1000000 true (lz body [(0,0::p),(4,[]),(0,1::p)]) (reB pts { n:=n,fr:=qht ps xs fr,hp:=hp,nx:=NX,df:=[] })
  else none
 |_=>none
where
 eqLen:List Tmp->List AV->Bool
  |[],[]=>true|_::ps,_::xs=>eqLen ps xs|_,_=>false
 tagIs (tag:Nat) (p:List Nat) (tags:List (List Nat×Nat)):Bool:=match qj p tags with|some t=>Nat.beq t tag|none=>false
def q60:∀{ps:List Tmp}{xs:List AV},yi.eqLen ps xs=true->ps.length=xs.length
 |[],[],_=>rfl|_::ps,_::xs,h=>by simp[q60 (ps:=ps) (xs:=xs) h]|[],_::_,h=>by cases h
 |_::_,[],h=>by cases h
def q7y:Code->Bool|.rangeFunc _ _ _ _=>true|_=>false
def dn.sound_yld{e:dn}{cx:Cx}{body:Code}{p:List Nat}{m:Nat}{labs:List (eu e.R)}(ok:cx.Ok body)(hkey:e.key = .yld m)(hrd:cx.rd=some m)(hids:cx.ids=eh e.hp)(hrf:q7y (sub body p)=true)
  (hfine:(qo (eh e.hp) e.args&&bIn (eh e.hp) e.hp)=true) (hlab:∀d',∀l∈labs,pp cx (cg e.hp d') e.out body l) (hF:∀d d',yi cx body p m e.out labs e.hp (Pts.put e.args d) (cg e.hp d')=e.F d d'):e.Sound cx.P:=by
 intro d d' r hr;rw[hkey];intro w G vs B hm hreps hB;simp only[qA]at hfine;obtain⟨f1,f2⟩:=hfine;have hin:=qv0 (d:=d') f2;have hm':=hm.only hin;have hreps':al (Pts.put e.args d) (G.view (eh e.hp)) vs:=by
  have:=al.ren (ρ:=ax (eh e.hp)) (G:=G) (G':=G.view (eh e.hp)) (fun _ _ _ h=>h) (qx _) (td _) hreps
  rwa [yg f1]at this
 have hrun:=hF d d';rw[hr]at hrun;unfold yi at hrun;split at hrun
 ·rename_i f n fr ps tag D hl;cases hb:Nat.beq f cx.f&&qgo n ps&&yi.eqLen ps (Pts.put e.args d)&&yi.tagIs tag p cx.tags<;>rw[hb]at hrun<;>simp only[qT,qF,reduceCtorEq]at hrun
  simp only[qA]at hb;obtain⟨⟨⟨b1,b2⟩,b3⟩,b4⟩:=hb;have b1:=qN b1;subst b1;have b3:=q60 b3;unfold yi.tagIs at b4;split at b4
  rotate_left
  ·cases b4
  rename_i t ht;have b4:=qN b4;subst b4;obtain⟨B',tmps,DB,i1,i2,⟨asn,bo,i3,i4⟩,i5,i6,i7⟩:=hm'.holds m _ hl;have hBv:(G.view (eh e.hp)).box m=some B:=by
   have:=qq (hin m _ hl).1;simp[Gh.view,this,hB]
  rw[hBv]at i1;injection i1 with i1;subst i1
  obtain⟨g,ps0,x,y,hs⟩:∃g ps x y,sub body p = .rangeFunc g ps x y:=by
   cases hc:sub body p<;>rw[hc]at hrf<;>first|exact⟨_,_,_,_,rfl⟩|cases hrf
  have hcode:=ok.tags p t ht g ps0 x y hs;rw[i3]at hcode;simp only[qI,qP]at hcode;obtain⟨rfl,rfl⟩:=hcode;have hg:=qzb (enc:=e.out) ok (vej:=cg e.hp d') (fun n bx h=>by rw[hids];exact qng h) (hlab d') _ _ _ _ _ qxk hrun
  have hlv:=hreps.length;obtain⟨j1,j2⟩:=q9y (n:=n) b2 i5 b3 hreps' i6;have hr0:ak w (G.view (eh e.hp)) (cg e.hp d') (G.view (eh e.hp)) { n:=n,fr:=qht ps (Pts.put e.args d) fr,hp:=cg e.hp d',nx:=NX,df:=[] } { tmps:=(ps.zip vs).foldl (fun(tmps:Array Value)(q:Tmp×Value)=>tmps.setIfInBounds q.1 q.2) tmps,defers:=[] } w:=
   ⟨⟨[],rfl,rfl⟩,j1,j2,fun k _ hk=>by simp[Gh.view,qx8 hk],qmb hm'⟩
  obtain⟨G1,hr1⟩:=hr0.reB (l:=e.hp);refine⟨_,i4,fun c cs=>⟨by simp;omega,?_⟩⟩
  let b:Frame:={ (default:Frame) with fn:=cx.f,kind := .normal,roundOf:=some B }
  have:=hg w _ _ _ w hr1 b (c::cs) rfl rfl (by unfold pt;rw[hrd];exact⟨B,_,hBv,hl,rfl⟩)
  obtain⟨v,w',⟨G',h1,h2⟩,h3⟩:=this c cs rfl;refine⟨v,w',⟨v,G',rfl,h1.only hin,h2⟩,?_⟩;have e1:Frame.round B cx.f ((ps.toArray.zip vs.toArray).foldl (fun tmps(t,a)=>tmps.setIfInBounds t a) tmps) asn bo .normal=b.atR { tmps:=(ps.zip vs).foldl (fun(tmps:Array Value)(q:Tmp×Value)=>tmps.setIfInBounds q.1 q.2) tmps,defers:=[] } (dv (lz body [(0,0::p),(4,[]),(0,1::p)])):=by
   simp[Frame.round,Frame.atR,b,dv,lz,uo,sub,hs,g8,List.zip_toArray]
  simp only at e1 ⊢;rw[e1];exact h3
 ·cases hrun
def pp.of_run{cx:Cx}{body:Code}{vej:List (Nat×ah)}{R:Type}{enc:RS R}{labs:List (eu R)}(ok:cx.Ok body)(hid:∀n bx,ae vej n=some bx->az cx.ids n=some n)(hlab:∀l∈labs,pp cx vej enc body l){l:eu R}
  (h:∀d,run cx enc labs 1000000 false (lz body l.key) (l.ls.st d)=l.F d):pp cx vej enc body l:=fun d r hr=>by
 have:=h d;rw[hr]at this;exact qzb ok hid hlab _ _ _ _ _ qxk this
end Go.Sym
namespace Go.Sym
open Go.RowKit
def ki(f:Func):Code:=match f.body with|some c=>c|none => .skip
def af(n:Int):Int:=IntKind.i64.wrap n
section
variable[LC]{cx:Cx}{vej:List (Nat×ah)}{R:Type}{enc:RS R}{body:Code}{P:Program}
def ao:∀p t,qj p []=some t->∀g ps x y,sub body p = .rangeFunc g ps x y->LC.lc t=some (x,y):=fun _ _ h=>by cases h
def lg{p:List Nat}{t:Nat}{tags:List (List Nat×Nat)}(h:LC.lc t=some (g8 0 (sub body p),g8 1 (sub body p)))(k:∀p t,qj p tags=some t->∀g ps x y,sub body p = .rangeFunc g ps x y->LC.lc t=some (x,y)) :
  ∀q u,qj q ((p,t)::tags)=some u->∀g ps x y,sub body q = .rangeFunc g ps x y->LC.lc u=some (x,y):=fun q u hq g ps x y hs=>by
 simp only[qj]at hq;cases hb:ob p q
 ·rw[hb]at hq;exact k q u hq g ps x y hs
 ·rw[hb]at hq;simp only[qT,qI]at hq;subst hq;have:=qmu hb;subst this;rw[h,hs];rfl
end
abbrev Bs:Type:=List UInt8
def q9k:Nat->Nat->List Nat|0,_=>[]|f+1,n=>bif Nat.ble n 1 then[] else Nat.mod n 2::q9k f (Nat.div n 2)
def ai:List (Nat×Nat)->ww|[]=>[]|(k,n)::r=>(k,q9k 200 n)::ai r
mutual
def Pt.ts:Pt->List Type->List Type|.h τ,a=>τ.den::a|.agg ps,a=>Pts.ts ps a|.tup ps,a=>Pts.ts ps a|.fn _ ps,a=>Pts.ts ps a|.arr τ,a=>List τ.den::a|_,a=>a
def Pts.ts:List Pt->List Type->List Type|[],a=>a|p::ps,a=>p.ts (Pts.ts ps a)
end
def HL:List Type->Type|[]=>Unit|t::l=>t×HL l
abbrev oq:HL []:=()
mutual
def Pt.pk:(p:Pt)->{a:List Type}->p.den->HL a->HL (p.ts a)|.h _,_,d,x=>(d,x)|.agg ps,_,d,x=>Pts.pk ps d x|.tup ps,_,d,x=>Pts.pk ps d x|.fn _ ps,_,d,x=>Pts.pk ps d x|.arr _,_,d,x=>(d,x)|.c _,_,_,x=>x|.ptr _ _,_,_,x=>x|.own _,_,_,x=>x|.el _ _,_,_,x=>x|.iel _ _ _,_,_,x=>x|.yld _,_,_,x=>x|.pn _,_,_,x=>x|.u,_,_,x=>x
def Pts.pk:(ps:List Pt)->{a:List Type}->Pts.den ps->HL a->HL (Pts.ts ps a)|[],_,_,x=>x|p::ps,_,d,x=>p.pk d.1 (Pts.pk ps d.2 x)
end
mutual
def Pt.un:(p:Pt)->{a:List Type}->HL (p.ts a)->p.den×HL a|.h _,_,x=>x|.agg ps,_,x=>Pts.un ps x|.tup ps,_,x=>Pts.un ps x|.fn _ ps,_,x=>Pts.un ps x|.arr _,_,x=>x|.c _,_,x=>((),x)|.ptr _ _,_,x=>((),x)|.own _,_,x=>((),x)|.el _ _,_,x=>((),x)|.iel _ _ _,_,x=>((),x)|.yld _,_,x=>((),x)|.pn _,_,x=>((),x)|.u,_,x=>((),x)
def Pts.un:(ps:List Pt)->{a:List Type}->HL (Pts.ts ps a)->Pts.den ps×HL a|[],_,x=>((),x)|p::ps,_,x=>(((p.un x).1,(Pts.un ps (p.un x).2).1),(Pts.un ps (p.un x).2).2)
end
mutual
def Pt.un_pk:∀(p:Pt){a:List Type}(d:p.den)(x:HL a),p.un (p.pk d x)=(d,x)|.h _,_,_,_=>rfl|.agg ps,_,d,x=>Pts.un_pk ps d x|.tup ps,_,d,x=>Pts.un_pk ps d x|.fn _ ps,_,d,x=>Pts.un_pk ps d x|.arr _,_,_,_=>rfl|.c _,_,_,_=>rfl|.ptr _ _,_,_,_=>rfl|.own _,_,_,_=>rfl|.el _ _,_,_,_=>rfl|.iel _ _ _,_,_,_=>rfl|.yld _,_,_,_=>rfl|.pn _,_,_,_=>rfl|.u,_,_,_=>rfl
def Pts.un_pk:∀(ps:List Pt){a:List Type}(d:Pts.den ps)(x:HL a),Pts.un ps (Pts.pk ps d x)=(d,x)
 |[],_,_,_=>rfl|p::ps,_,d,x=>by
  show(((p.un (p.pk d.1 (Pts.pk ps d.2 x))).1,(Pts.un ps (p.un (p.pk d.1 (Pts.pk ps d.2 x))).2).1),(Pts.un ps (p.un (p.pk d.1 (Pts.pk ps d.2 x))).2).2)=(d,x);rw[Pt.un_pk p,Pts.un_pk ps];rfl
end
def fts:List (Nat×Pt)->List Type->List Type|[],a=>a|(_,p)::r,a=>p.ts (fts r a)
def ly:(l:List (Nat×Pt))->{a:List Type}->og l->HL a->HL (fts l a)|[],_,_,x=>x|(_,p)::r,_,d,x=>p.pk d.1 (ly r d.2 x)
def qb1:(l:List (Nat×Pt))->{a:List Type}->HL (fts l a)->og l×HL a|[],_,x=>((),x)|(_,p)::r,_,x=>(((p.un x).1,(qb1 r (p.un x).2).1),(qb1 r (p.un x).2).2)
def q7n:∀(l:List (Nat×Pt)){a:List Type}(d:og l)(x:HL a),qb1 l (ly l d x)=(d,x)
 |[],_,_,_=>rfl|(_,p)::r,_,d,x=>by
  show(((p.un (p.pk d.1 (ly r d.2 x))).1,(qb1 r (p.un (p.pk d.1 (ly r d.2 x))).2).1),(qb1 r (p.un (p.pk d.1 (ly r d.2 x))).2).2)=(d,x);rw[Pt.un_pk p,q7n r];rfl
def a7.ts:a7->List Type->List Type|.cells ps _,a=>Pts.ts ps a|.row τ _,a=>List τ.den::a|.loop _ _ _ _ fr _ _ _,a=>fts fr a|.dfr,a=>a|.it,a=>List UInt8::Nat::a|.dead,a=>a|.dat τ _,a=>τ.den::a
def a7.pk:(p:a7)->{a:List Type}->p.den->HL a->HL (p.ts a)|.cells ps _,_,d,x=>Pts.pk ps d x|.row _ _,_,d,x=>(d,x)|.loop _ _ _ _ fr _ _ _,_,d,x=>ly fr d x|.dfr,_,_,x=>x|.it,_,d,x=>(d.1,(d.2,x))|.dead,_,_,x=>x|.dat _ _,_,d,x=>(d,x)
def a7.un:(p:a7)->{a:List Type}->HL (p.ts a)->p.den×HL a|.cells ps _,_,x=>Pts.un ps x|.row _ _,_,x=>x|.loop _ _ _ _ fr _ _ _,_,x=>qb1 fr x|.dfr,_,x=>((),x)|.it,_,x=>((x.1,x.2.1),x.2.2)|.dead,_,x=>((),x)|.dat _ _,_,x=>x
def a7.un_pk:∀(p:a7){a:List Type}(d:p.den)(x:HL a),p.un (p.pk d x)=(d,x)|.cells ps _,_,d,x=>Pts.un_pk ps d x|.row _ _,_,_,_=>rfl|.loop _ _ _ _ fr _ _ _,_,d,x=>q7n fr d x|.dfr,_,_,_=>rfl|.it,_,_,_=>rfl|.dead,_,_,_=>rfl|.dat _ _,_,_,_=>rfl
def bts:List (Nat×a7)->List Type->List Type|[],a=>a|(_,p)::r,a=>p.ts (bts r a)
def fw:(l:List (Nat×a7))->{a:List Type}->fb l->HL a->HL (bts l a)|[],_,_,x=>x|(_,p)::r,_,d,x=>p.pk d.1 (fw r d.2 x)
def xd:(l:List (Nat×a7))->{a:List Type}->HL (bts l a)->fb l×HL a|[],_,x=>((),x)|(_,p)::r,_,x=>(((p.un x).1,(xd r (p.un x).2).1),(xd r (p.un x).2).2)
def q53:∀(l:List (Nat×a7)){a:List Type}(d:fb l)(x:HL a),xd l (fw l d x)=(d,x)
 |[],_,_,_=>rfl|(_,p)::r,_,d,x=>by
  show(((p.un (p.pk d.1 (fw r d.2 x))).1,(xd r (p.un (p.pk d.1 (fw r d.2 x))).2).1),(xd r (p.un (p.pk d.1 (fw r d.2 x))).2).2)=(d,x);rw[a7.un_pk p,q53 r];rfl
abbrev Cur:List Type->Type->Type|[],R=>R|t::l,R=>t->Cur l R
def app{R:Type}:{l:List Type}->Cur l R->HL l->R|[],f,_=>f|_::_,f,x=>app (f x.1) x.2
abbrev Nc:List Type->Type|[]=>Unit|[t]=>t|t::u::l=>t×Nc (u::l)
def Nc.fro:(l:List Type)->HL l->Nc l|[],_=>()|[_],x=>x.1|_::u::l,x=>(x.1,Nc.fro (u::l) x.2)
def Nc.to:(l:List Type)->Nc l->HL l|[],_=>()|[_],x=>(x,())|_::u::l,x=>(x.1,Nc.to (u::l) x.2)
def Nc.to_fro:∀(l:List Type)(x:HL l),Nc.to l (Nc.fro l x)=x
 |[],_=>rfl|[_],_=>rfl|_::u::l,x=>by
  show(x.1,Nc.to (u::l) (Nc.fro (u::l) x.2))=x;rw[Nc.to_fro];rfl
def RS.mk(p:Pt)(hp:List (Nat×a7)):RS (Nc (p.ts (bts hp []))):=
 .one p hp (fun x=>((p.un (Nc.to _ x)).1,(xd hp (p.un (Nc.to _ x)).2).1)) (fun y=>Nc.fro _ (p.pk y.1 (fw hp y.2 oq))) fun y=>by
  obtain⟨d,d'⟩:=y;show((p.un (Nc.to _ (Nc.fro _ (p.pk d (fw hp d' oq))))).1,(xd hp (p.un (Nc.to _ (Nc.fro _ (p.pk d (fw hp d' oq))))).2).1)=(d,d');rw[Nc.to_fro,Pt.un_pk,q53]
structure IF:Type 1 where
 key:wv
 args:List Pt
 hp:List (Nat×a7)
 R:Type
 out:RS R
abbrev IF.T(i:IF):Type:=Cur (Pts.ts i.args (bts i.hp [])) (Option i.R)
def IF.e(i:IF)(r:i.T):dn:=⟨i.key,i.args,i.hp,i.R,fun d d'=>app r (Pts.pk i.args d (fw i.hp d' oq)),i.out⟩
abbrev KL:Type:=ww×LS
abbrev KL.T(l:KL)(R:Type):Type:=Cur (fts l.2.fr (bts l.2.hp [])) (Option R)
def KL.lab{R:Type}(l:KL)(r:l.T R):eu R:=⟨l.1,l.2,fun d=>app r (ly l.2.fr d.1 (fw l.2.hp d.2 oq))⟩
def kl:Nat->List KL->KL|_,[]=>([],⟨0,[],[],0,[]⟩)|0,l::_=>l|n+1,_::r=>kl n r
def qyy:wv->Option Nat|.yld m=>some m|_=>none
section
variable[LC]{P:Program}{i:IF}
structure EP(P:Program):Type 1 where
 e:dn
 h:e.Sound P
structure EI(P:Program)(i:IF) where
 f:i.T
 h:(i.e f).Sound P
def EI.p(s:EI P i):EP P:=⟨i.e s.f,s.h⟩
def EP.es{P:Program}:List (EP P)->List dn|[]=>[]|x::l=>x.e::EP.es l
def EP.es_ok{P:Program}:∀{l:List (EP P)},∀e∈EP.es l,e.Sound P
 |[],_,h=>by cases h
 |x::_,e,h=>by
  rcases List.mem_cons.1 h with rfl|h
  ·exact x.h
  ·exact EP.es_ok e h
structure Fx(P:Program)(i:IF):Type 1 where
 etys:List (Nat×Ty)
 hm:P.follows .mixedOrders=true
 fn:Func
 f:FuncId
 hf:P.funcs[f]? = some fn
 calls:List (EP P)
 sub:Bool
 tags:List (List Nat×Nat)
 ht:∀p t,qj p tags=some t->∀g ps x y,Sym.sub (ki fn) p = .rangeFunc g ps x y->LC.lc t=some (x,y)
 ls:List KL
def Fx.body(x:Fx P i):Code:=ki x.fn
def Fx.cx(x:Fx P i):Cx:={ P,tb:=⟨EP.es x.calls,x.etys,x.sub⟩,fn:=x.fn,f:=x.f,ids:=eh i.hp,rd:=qyy i.key,tags:=x.tags }
def Fx.ok(x:Fx P i):x.cx.Ok x.body:=⟨EP.es_ok,x.hm,x.hf,x.ht⟩
structure PL(x:Fx P i)(k:Nat) where
 f:(kl k x.ls).T i.R
 h:∀d',pp x.cx (cg i.hp d') i.out x.body ((kl k x.ls).lab f)
abbrev Fx.L(x:Fx P i)(k:Nat):=PL x k
structure SL(x:Fx P i) where
 q:eu i.R
 h:∀d',pp x.cx (cg i.hp d') i.out x.body q
def PL.s{x:Fx P i}{k:Nat}(p:PL x k):SL x:=⟨(kl k x.ls).lab p.f,p.h⟩
def SL.qs{x:Fx P i}:List (SL x)->List (eu i.R)|[]=>[]|s::l=>s.q::SL.qs l
def SL.qs_ok{x:Fx P i}{d':fb i.hp}:∀{l:List (SL x)},∀q∈SL.qs l,pp x.cx (cg i.hp d') i.out x.body q
 |[],_,h=>by cases h
 |s::_,q,h=>by
  rcases List.mem_cons.1 h with rfl|h
  ·exact s.h d'
  ·exact SL.qs_ok q h
def Fx.jn{x:Fx P i}{k:Nat}(f:(kl k x.ls).T i.R)(l:List (SL x))
  (h:∀d,run x.cx i.out (SL.qs l) 1000000 false (lz x.body (kl k x.ls).1) ((kl k x.ls).2.st d)=app f (ly (kl k x.ls).2.fr d.1 (fw (kl k x.ls).2.hp d.2 ()))):PL x k:=
 ⟨f,fun _=>pp.of_run x.ok (fun _ _ h=>qng h) (SL.qs_ok) h⟩
def Fx.lp{x:Fx P i}{k:Nat}(g:Nat->(kl k x.ls).T i.R)(b:(kl k x.ls).T i.R->(kl k x.ls).T i.R)(h0:∀d:(kl k x.ls).2.den,app (g 0) (ly (kl k x.ls).2.fr d.1 (fw (kl k x.ls).2.hp d.2 ()))=none)(hg:∀n,g (n+1)=b (g n))(l:PL x k->List (SL x))
  (h:∀r d,run x.cx i.out (SL.qs (l r)) 1000000 false (lz x.body (kl k x.ls).1) ((kl k x.ls).2.st d)=app (b r.f) (ly (kl k x.ls).2.fr d.1 (fw (kl k x.ls).2.hp d.2 ()))) (n:Nat):PL x k:=
 ⟨g n,by
  induction n with
  |zero=>intro d' d r hr;have:=h0 d;rw[show((kl k x.ls).lab (g 0)).F d=none from this]at hr;cases hr
  | succ n ih=>rw[hg];exact(Fx.jn (b (g n)) (l ⟨g n,ih⟩) (h ⟨g n,ih⟩)).h⟩
def Fx.fin(x:Fx P i)(f:i.T)(l:List (SL x))(hp:rt P x.f)(hk:i.key = .fn x.f)(hb:x.fn.body=some x.body)(hfine:qm7 x.cx i.args i.hp=true)
  (h:∀d d',qy9 x.cx x.body i.out (SL.qs l) i.args i.hp (Pts.put i.args d) (cg i.hp d')=app f (Pts.pk i.args d (fw i.hp d' oq))):EI P i:=
 ⟨f,dn.sound_fn (e:=i.e f) (cx:=x.cx) (labs:=SL.qs l) x.ok hk hb (show qyy i.key=none by rw[hk];rfl) rfl hp hfine (fun _=>SL.qs_ok) h⟩
def Fx.fiy(x:Fx P i)(f:i.T)(l:List (SL x))(m:Nat)(hk:i.key = .yld m)(p:List Nat)(hb:q7y (Sym.sub x.body p)=true)(hfine:(qo (eh i.hp) i.args&&bIn (eh i.hp) i.hp)=true)
  (h:∀d d',yi x.cx x.body p m i.out (SL.qs l) i.hp (Pts.put i.args d) (cg i.hp d')=app f (Pts.pk i.args d (fw i.hp d' oq))):EI P i:=
 ⟨f,dn.sound_yld (e:=i.e f) (cx:=x.cx) (labs:=SL.qs l) (p:=p) (m:=m) x.ok hk (show qyy i.key=some m by rw[hk];rfl) rfl hb hfine (fun _=>SL.qs_ok) h⟩
def EI.rc(g:Nat->i.T)(b:i.T->i.T)(h0:∀d d',app (g 0) (Pts.pk i.args d (fw i.hp d' oq))=none)(hg:∀n,g (n+1)=b (g n))(s:EI P i->EI P i)(hs:∀r,(s r).f=b r.f)(n:Nat):EI P i:=
 ⟨g n,by
  induction n with
  |zero=>intro d d' r hr;have:=h0 d d';rw[show(i.e (g 0)).F d d'=none from this]at hr;cases hr
  | succ n ih=>rw[hg,← hs ⟨g n,ih⟩];exact(s ⟨g n,ih⟩).h⟩
end
end Go.Sym
namespace Go.Sym
def wq(n:Int):Option Bs:=bif decide (-9223372036854775808<=n/\n<=9223372036854775807) then some (Lib.itoa n) else none
def wh(s sep:Bs):Option Int:=bif decide (2<=List.length sep/\List.length s<4294967281/\List.length sep<=maxLen) then some (Lib.index s sep) else none
def ge(s:Bs)(most:Int):Int×Bool:=match Lib.atoiAll s with|.ok v=>if Lib.itoa v=s/\0<=v/\v<=most then(v,true) else(0,false)|_=>(0,false)
def wg(s:Bs)(most:Int):Option (Int×Bool):=bif decide (List.length s<=281474976710656) then some (ge s most) else none
abbrev Pc:Type:=Bs×Int×Bool×Bs
abbrev Pq:Type:={ x:Pc // -1125899906842624<=x.2.1/\x.2.1<=1125899906842624 }
instance:Inhabited Pq:=⟨⟨([],0,false,[]),by decide⟩⟩
def im(x y:Pq):Int:=af (x.1.2.1-y.1.2.1)
def gw(l:List Pq):List Pq:=(Go.Sort.pdq (Go.Proofs.ltOf im) l.toArray 0 l.length (Lib.bitLen l.length) true true).toList
def o8:List Pc->Option (List Pq)|[]=>some []|x::l=>if h : -1125899906842624<=x.2.1/\x.2.1<=1125899906842624 then(match o8 l with|some r=>some (⟨x,h⟩::r)|none=>none) else none
def wo(l:List Pc):Option (List Pc):=bif decide (List.length l<=bg) then(match o8 l with|some q=>some ((gw q).map (·.1))|none=>none) else none
def qaw(s old new:Bs):Option Bs:=bif decide (1<=List.length old/\List.length s<4294967281/\List.length s+List.length s*List.length new<=140737488355328) then some (Lib.replaceAll s old new) else none
def vu(rep:Bs):Nat->Bool->Bs->Bs
 |0,_,_=>[]|_+1,_,[]=>[]|n+1,inv,c::l=>if(Lib.decodeL (c::l)).1=65533/\(Lib.decodeL (c::l)).2=1 then(if inv then[] else rep)++vu rep n true l
  else(c::l).take (Lib.decodeL (c::l)).2++vu rep n false ((c::l).drop (Lib.decodeL (c::l)).2)
def ws(s rep:Bs):Option Bs:=bif decide (List.length s<=1000000/\List.length rep<=1000) then some (vu rep s.length false s) else none
def wt(s:Bs):Option Bool:=bif decide (List.length s<=9223372036854775807) then some (Lib.validD s) else none
def oc(a b:UInt8)(na nb:Bs)(c:UInt8):Bs:=if c=a then na else if c=b then nb else[c]
def dz(a b:UInt8)(na nb:Bs)(s:Bs):Bs:=s.flatMap (oc a b na nb)
def io(a b:UInt8)(l:Bs):Nat:=l.count a+l.count b
def qmv(a b:UInt8)(na nb s t:Bs):dz a b na nb (s++t)=dz a b na nb s++dz a b na nb t:=List.flatMap_append
def qwf(a b:UInt8)(s t:Bs):io a b (s++t)=io a b s+io a b t:=by unfold io;rw[List.count_append,List.count_append];omega
def qwg{a b:UInt8}(hab:a≠b)(c:UInt8):io a b [c]=if c=a then 1 else if c=b then 1 else 0:=by
 unfold io;simp only[List.count_cons,List.count_nil,beq_iff_eq];by_cases h:c=a
 ·subst h;simp[hab]
 ·by_cases h2:c=b
  ·subst h2;simp[h]
  ·simp[h,h2]
def qmw{a b:UInt8}(hab:a≠b)(a1 a2 b1 b2:UInt8):∀l:Bs,(dz a b [a1,a2] [b1,b2] l).length=l.length+io a b l
 |[]=>rfl|c::l=>by
  have h:=qmw hab a1 a2 b1 b2 l;rw[show c::l=[c]++l from rfl,qmv,qM,qM,qwf,h,qwg hab]
  have:(dz a b [a1,a2] [b1,b2] [c]).length=1+(if c=a then 1 else if c=b then 1 else 0):=by
   show(oc a b [a1,a2] [b1,b2] c++[]).length=_;unfold oc;split
   ·rfl
   ·split<;>rfl
  rw[this];simp only[qL,qZ];omega
def q61{a b:UInt8}(hab:a≠b)(na nb:Bs):∀l:Bs,io a b l=0->dz a b na nb l=l
 |[],_=>rfl|c::l,h=>by
  rw[show c::l=[c]++l from rfl,qwf,qwg hab]at h
  rw[show c::l=[c]++l from rfl,qmv,q61 hab na nb l (by omega)]
  congr 1;show oc a b na nb c++[]=[c];unfold oc;by_cases h1:c=a
  ·rw[qX h1]at h;omega
  ·by_cases h2:c=b
   ·rw[qW h1,qX h2]at h;omega
   ·rw[qW h1,qW h2];rfl
def zbs{α:Type}(l:List α)(i:Nat)(h:i<l.length):l.take (i+1)=l.take i++[l[i]]:=by
 rw[List.take_add_one,List.getElem?_eq_getElem h];rfl
def t7(s:Bs)(p0 p1 _p2:Int)(on:List Bs):Option Bs:=
 match on with|[[a],[a1,a2],[b],[b1,b2]]=>bif decide (p0=0/\p1=0/\a≠b/\List.length s<=1000000) then some (dz a b [a1,a2] [b1,b2] s) else none|_=>none
def zoc{s r:Bs}{p0 p1 p2:Int}{on:List Bs}(h:t7 s p0 p1 p2 on=some r) :
  ∃a a1 a2 b b1 b2,on=[[a],[a1,a2],[b],[b1,b2]]/\p0=0/\p1=0/\a≠b/\List.length s<=1000000/\r=dz a b [a1,a2] [b1,b2] s:=by
 unfold t7 at h;split at h
 ·rename_i a a1 a2 b b1 b2;cases hd:decide (p0=0/\p1=0/\a≠b/\List.length s<=1000000)<;>rw[hd]at h<;>simp only[qT,qF,reduceCtorEq]at h
  obtain⟨h1,h2,h3,h4⟩:=of_decide_eq_true hd;exact⟨a,a1,a2,b,b1,b2,rfl,h1,h2,h3,h4,(qJ h).symm⟩
 ·cases h
open Go.RowKit
variable[LC]
def tv(b:List UInt8)(c:UInt8):Option Int:=some (Lib.indexByte b c)
def qrx(f:FuncId)(r:List UInt8->UInt8->Option Int):dn:={ key := .ext f,args:=[.h (.list .byte),.h .byte],hp:=[],R:=Int,F:=fun d _=>r d.1 d.2.1,out := .one (α:=Int) (.h (.int .i64)) [] (fun r=>(r,())) (fun y=>y.1) (fun _=>rfl) }
def qrw(f:FuncId)(r:List UInt8->UInt8->Option Int):dn:={ key := .ext f,args:=[.h .str,.h .byte],hp:=[],R:=Int,F:=fun d _=>r d.1 d.2.1,out := .one (α:=Int) (.h (.int .i64)) [] (fun r=>(r,())) (fun y=>y.1) (fun _=>rfl) }
def q57(c:UInt8):((c.toNat:Int)).toNat.toUInt8=c:=by simp
def zkm {P : Program} {f : FuncId} {fn : Func} (hf : P.funcs[f]? = some fn) (hname : (fn.name == "runtime.NumGoroutine") = false) (hb : fn.body.isNone = true) (hn : Extern.findNext fn = none) (he : Extern.find fn = some Extern.BytealgIndexByte.indexByte) (b : List UInt8) (c : UInt8) :
  qi1 P f [.str b,.byte c] (.int .i64 (Lib.indexByte b c)):=fun w G vs _ hr=>by
 match vs,hr with
 |[v1,v2],⟨h1,h2,_⟩=>
  have h1:v1 = .string ⟨b.toArray⟩:=h1;have h2:v2 = .int .u8 c.toNat:=h2;subst h1 h2;refine⟨.int .i64 (Lib.indexByte b c),?_,rfl⟩;rw[run_callFunc_extern hf hname hb hn he,show([Value.string ⟨b.toArray⟩,.int .u8 c.toNat]:List Value).toArray=#[.string ⟨b.toArray⟩,.int .u8 c.toNat] from rfl,Lib.run_indexByteString,q57]
  rfl
def zkn {P : Program} {f : FuncId} {fn : Func} (hf : P.funcs[f]? = some fn) (hname : (fn.name == "runtime.NumGoroutine") = false) (hb : fn.body.isNone = true) (hn : Extern.findNext fn = none) (he : Extern.find fn = some Extern.BytealgIndexByte.indexByte) (b : List UInt8) (c : UInt8) :
  qi1 P f [.sl .byte b,.byte c] (.int .i64 (Lib.indexByte b c)):=fun w G vs hm hr=>by
 match vs,hr with
 |[v1,v2],⟨h1,h2,_⟩=>
  have h2:v2 = .int .u8 c.toNat:=h2;subst h2;obtain⟨a,cp,rfl,hc,hl⟩:jv 1 (Ty.byte.At G.imm) b v1:=h1;refine⟨.int .i64 (Lib.indexByte b c),?_,rfl⟩;rw[run_callFunc_extern hf hname hb hn he];have key:∀k:Int,(Extern.BytealgIndexByte.indexByte #[.slice a b.length cp,.int .u8 c.toNat]).run P w = .ok (.int .i64 k) w->((Extern.BytealgIndexByte.indexByte ([Value.slice a b.length cp,.int .u8 c.toNat]:List Value).toArray).run P w).andThen (fun v w'=>Result.ok (Next.value v) w') = .ok (.value (.int .i64 k)) w:=by
   intro k hk;have e:([Value.slice a b.length cp,.int .u8 c.toNat]:List Value).toArray=#[.slice a b.length cp,.int .u8 c.toNat]:=rfl;rw[e,hk];rfl
  refine key _ ?_;have bb:Lib.bytesOf (b.map fun x=>(x.toNat:Int))=b:=by
   unfold Lib.bytesOf;rw[List.map_map];have:((fun n:Int=>UInt8.ofNat n.toNat) ∘ fun x:UInt8=>(x.toNat:Int))=id:=by funext x;simp
   rw[this,List.map_id]
  rcases hl with rfl|⟨g,o,rfl,hcells⟩
  ·have hs:=Lib.run_indexByteString (P:=P) .empty (c.toNat:Int) w
   cases a with|none=>exact hs|some ad=>exact hs
  ·have:=Lib.run_indexByteSlice (P:=P) (w:=w) g o b.length cp (b.map fun x=>(x.toNat:Int)) (by simp) (fun i hi=>by
    have hk:G.imm g (o+i*1)=some (.int .u8 b[i].toNat):=hcells i _ (List.getElem?_eq_getElem hi);have:=hm.agree _ _ _ hk;rw[Nat.mul_one]at this;rw[this];simp[List.getD_eq_getElem?_getD,hi]) (c.toNat:Int)
   rw[bb,q57]at this;exact this
def ze8 {P : Program} {f : FuncId} {fn : Func} (hf : P.funcs[f]? = some fn) (hname : (fn.name == "runtime.NumGoroutine") = false) (hb : fn.body.isNone = true) (hn : Extern.findNext fn = none) (he : Extern.find fn = some Extern.BytealgIndexByte.indexByte) :
  (qrw f tv).Sound P:=fun d d' r h=>by
 have h:some (Lib.indexByte (show List UInt8 from d.1) (show UInt8 from d.2.1))=some r:=h
 have h:=qJ h;subst h;exact zkm hf hname hb hn he _ _
def zfa {P : Program} {f : FuncId} {fn : Func} (hf : P.funcs[f]? = some fn) (hname : (fn.name == "runtime.NumGoroutine") = false) (hb : fn.body.isNone = true) (hn : Extern.findNext fn = none) (he : Extern.find fn = some Extern.BytealgIndexByte.indexByte) :
  (qrx f tv).Sound P:=fun d d' r h=>by
 have h:some (Lib.indexByte (show List UInt8 from d.1) (show UInt8 from d.2.1))=some r:=h
 have h:=qJ h;subst h;exact zkn hf hname hb hn he _ _
end Go.Sym
namespace Go.Sym
open Go.ChangeShapes Go.WideShapes Go.ChangeAt Go.RowKit
variable[LC]
def Gw(w:World):Gh:=⟨fun b o=>match w.cell? ⟨b,o,none⟩ with|some v=>if v.oneCell'=true then some v else none|none=>none,fun _=>none,fun _=>none⟩
def qu4{w:World}{b o:Nat}{v:Value}(h:w.cell? ⟨b,o,none⟩=some v)(h1:v.oneCell'=true):(Gw w).imm b o=some v:=by
 simp only[Gw];rw[h];simp[h1]
def zff(w:World)(ht:LC.tab (Gw w).imm w):da (Gw w) [] w:=by
 have key:∀b o v,(Gw w).imm b o=some v->w.cell? ⟨b,o,none⟩=some v/\v.oneCell'=true:=by
  intro b o v h;simp only[Gw]at h;split at h
  ·rename_i u hu;split at h
   ·rename_i h1;cases h;exact⟨hu,h1⟩
   ·cases h
  ·cases h
 exact⟨fun b o v h=>(key b o v h).1,fun b o v h=>(key b o v h).2,fun n bx h=>(by cases h),fun n m bx bx' b h=>(by cases h),ht⟩
inductive qvd{α:Type}(p:α->Prop):Tree α->Prop
 |mk (a:α) (l:List (Tree α)):p a->l.length<=maxLen->(∀x∈l,qvd p x)->qvd p (.node a l)
def Ty.bd:(τ:Ty)->τ.den->Prop|.int k,n=>(Lit.int k n).wf=true|.str,s=>List.length s<=maxLen|.prod a b,x=>a.bd x.1/\b.bd x.2|.list a,l=>List.length l<=maxLen/\∀x∈(show List a.den from l),a.bd x|.tree a,t=>qvd a.bd t|_,_=>True
def qbz(P:Program)(rec:Ty->TypeId->Bool):Ty->List Field->Nat->Bool|τ,[f],o=>f.offset==o&&(P.cellsOf f.type==τ.sz&&rec τ f.type)|.prod a b,f::fs,o=>f.offset==o&&(P.cellsOf f.type==a.sz&&(rec a f.type&&qbz P rec b fs (o+a.sz)))|_,_,_=>false
def qom(P:Program)(t g:TypeId):Bool:=match P.underlying g with|some (.slice e)=>e==t|_=>false
def yt(P:Program)(rec:Ty->TypeId->Bool)(t:TypeId):Ty->List Field->Nat->Bool|τ,[f,g],o=>f.offset==o&&(P.cellsOf f.type==τ.sz&&(rec τ f.type&&(g.offset==o+τ.sz&&(P.cellsOf g.type==1&&qom P t g.type))))|.prod a b,f::fs,o=>f.offset==o&&(P.cellsOf f.type==a.sz&&(rec a f.type&&yt P rec t b fs (o+a.sz)))|_,_,_=>false
def dc(P:Program):Nat->Ty->TypeId->Bool
 |0,_,_=>false|_+1,.int k,t=>match P.underlying t with|some (.int k')=>decide (k'=k)|_=>false
 |_+1,.byte,t=>match P.underlying t with|some (.int k')=>decide (k' = .u8)|_=>false
 |_+1,.bool,t=>match P.underlying t with|some .bool=>true|_=>false
 |_+1,.str,t=>match P.underlying t with|some .string=>true|_=>false
 |n+1,.list a,t=>match P.underlying t with|some (.slice e)=>P.cellsOf e==a.sz&&(decide (0<a.sz)&&dc P n a e)|_=>false
 |n+1,.prod a b,t=>match P.underlying t with|some (.struct fs)=>P.cellsOf t==(Ty.prod a b).sz&&qbz P (dc P n) (.prod a b) fs.toList 0|_=>false
 |n+1,.tree a,t=>match P.underlying t with|some (.struct fs)=>P.cellsOf t==(Ty.tree a).sz&&yt P (dc P n) t a fs.toList 0|_=>false
 |_+1,_,_=>false
def zb8{P:Program}{n:Nat}{k:IntKind}{t:TypeId}(h:dc P (n+1) (.int k) t=true):P.underlying t=some (.int k):=by
 unfold dc at h;split at h
 ·rename_i k' e;rw[e,of_decide_eq_true h]
 ·cases h
def zb7{P:Program}{n:Nat}{t:TypeId}(h:dc P (n+1) .byte t=true):P.underlying t=some (.int .u8):=by
 unfold dc at h;split at h
 ·rename_i k' e;rw[e,of_decide_eq_true h]
 ·cases h
def zb6{P:Program}{n:Nat}{t:TypeId}(h:dc P (n+1) .bool t=true):P.underlying t=some .bool:=by
 unfold dc at h;split at h
 ·rename_i e;exact e
 ·cases h
def zb9{P:Program}{n:Nat}{t:TypeId}(h:dc P (n+1) .str t=true):P.underlying t=some .string:=by
 unfold dc at h;split at h
 ·rename_i e;exact e
 ·cases h
def al.app{G:Gh}:∀{xs ys:List AV}{us vs:List Value},al xs G us->al ys G vs->al (xs++ys) G (us++vs)|[],_,[],_,_,h=>h|[],_,_::_,_,h,_=>by simp[al]at h|_::_,_,[],_,h,_=>by simp[al]at h|_::_,_,_::_,_,h,k=>⟨h.1,al.app h.2 k⟩
def qmq{G:Gh}:∀(τ:Ty)(x:τ.den)(cs:List Value),al (τ.enc x) G cs->∀v∈cs,v.oneCell'=true
 |.int k,n,[v],h,u,hu=>by
  rw[List.mem_singleton]at hu;subst hu;have h1:u = .int k n:=h.1;rw[h1];rfl
 |.byte,c,[v],h,u,hu=>by
  rw[List.mem_singleton]at hu;subst hu;have h1:u = .int .u8 (UInt8.toNat c):=h.1;rw[h1];rfl
 |.bool,c,[v],h,u,hu=>by
  rw[List.mem_singleton]at hu;subst hu;have h1:u = .bool c:=h.1;rw[h1];rfl
 |.str,s,[v],h,u,hu=>by
  rw[List.mem_singleton]at hu;subst hu;have h1:u = .string ⟨List.toArray s⟩:=h.1;rw[h1];rfl
 |.list a,l,[v],h,u,hu=>by
  rw[List.mem_singleton]at hu;subst hu;obtain⟨ad,c,rfl,_⟩:jv a.sz (a.At G.imm) l u:=h.1;rfl
 |.unit,_,[],_,u,hu=>by cases hu
 |.unit,_,_::_,h,_,_=>by simp[Ty.enc,al]at h|.prod a b,x,cs,h,u,hu=>by
  have key:∀(xs ys:List AV)(cs:List Value),al (xs++ys) G cs->∃us vs,cs=us++vs/\al xs G us/\al ys G vs:=by
   intro xs
   induction xs with
   |nil=>intro ys cs h;exact⟨[],cs,rfl,trivial,h⟩|cons x xs ih=>
    intro ys cs h
    cases cs with
    |nil=>simp[al]at h|cons c cs=>
     obtain⟨us,vs,e,h1,h2⟩:=ih ys cs h.2;exact⟨c::us,vs,by rw[e];rfl,⟨h.1,h1⟩,h2⟩
  obtain⟨us,vs,rfl,h1,h2⟩:=key _ _ _ h;rcases List.mem_append.1 hu with q|q
  ·exact qmq a x.1 us h1 u q
  ·exact qmq b x.2 vs h2 u q
 |.tree a,x,cs,h,u,hu=>by
  have key:∀(xs ys:List AV)(cs:List Value),al (xs++ys) G cs->∃us vs,cs=us++vs/\al xs G us/\al ys G vs:=by
   intro xs
   induction xs with
   |nil=>intro ys cs h;exact⟨[],cs,rfl,trivial,h⟩|cons x xs ih=>
    intro ys cs h
    cases cs with
    |nil=>simp[al]at h|cons c cs=>
     obtain⟨us,vs,e,h1,h2⟩:=ih ys cs h.2;exact⟨c::us,vs,by rw[e];rfl,⟨h.1,h1⟩,h2⟩
  obtain⟨us,vs,rfl,h1,h2⟩:=key _ _ _ h;rcases List.mem_append.1 hu with q|q
  ·exact qmq a _ us h1 u q
  ·cases vs with
   |nil=>cases q
   |cons v vs=>
    cases vs with
    |cons v' vs=>simp[al]at h2|nil=>
     rw[List.mem_singleton]at q;subst q;obtain⟨ad,c,rfl,_⟩:jv (Ty.tree a).sz ((Ty.tree a).At G.imm) (Tree.kids x) u:=h2.1;rfl
 |.int _,_,[],h,_,_=>by simp[Ty.enc,al]at h|.int _,_,_::_::_,h,_,_=>by simp[Ty.enc,al]at h|.byte,_,[],h,_,_=>by simp[Ty.enc,al]at h|.byte,_,_::_::_,h,_,_=>by simp[Ty.enc,al]at h|.bool,_,[],h,_,_=>by simp[Ty.enc,al]at h|.bool,_,_::_::_,h,_,_=>by simp[Ty.enc,al]at h|.str,_,[],h,_,_=>by simp[Ty.enc,al]at h|.str,_,_::_::_,h,_,_=>by simp[Ty.enc,al]at h|.list _,_,[],h,_,_=>by simp[Ty.enc,al]at h|.list _,_,_::_::_,h,_,_=>by simp[Ty.enc,al]at h
def al.cells{w:World}{b:Nat}:∀(xs:List AV)(cs:List Value)(o:Nat),al xs (Gw w) cs->(∀v∈cs,v.oneCell'=true)->(∀(j:Nat)(v:Value),cs[j]? = some v->w.cell? ⟨b,o+j,none⟩=some v)->bu xs (Gw w) b o
 |[],[],_,_,_,_=>trivial|[],_::_,_,h,_,_=>by simp[al]at h|_::_,[],_,h,_,_=>by simp[al]at h|x::xs,c::cs,o,h,h1,h2=>by
  refine⟨⟨c,qu4 (h2 0 c rfl) (h1 c qH),h.1⟩,al.cells xs cs (o+1) h.2 (fun v hv=>h1 v (qE _ hv)) (fun j v hj => ?_)⟩
  have:=h2 (j+1) v hj;rw[show o+1+j=o+(j+1) by omega];exact this
structure rh(H:Type) where
 b:DataW H->Nat
 ba:List (DataW H)->Nat
 str:∀s,b (.lit (.string s))=s.length+1
 lit:∀l,1<=b (.lit l)
 nilb:b .nil=1
 sl:∀e r,b (.slice e r)=ba e+ba r+1
 agg:∀l,b (.agg l)=ba l+1
 nil:ba []=0
 cons:∀d r,ba (d::r)=b d+ba r
def rh.app{H:Type}(B:rh H):∀(l r:List (DataW H)),B.ba (l++r)=B.ba l+B.ba r|[],r=>by rw[List.nil_append,B.nil,wO]|d::l,r=>by rw[wK,B.cons,B.cons,B.app l r,Nat.add_assoc]
mutual
def qcs{α:Type}(f:α->Nat):Tree α->Nat|.node a l=>f a+qic f l+2
def qic{α:Type}(f:α->Nat):List (Tree α)->Nat|[]=>0|t::l=>qcs f t+qic f l
end
def zb1{α:Type}(f:α->Nat):∀l:List (Tree α),qic f l=(l.map (qcs f)).sum|[]=>by simp[qic]|t::l=>by rw[qic,zb1 f l,List.map_cons,List.sum_cons]
def zb0{α:Type}(f:α->Nat)(a:α)(l:List (Tree α)):qcs f (.node a l)=f a+(l.map (qcs f)).sum+2:=by
 rw[← zb1];simp only[qcs]
def Ty.bk:(τ:Ty)->τ.den->Nat|.str,s=>List.length s+1|.prod a b,x=>a.bk x.1+b.bk x.2|.list a,l=>((show List a.den from l).map a.bk).sum+1|.unit,_=>0|.tree a,t=>qcs a.bk t|_,_=>1
section
variable{H:Type}{enc:TypeId×Value->H}{P:Program}{w:World}{base:Nat}{spare:Nat->Bool}{held:Bool}
def q7h(B:rh H)(n m:Nat)(cs:List Value)
  (ih:∀(τ:Ty)(t:TypeId)(cs:List Value)(y:DataW H×List MemPlace),dc P n τ t=true->DataW.trod enc P w base spare held m t cs=some y->∃x:τ.den,τ.bd x/\al (τ.enc x) (Gw w) cs/\τ.bk x<=B.b y.1) :
  ∀(fs:List Field)(τ:Ty)(o:Nat)(xs:List (DataW H×List MemPlace)),qbz P (dc P n) τ fs o=true->xs.length=fs.length->(∀(i:Nat)(f:Field),fs[i]? = some f->DataW.trod enc P w base spare held m f.type ((cs.drop f.offset).take (P.cellsOf f.type))=xs[i]?) ->
   ∃x:τ.den,τ.bd x/\al (τ.enc x) (Gw w) ((cs.drop o).take τ.sz)/\τ.bk x<=B.ba (xs.map (·.1))
 |[],τ,o,xs,h,_,_=>by cases τ<;>simp[qbz]at h
 |[f],τ,o,xs,h,hl,hf=>by
  have h':(f.offset==o&&(P.cellsOf f.type==τ.sz&&dc P n τ f.type))=true:=by cases τ<;>exact h
  simp only[qA,beq_iff_eq]at h'
  match xs,hl with
  |[y],_=>
   have hy:DataW.trod enc P w base spare held m f.type ((cs.drop f.offset).take (P.cellsOf f.type))=some y:=hf 0 f rfl;rw[h'.1,h'.2.1]at hy;obtain⟨x,x1,x2,x3⟩:=ih τ f.type _ y h'.2.2 hy;exact⟨x,x1,x2,by simp only[List.map_cons,List.map_nil,B.cons,B.nil];omega⟩
 |f::g::fs,τ,o,xs,h,hl,hf=>by
  cases τ with
  |prod a b=>
   have h':(f.offset==o&&(P.cellsOf f.type==a.sz&&(dc P n a f.type&&qbz P (dc P n) b (g::fs) (o+a.sz))))=true:=h;simp only[qA,beq_iff_eq]at h'
   match xs,hl with
   |y::ys,hl=>
    have hy:DataW.trod enc P w base spare held m f.type ((cs.drop f.offset).take (P.cellsOf f.type))=some y:=hf 0 f rfl;rw[h'.1,h'.2.1]at hy;obtain⟨x1,b1,r1,k1⟩:=ih a f.type _ y h'.2.2.1 hy;obtain⟨x2,b2,r2,k2⟩:=q7h B n m cs ih (g::fs) b (o+a.sz) ys h'.2.2.2 (by simpa using hl) (fun i f' hf'=>hf (i+1) f' hf')
    refine⟨(x1,x2),⟨b1,b2⟩,?_,?_⟩
    ·show al (a.enc x1++b.enc x2) (Gw w) ((cs.drop o).take (a.sz+b.sz));rw[List.take_add,List.drop_drop];exact al.app r1 r2
    ·show a.bk x1+b.bk x2<=_;rw[List.map_cons,B.cons];omega
  |_=>simp[qbz]at h
def zb3(B:rh H)(n m:Nat)(cs:List Value){vei:Ty}(t:TypeId)
  (ih:∀(τ:Ty)(t:TypeId)(cs:List Value)(y:DataW H×List MemPlace),dc P n τ t=true->DataW.trod enc P w base spare held m t cs=some y->∃x:τ.den,τ.bd x/\al (τ.enc x) (Gw w) cs/\τ.bk x<=B.b y.1)
  (ihk:∀(g:TypeId)(cs:List Value)(y:DataW H×List MemPlace),qom P t g=true->DataW.trod enc P w base spare held m g cs=some y->∃l:List (Ty.tree vei).den,(Ty.list (.tree vei)).bd l/\al [.sl (.tree vei) l] (Gw w) cs/\(l.map (Ty.tree vei).bk).sum+1<=B.b y.1) :
  ∀(fs:List Field)(τ:Ty)(o:Nat)(xs:List (DataW H×List MemPlace)),yt P (dc P n) t τ fs o=true->xs.length=fs.length->(∀(i:Nat)(f:Field),fs[i]? = some f->DataW.trod enc P w base spare held m f.type ((cs.drop f.offset).take (P.cellsOf f.type))=xs[i]?) ->
   ∃(x:τ.den)(l:List (Ty.tree vei).den),τ.bd x/\(Ty.list (.tree vei)).bd l/\al (τ.enc x++[.sl (.tree vei) l]) (Gw w) ((cs.drop o).take (τ.sz+1))/\τ.bk x+((l.map (Ty.tree vei).bk).sum+1)<=B.ba (xs.map (·.1))
 |[],τ,o,xs,h,_,_=>by cases τ<;>simp[yt]at h
 |[f],τ,o,xs,h,_,_=>by cases τ<;>simp[yt]at h
 |[f,g],τ,o,xs,h,hl,hf=>by
  have h':(f.offset==o&&(P.cellsOf f.type==τ.sz&&(dc P n τ f.type&&(g.offset==o+τ.sz&&(P.cellsOf g.type==1&&qom P t g.type)))))=true:=by cases τ<;>exact h
  simp only[qA,beq_iff_eq]at h'
  match xs,hl with
  |[y,z],_=>
   have hy:DataW.trod enc P w base spare held m f.type ((cs.drop f.offset).take (P.cellsOf f.type))=some y:=hf 0 f rfl;have hz:DataW.trod enc P w base spare held m g.type ((cs.drop g.offset).take (P.cellsOf g.type))=some z:=hf 1 g rfl;rw[h'.1,h'.2.1]at hy;rw[h'.2.2.2.1,h'.2.2.2.2.1]at hz;obtain⟨x,x1,x2,x3⟩:=ih τ f.type _ y h'.2.2.1 hy;obtain⟨l,l1,l2,l3⟩:=ihk g.type _ z h'.2.2.2.2.2 hz;refine⟨x,l,x1,l1,?_,by simp only[List.map_cons,List.map_nil,B.cons,B.nil];omega⟩
   rw[List.take_add,List.drop_drop];exact al.app x2 l2
 |f::g::k::fs,τ,o,xs,h,hl,hf=>by
  cases τ with
  |prod a b=>
   have h':(f.offset==o&&(P.cellsOf f.type==a.sz&&(dc P n a f.type&&yt P (dc P n) t b (g::k::fs) (o+a.sz))))=true:=h;simp only[qA,beq_iff_eq]at h'
   match xs,hl with
   |y::ys,hl=>
    have hy:DataW.trod enc P w base spare held m f.type ((cs.drop f.offset).take (P.cellsOf f.type))=some y:=hf 0 f rfl;rw[h'.1,h'.2.1]at hy;obtain⟨x1,b1,r1,k1⟩:=ih a f.type _ y h'.2.2.1 hy;obtain⟨x2,l,b2,bl,r2,k2⟩:=zb3 B n m cs t ih ihk (g::k::fs) b (o+a.sz) ys h'.2.2.2 (by simpa using hl) (fun i f' hf'=>hf (i+1) f' hf')
    refine⟨(x1,x2),l,⟨b1,b2⟩,bl,?_,?_⟩
    ·show al ((a.enc x1++b.enc x2)++[.sl (.tree vei) l]) (Gw w) ((cs.drop o).take ((a.sz+b.sz)+1));rw[qS,Nat.add_assoc,List.take_add,List.drop_drop];exact al.app r1 r2
    ·show(a.bk x1+b.bk x2)+_<=_;rw[List.map_cons,B.cons];omega
  |_=>simp[yt]at h
def zmi(B:rh H):∀(m n:Nat)(τ:Ty)(t:TypeId)(cs:List Value)(y:DataW H×List MemPlace),dc P n τ t=true->DataW.trod enc P w base spare held m t cs=some y->∃x:τ.den,τ.bd x/\al (τ.enc x) (Gw w) cs/\τ.bk x<=B.b y.1:=by
 intro m
 induction m with
 |zero=>intro n τ t cs y _ h;simp[DataW.trod]at h|succ m ih=>
  intro n τ t cs y ht h
  cases n with
  |zero=>simp[dc]at ht|succ n=>
   cases τ with
   |int k=>
    obtain⟨n,rfl,rfl,hw⟩:=DataW.trod_int (zb8 ht) h;exact⟨n,hw,⟨rfl,trivial⟩,B.lit _⟩
   |byte=>
    obtain⟨n,rfl,rfl,hw⟩:=DataW.trod_int (zb7 ht) h;have hb:0<=n/\n<=255:=by simp only[Lit.wf,qA,decide_eq_true_eq]at hw;exact hw
    refine⟨UInt8.ofNat n.toNat,trivial,⟨?_,trivial⟩,B.lit _⟩;show Value.int .u8 n = .int .u8 ((UInt8.ofNat n.toNat).toNat:Int);rw[UInt8.toNat_ofNat',Nat.mod_eq_of_lt (by omega)]
    congr 1;omega
   |bool=>
    obtain⟨b,rfl,rfl⟩:=DataW.trod_bool (zb6 ht) h;exact⟨b,trivial,⟨rfl,trivial⟩,B.lit _⟩
   |str=>
    obtain⟨s,rfl,rfl,hs⟩:=DataW.trod_string (zb9 ht) h;refine⟨s.data.toList,?_,⟨?_,trivial⟩,Nat.le_of_eq (B.str _).symm⟩
    ·show s.data.toList.length<=maxLen;rw[Array.length_toList];exact hs
    ·show Value.string s = .string ⟨s.data.toList.toArray⟩;simp
   |unit=>simp[dc]at ht|tree a=>
    have ht0:=ht;unfold dc at ht;split at ht
    ·rename_i fs hu;simp only[qA,beq_iff_eq]at ht;obtain⟨xs,n',e1,rfl,ac,hxl,hg⟩:=DataW.trod_struct hu h;cases e1
     obtain⟨x,l,hb,hbl,hr,hk⟩:=zb3 B n m cs t (fun τ t cs y=>ih n τ t cs y) (fun g cs y hg hy=>by
      have hg':dc P (n+2) (.list (.tree a)) g=true:=by
       unfold qom at hg;unfold dc;split at hg
       ·rename_i e he;have:e=t:=by simpa using hg
        subst this;simp only[qA,beq_iff_eq,decide_eq_true_eq];exact⟨ht.1,by simp[Ty.sz],ht0⟩
       ·cases hg
      exact ih (n+2) (.list (.tree a)) g cs y hg' hy) fs.toList a 0 xs ht.2 (by rw[hxl,Array.length_toList]) (fun i f hf=>hg i f (by rw[← Array.getElem?_toList];exact hf))
     refine⟨.node x l,.mk x l hb hbl.1 hbl.2,?_,?_⟩
     ·rw[List.drop_zero,List.take_of_length_le (by rw[ac,ht.1];exact wF _)]at hr
      exact hr
     ·rw[B.agg];have e:(Ty.tree a).bk (.node x l)=a.bk x+(l.map (Ty.tree a).bk).sum+2:=zb0 a.bk x l;omega
    ·cases ht
   |prod a b=>
    unfold dc at ht;split at ht
    ·rename_i fs hu;simp only[qA,beq_iff_eq]at ht;obtain⟨xs,n',e1,rfl,ac,hxl,hg⟩:=DataW.trod_struct hu h;cases e1
     obtain⟨x,hb,hr,hk⟩:=q7h B n m cs (fun τ t cs y=>ih n τ t cs y) fs.toList (.prod a b) 0 xs ht.2 (by rw[hxl,Array.length_toList]) (fun i f hf=>hg i f (by rw[← Array.getElem?_toList];exact hf))
     refine⟨x,hb,?_,by rw[B.agg];omega⟩
     rw[List.drop_zero,List.take_of_length_le (by rw[ac,ht.1];exact wF _)]at hr
     exact hr
    ·cases ht
   |list a=>
    unfold dc at ht;split at ht
    ·rename_i e hu;simp only[qA,beq_iff_eq,decide_eq_true_eq]at ht;obtain⟨hsz,hpos,hte⟩:=ht;rcases DataW.trod_slice hu h with⟨rfl,rfl⟩|⟨ad,len,cap,elems,rest,n',e1,rfl,rfl,_,hlc,hcm,hel,hget,_⟩
     ·exact⟨[],⟨Nat.zero_le _,fun x hx=>by cases hx⟩,⟨⟨none,0,rfl,wF _,.inl rfl⟩,trivial⟩,Nat.le_of_eq (show 0+1=_ by rw[B.nilb])⟩
     ·cases e1
      have each:∀i,i<len->∃(x:a.den)(h:i<elems.length),a.bd x/\ad.spot=none/\a.At (Gw w).imm x ad.block (ad.off+i*a.sz)/\a.bk x<=B.b elems[i].1:=by
       intro i hi;have h1:=hget i hi;rw[List.getElem?_eq_getElem (by omega)]at h1
       obtain⟨cs,hc,hc2⟩:=Option.bind_eq_some_iff.1 h1;obtain⟨x,hb,hr,hk⟩:=ih n a e cs _ hte hc2;unfold World.cells? at hc;split at hc
       ·have hl:=mapM_some_length hc;rw[List.length_range,hsz]at hl;have hcell:∀(j:Nat)(v:Value),cs[j]? = some v->w.cell? ((ad.add (i*P.cellsOf e)).add j)=some v:=by
         intro j v hj;have hj':j<cs.length:=by
          by_cases q:j<cs.length
          ·exact q
          ·rw[List.getElem?_eq_none (by omega)]at hj;cases hj
         have:=mapM_some_get hc j j (by rw[List.getElem?_range (by omega)])
         rw[this,hj]
        have hspot:ad.spot=none:=by
         have g0:=hget 0 (by omega)
         rw[List.getElem?_eq_getElem (by omega)]at g0
         obtain⟨cs0,hc0,_⟩:=Option.bind_eq_some_iff.1 g0;unfold World.cells? at hc0;split at hc0
         ·have oq:=mapM_some_length hc0;rw[List.length_range,hsz]at oq;have:=mapM_some_get hc0 0 0 (by rw[List.getElem?_range (by omega)])
          rw[List.getElem?_eq_getElem (by omega)]at this
          simp only[Nat.zero_mul,Addr.add,if_true]at this;unfold World.cell? at this
          cases hs:ad.spot with
          |none=>rfl|some q=>
           rw[hs]at this;split at this
           ·simp at this
           ·cases this
         ·cases hc0
        refine⟨x,by omega,hb,hspot,?_,hk⟩
        refine rf.1 (al.cells _ cs _ hr (qmq a x cs hr) (fun j v hj => ?_))
        have:=hcell j v hj;rw[hsz]at this;have ea:(ad.add (i*a.sz)).add j=⟨ad.block,ad.off+i*a.sz+j,none⟩:=by
         obtain⟨b,o,s⟩:=ad;simp only[]at hspot;subst hspot;unfold Addr.add;by_cases q1:i*a.sz=0
         ·by_cases q2:j=0
          ·simp[q1,q2]
          ·simp[q1,q2]
         ·by_cases q2:j=0
          ·simp[q1,q2]
          ·simp[q1,q2]
        rw[ea]at this;exact this
       ·cases hc
      have lst:∀k,k<=len->∃l:List a.den,l.length=k/\(∀x∈l,a.bd x)/\(∀(j:Nat)(x:a.den),l[j]? = some x->a.At (Gw w).imm x ad.block (ad.off+j*a.sz))/\(l.map a.bk).sum<=B.ba ((elems.take k).map (·.1)):=by
       intro k
       induction k with
       |zero=>intro _;exact⟨[],rfl,fun x hx=>(by cases hx),fun j x hj=>(by simp at hj),by simp⟩
       |succ k ihk=>
        intro hk;obtain⟨l,l1,l2,l3,l4⟩:=ihk (by omega)
        obtain⟨x,hx,x1,_,x2,x3⟩:=each k (by omega)
        refine⟨l++[x],by simp[l1],fun y hy => ?_,fun j y hj => ?_,?_⟩
        ·rcases List.mem_append.1 hy with q|q
         ·exact l2 y q
         ·rw[List.mem_singleton]at q;subst q;exact x1
        ·by_cases q:j<l.length
         ·rw[List.getElem?_append_left q]at hj;exact l3 j y hj
         ·rw[List.getElem?_append_right (by omega)]at hj
          have:j=k:=by
           by_cases q2:j-l.length=0
           ·omega
           ·rw[List.getElem?_eq_none (by simp;omega)]at hj;cases hj
          subst this;rw[l1,Nat.sub_self]at hj;cases hj
          exact x2
        ·rw[List.take_succ_eq_append_getElem hx,List.map_append,List.map_append,B.app,List.sum_append];simp only[List.map_cons,List.map_nil,B.cons,B.nil,List.sum_cons,List.sum_nil];omega
      obtain⟨l,l1,l2,l3,l4⟩:=lst len (wF _);refine⟨l,⟨by show l.length<=maxLen;omega,l2⟩,⟨⟨some ad,cap,by rw[← l1],by omega,?_⟩,trivial⟩,?_⟩
      rotate_left
      ·rw[List.take_of_length_le (by omega)]at l4
       rw[B.sl];show(l.map a.bk).sum+1<=_;omega
      by_cases q:l=[]
      ·exact .inl q
      ·obtain⟨_,_,_,hs,_⟩:=each 0 (by have:=List.length_pos_iff.2 q;omega)
       refine .inr ⟨ad.block,ad.off,?_,l3⟩;cases ad;simp only[]at hs;subst hs;rfl
    ·cases ht
def zmh(B:rh H){r:Reach}{bb n:Nat}{τ:Ty}{t:TypeId}{v:Value}{d:DataW H}{ps:List MemPlace}(ht:dc P n τ t=true)(hv:Value.okWide P w r bb t v)(h:DataW.Trod enc P w base spare held t v d ps) :
  ∃x:τ.den,τ.bd x/\aj (τ.av x) (Gw w) v/\τ.bk x<=B.b d:=by
 obtain⟨m,hm⟩:=h;obtain⟨x,hb,hr,hk⟩:=zmi B m n τ t _ _ ht hm;refine⟨x,hb,?_,hk⟩
 cases n with
 |zero=>simp[dc]at ht|succ n=>
  cases τ with
  |int k=>obtain⟨_,rfl⟩:=okWide_int (zb8 ht) hv;exact hr.1
  |byte=>obtain⟨_,rfl⟩:=okWide_int (zb7 ht) hv;exact hr.1
  |bool=>obtain⟨_,rfl⟩:=okWide_bool (zb6 ht) hv;exact hr.1
  |str=>obtain⟨_,rfl⟩:=okWide_string (zb9 ht) hv;exact hr.1
  |unit=>simp[dc]at ht|tree a=>
   unfold dc at ht;split at ht
   ·rename_i fs hu;obtain⟨cs,rfl,_⟩:=okWide_struct hu hv;exact⟨cs,rfl,hr⟩
   ·cases ht
  |prod a b=>
   unfold dc at ht;split at ht
   ·rename_i fs hu;obtain⟨cs,rfl,_⟩:=okWide_struct hu hv;exact⟨cs,rfl,hr⟩
   ·cases ht
  |list a=>
   unfold dc at ht;split at ht
   ·rename_i e hu;obtain⟨_,_,_,rfl⟩:=okWide_slice hu hv;exact hr.1
   ·cases ht
end
end Go.Sym
namespace Go.Sym
open Go.ChangeShapes Go.WideShapes Go.ChangeAt Go.RowKit
variable[LC]
def yv(P:Program)(n:Nat):List Ty->List TypeId->Bool|[],[]=>true|τ::τs,t::ts=>dc P n τ t&&yv P n τs ts|_,_=>false
def bds:(τs:List Ty)->Pts.den (τs.map .h)->Prop|[],_=>True|τ::τs,x=>τ.bd x.1/\bds τs x.2
mutual
def cnt{H:Type}:DataW H->Nat|.lit (.string s)=>s.length+1|.slice e r=>qmi e+qmi r+1|.agg l=>qmi l+1|_=>1
def qmi{H:Type}:List (DataW H)->Nat|[]=>0|d::l=>cnt d+qmi l
end
section
variable{H:Type}{enc:TypeId×Value->H}{P:Program}{w:World}{base:Nat}{spare:Nat->Bool}{held:Bool}
def bks:(τs:List Ty)->Pts.den (τs.map .h)->Nat|[],_=>0|τ::τs,x=>τ.bk x.1+bks τs x.2
def q9c(B:rh H){r:Reach}{bb n:Nat}:∀(τs:List Ty)(ts:List TypeId)(vs:List Value)(ds:List (DataW H))(ps:List MemPlace),yv P n τs ts=true ->
  (∀(j:Nat) t v,ts[j]? = some t->vs[j]? = some v->Value.okWide P w r bb t v)->DataW.TrodAll enc P w base spare held ts vs ds ps ->
  ∃x:Pts.den (τs.map .h),bds τs x/\al (Pts.put (τs.map .h) x) (Gw w) vs/\bks τs x<=B.ba ds
 |[],[],vs,ds,ps,_,_,h=>by
  obtain⟨rfl,rfl,_⟩:=trodAll_nil h;exact⟨(),trivial,trivial,Nat.zero_le _⟩
 |τ::τs,t::ts,vs,ds,ps,h1,h2,h=>by
  obtain⟨v,vs',d,ds',p,q,rfl,rfl,rfl,hd,hr⟩:=trodAll_cons h;simp only[yv,qA]at h1;obtain⟨x,xb,xr,xk⟩:=zmh B h1.1 (h2 0 t v rfl rfl) hd;obtain⟨y,yb,yr,yk⟩:=q9c B τs ts vs' ds' q h1.2 (fun j t v ht hv=>h2 (j+1) t v ht hv) hr
  exact⟨(x,y),⟨xb,yb⟩,⟨xr,yr⟩,by rw[B.cons];show τ.bk x+bks τs y<=_;omega⟩
 |[],_::_,_,_,_,h,_,_=>by simp[yv]at h|_::_,[],_,_,_,h,_,_=>by simp[yv]at h
def zbh{W W':World}(laid:laidOutB P=true)(hb:Below W.heap.size W W'):∀(ts:List TypeId)(vs:List Value)(ds:List (DataW H))(ps:List MemPlace),
  ts.all (fun t=>P.readableRec t&&decide (t<P.types.size))=true->DataW.TrodAll enc P W 0 (fun _=>true) true ts vs ds ps->DataW.TrodAll enc P W' 0 (fun b=>decide (b<W.heap.size)) true ts vs ds ps
 |[],vs,ds,ps,_,h=>by
  obtain⟨rfl,rfl,rfl⟩:=trodAll_nil h;exact trodAll_mk0
 |t::ts,vs,ds,ps,h1,h=>by
  obtain⟨v,vs',d,ds',p,q,rfl,rfl,rfl,hd,hr⟩:=trodAll_cons h;simp only[List.all_cons,qA,decide_eq_true_eq]at h1;have lt:∀x∈p,x.block<W.heap.size:=by obtain⟨m,hm⟩:=hd;exact DataW.trod_lt m _ _ _ hm
  exact trodAll_cons_mk (Below.trod laid h1.1.1 h1.1.2 hd hb lt) (zbh laid hb ts vs' ds' q h1.2 hr)
end
def zrx{P:Program}{f:FuncId}{xs:List AV}(h:dx P f xs [] (.bool true) [])(vs:List Value)(w:World)(ht:LC.tab (Gw w).imm w)(hr:al xs (Gw w) vs) :
  Calls P f vs.toArray w fun e w'=>e = .returned (.bool true)/\Below w.heap.size w w':=by
 refine(h w (Gw w) vs (zff w ht) hr).mono ?_;rintro e w' ⟨v,G,rfl,hfin,hrep⟩
 have hv:v = .bool true:=hrep;subst hv;refine⟨rfl,hfin.bel.os,hfin.bel.tape,hfin.bel.output,hfin.bel.size,fun k hk=>hfin.bel.block k hk ?_⟩
 rintro⟨n,bx,hl,_⟩
 cases hl
end Go.Sym
namespace Go.Sym
open Go.ChangeShapes Go.WideShapes Go.ChangeAt Go.RowKit
variable[LC]
def zlf{H:Type}{enc:TypeId×Value->H}{C:Checked}{os:Os}{f:FuncId}{fn:Func}{s:ChangeSpec}{so:OpenSpec}{F:Stop.Interp}{conds:List PathCond}{t:TypeId}{n:Nat}(τs:List Ty)(l:List (String×DataW Unit))(B:rh H)(M:Nat)
  (jc:(H:Type)->List (DataW H)->Bool) (hso:so={ OpenSpec.ofChange s with cond:=some jc }) (hsm:∀ds:List (DataW H),jc H ds=true->B.ba ds<=M)
  (own:ownKnob C.prog.godebug=none) (laid:laidOutB C.prog=true) (started:os.Started) (noInit:C.prog.inits.idxOf? f=none) (hfn:C.prog.funcs[f]? = some fn)
  (witness:∃(w:World)(tape:Tape)(i:Input),w.os=os/\(w.forCall tape i).Shaped C.prog/\i.vars=[]/\Input.okWide C.prog (w.forCall tape i) .any w.heap.size f i /\
   so.preRow enc C.prog fn conds false l (w.forCall tape i).memory i.args/\({}:Assume).holds C.prog (lone (Frame.enter C.prog f i.args .normal) [] (w.forCall tape i)))
  (hvars:s.vars=[]) (hspec:∀ds:List (DataW H),ds.length=fn.params.size->s.fn H ds={ results:=[.lit (.bool true)],args:=ds })
  (htys:yv C.prog n τs fn.params.toList=true) (hread:fn.params.toList.all (fun t=>C.prog.readableRec t&&decide (t<C.prog.types.size))=true)
  (hres:fn.resultTypes=#[t]) (hbool:C.prog.underlying t=some .bool)
  (htab:∀W:World,laidMetH C.prog l W->W.ShapedOpen C.prog->LC.tab (Gw W).imm W)
  (hcall:∀x:Pts.den (τs.map .h),bds τs x->bks τs x<=M->dx C.prog f (Pts.put (τs.map .h) x) [] (.bool true) []) :
  ReturnsInHanded {} C os f .any (so.preRow enc C.prog fn conds false l) ((so.at F).post enc C.prog fn false true false false):=by
 subst hso;refine returnsInHanded_of_row own started noInit hfn witness ?_;intro W base args ds gs before hval hW _ hcond _ hlaid hsh _;have hW':=hW;obtain⟨p,q,hA,hV,rfl,_,_⟩:=hW;rw[show({ OpenSpec.ofChange s with cond:=some jc }:OpenSpec).vars=[] from hvars]at hV
 obtain⟨rfl,rfl⟩:=trodVars_none hV;have hk:=hsm _ (hcond jc rfl);rw[List.append_nil]at hk;have hl:ds.length=fn.params.size:=by
  have key:∀(ts:List TypeId)(vs:List Value)(ds:List (DataW H))(ps:List MemPlace),DataW.TrodAll enc C.prog W 0 (fun _=>true) true ts vs ds ps->ds.length=ts.length:=by
   intro ts
   induction ts with
   |nil=>intro vs ds ps h;obtain⟨_,rfl,_⟩:=trodAll_nil h;rfl
   |cons t ts ih=>
    intro vs ds ps h;obtain⟨v,vs',d,ds',p,q,_,rfl,_,_,hr⟩:=trodAll_cons h;rw[qL,qL,ih _ _ _ hr]
  rw[key _ _ _ _ hA,Array.length_toList]
 obtain⟨x,xb,xr,xk⟩:=q9c B τs fn.params.toList args.toList ds p htys (fun j t v ht hv=>hval j t v (by rw[← Array.getElem?_toList];exact ht) (by rw[← Array.getElem?_toList];exact hv)) hA
 have hc:=zrx (hcall x xb (Nat.le_trans xk hk)) args.toList W (htab W hlaid hsh) xr;rw[Array.toArray_toList]at hc;refine hc.mono fun e W'⟨he,bel⟩ => ?_
 subst he;refine⟨_,rfl,ds,[],p++[],[],p,[],hW',?_⟩;show DataW.TrodAll _ _ _ _ _ _ _ _ _ _/\_;rw[List.append_nil,show((OpenSpec.at { OpenSpec.ofChange s with cond:=some jc } F).fn H ds)=s.fn H ds from rfl,hspec ds hl,hres]
 exact⟨trodAll_mk1 (shut_bool hbool _),zbh laid bel _ _ _ _ hread hA,(by rw[show((OpenSpec.at { OpenSpec.ofChange s with cond:=some jc } F).vars)=[] from hvars];rfl),bel.frame _,fun h=>by cases h⟩
def xq(a b:Int):Bool:=decide (a=b)
def qbm:(τ:Ty)->τ.den->DataW Unit->Bool|.int k,x,.lit (.int k' n)=>decide (k'=k)&&xq n x|.byte,x,.lit (.int k' n)=>decide (k' = .u8)&&xq n x.toNat|.prod .byte .byte,x,.agg [.lit (.int _ a),.lit (.int _ b)]=>xq a x.1.toNat&&xq b x.2.toNat|_,_,_=>false
def qbn(τ:Ty):List τ.den->List (DataW Unit)->Bool|[],[]=>true|x::l,d::ds=>qbm τ x d&&qbn τ l ds|_,_=>false
def qnl(P:Program)(t:TypeId):Bool:=match P.underlying t with|some (.int .u8)=>Nat.beq (P.cellsOf t) 1|_=>false
def qmo(P:Program)(t:TypeId):Ty->Bool
 |.int k=>match P.underlying t with|some (.int k')=>decide (k'=k)|_=>false
 |.byte=>match P.underlying t with|some (.int .u8)=>true|_=>false
 |.prod .byte .byte=>match P.underlying t with
  |some (.struct fs)=>match fs.toList with|[f,g]=>Nat.beq f.offset 0&&Nat.beq g.offset 1&&qnl P f.type&&qnl P g.type&&Nat.beq (P.cellsOf t) 2|_=>false
  |_=>false
 |_=>false
section
variable{P:Program}{w:World}{base:Nat}{sp:Nat->Bool}
def zja{m:Nat}{τ:Ty}{t:TypeId}{cs:List Value}{y:DataW Unit×List MemPlace}{x:τ.den}(ht:qmo P t τ=true)(h:DataW.trod (fun _=>()) P w base sp false m t cs=some y)(hx:qbm τ x y.1=true):al (τ.enc x) (Gw w) cs/\∀v∈cs,v.oneCell'=true:=by
 unfold qmo at ht;split at ht
 ·rename_i k;split at ht
  ·rename_i k' hu;have hk:k'=k:=of_decide_eq_true ht;subst hk;obtain⟨n,rfl,rfl,_⟩:=DataW.trod_int hu h;simp only[qbm,xq,qA,decide_eq_true_eq]at hx;obtain⟨_,rfl⟩:=hx;exact⟨⟨rfl,trivial⟩,fun v hv=>by rw[List.mem_singleton]at hv;subst hv;rfl⟩
  ·cases ht
 ·split at ht
  ·rename_i hu;obtain⟨n,rfl,rfl,_⟩:=DataW.trod_int hu h;simp only[qbm,xq,qA,decide_eq_true_eq]at hx;obtain⟨_,rfl⟩:=hx;exact⟨⟨rfl,trivial⟩,fun v hv=>by rw[List.mem_singleton]at hv;subst hv;rfl⟩
  ·cases ht
 ·split at ht
  ·rename_i fs hu;split at ht
   ·rename_i f g hfs;simp only[qA]at ht;obtain⟨⟨⟨⟨o1,o2⟩,u1⟩,u2⟩,c2⟩:=ht;have o1:=qN o1;have o2:=qN o2;have c2:=qN c2;have key:∀t,qnl P t=true->P.underlying t=some (.int .u8)/\P.cellsOf t=1:=fun t h=>by
     unfold qnl at h;split at h
     ·rename_i hu;exact⟨hu,qN h⟩
     ·cases h
    obtain⟨k1,s1⟩:=key _ u1;obtain⟨k2,s2⟩:=key _ u2;obtain⟨xs,n,rfl,rfl,hl,hxl,hg⟩:=DataW.trod_struct hu h;have g0:=hg 0 f (by rw[← Array.getElem?_toList,hfs];rfl)
    have g1:=hg 1 g (by rw[← Array.getElem?_toList,hfs];rfl)
    have hsz:fs.size=2:=by rw[← Array.length_toList,hfs];rfl
    rw[hsz]at hxl;rw[c2]at hl
    match cs,hl with
    |[a,b],_=>
     match xs,hxl with
     |[p,q],_=>
      rw[o1,s1]at g0;rw[o2,s2]at g1;obtain⟨n1,e1,rfl,_⟩:=DataW.trod_int k1 g0;obtain⟨n2,e2,rfl,_⟩:=DataW.trod_int k2 g1;simp only[List.drop_zero,List.take_succ_cons,List.take_zero,List.cons.injEq,and_true]at e1;simp only[List.drop_succ_cons,List.drop_zero,List.take_succ_cons,List.take_zero,List.cons.injEq,and_true]at e2;subst e1 e2;simp only[List.map_cons,List.map_nil,qbm,xq,qA,decide_eq_true_eq]at hx;obtain⟨rfl,rfl⟩:=hx;exact⟨⟨rfl,rfl,trivial⟩,fun v hv=>by
       rcases List.mem_cons.1 hv with rfl|hv
       ·rfl
       ·rw[List.mem_singleton]at hv;subst hv;rfl⟩
   ·cases ht
  ·cases ht
 ·cases ht
def q6o{τ:Ty}:∀{l:List τ.den}{ds:List (DataW Unit)},qbn τ l ds=true->l.length=ds.length/\∀(j:Nat)(x:τ.den),l[j]? = some x->∃d,ds[j]? = some d/\qbm τ x d=true
 |[],[],_=>⟨rfl,fun j x h=>by simp at h⟩
 |[],_::_,h=>by simp[qbn]at h|_::_,[],h=>by simp[qbn]at h|y::l,d::ds,h=>by
  simp only[qbn,qA]at h;obtain⟨i1,i2⟩:=q6o h.2;refine⟨by simp[i1],fun j x hx => ?_⟩
  match j with|0=>simp only[List.getElem?_cons_zero,qI]at hx;subst hx;exact⟨d,rfl,h.1⟩|j+1=>exact i2 j x hx
def qoh(P:Program)(g:Nat)(τ:Ty)(l:List τ.den)(n:Nat)(d:DataW Unit):Bool:=match(P.globals[g]?).map (·.type) with
 |some t=>match P.underlying t,d with|some (.array _m E),.agg ds=>qmo P E τ&&(Nat.beq (P.cellsOf E) τ.sz&&(Nat.beq (P.cellsOf t) n&&qbn τ l ds))|_,_=>false
 |none=>false
def zot{g:Nat}{τ:Ty}{l:List τ.den}{n:Nat}{d:DataW Unit}(h:qoh P g τ l n d=true){t:TypeId}{cs:Array Value}{fuel:Nat}{p:List MemPlace}(ht:(P.globals[g]?).map (·.type)=some t)
  (hc:∃u fr,w.heap[g]? = some (.cells cs u fr)) (hd:DataW.trod (fun _=>()) P w base sp false fuel t cs.toList=some (d,p)) :
  cs.size=n/\∀(j:Nat)(x:τ.den),l[j]? = some x->τ.At (Gw w).imm x g (j*τ.sz):=by
 unfold qoh at h;rw[ht]at h;simp only at h;split at h
 ·rename_i m E ds hu;simp only[qA]at h;obtain⟨h1,h2,h3,h4⟩:=h;have h2:=qN h2;have h3:=qN h3;obtain⟨xs,m',rfl,e,hl,hxl,hg⟩:=DataW.trod_array hu hd;simp only[qP,DataW.agg.injEq]at e;obtain⟨rfl,rfl⟩:=e;obtain⟨dl,dg⟩:=q6o h4;refine⟨by rw[← Array.length_toList,hl,h3],fun j x hx => ?_⟩
  obtain⟨d,hd1,hd2⟩:=dg j x hx;rw[List.getElem?_map]at hd1;obtain⟨y,hy,rfl⟩:=Option.map_eq_some_iff.1 hd1;have hj:j<m:=by rw[← hxl];exact(List.getElem?_eq_some_iff.1 hy).1
  have:=hg j hj;rw[hy]at this;obtain⟨r1,r2⟩:=zja h1 this hd2;refine rf.1 (al.cells _ _ _ r1 r2 fun i v hv => ?_)
  rw[h2,List.getElem?_take]at hv;split at hv
  ·rw[List.getElem?_drop]at hv;obtain⟨u,fr,hh⟩:=hc;simp only[World.cell?,hh];rw[← Array.getElem?_toList];exact hv
  ·cases hv
 ·cases h
def qxp{laid:List (String×DataW Unit)}{n:String}{d:DataW Unit}:∀{l:List (String×DataW Unit)}{ps:List MemPlace},DataW.LaidVars P w l ps->(n,d)∈l ->
  ∃g t cs fuel p,P.globalNamed n=some g/\(P.globals[g]?).map (·.type)=some t/\(∃u fr,w.heap[g]? = some (.cells cs u fr))/\DataW.trod (fun _=>()) P w 0 (fun _=>true) false fuel t cs.toList=some (d,p)
 |[],_,_,h=>by cases h
 |(n',d')::r,ps,hl,h=>by
  obtain⟨g,t,cs,fuel,p,q,h1,h2,h3,h4,h5,_⟩:=hl;rcases List.mem_cons.1 h with e|h
  ·simp only[qP]at e;obtain⟨rfl,rfl⟩:=e;refine⟨g,t,cs,fuel,p,h1,h2,?_,h4⟩;unfold World.var? at h3;rw[h1,qB]at h3;split at h3
   ·rename_i c u fr hh;have:=qJ h3;subst this;exact⟨u,fr,hh⟩
   ·cases h3
  ·exact qxp (laid:=laid) h5 h
end
def qzn(P:Program)(laid:List (String×DataW Unit))(e:Nat×Nat):Bool:=match LC.glob e.1 with
 |some ⟨τ,l⟩=>Nat.blt 0 l.length&&laid.any fun x=>match P.globalNamed x.1 with|some g=>Nat.beq g e.1&&qoh P e.1 τ l e.2 x.2|none=>false
 |none=>false
def zkk(P:Program)(laid:List (String×DataW Unit))(g:Nat):Bool:=laid.any fun x=>match P.globalNamed x.1 with
 | some g'=>Nat.beq g' g&&(match(P.globals[g]?).map (·.type) with
  |some t=>match P.underlying t,x.2 with|some (.interface _),.iface _ _=>true|_,_=>false
  | none=>false)
 |none=>false
def zka{P:Program}{laid:List (String×DataW Unit)}{W:World}(h:laidMetH P laid W)(hh:(laid.all fun x=>x.2.handleName?.isNone)=true)
  (hg:∀g τ l,LC.glob g=some ⟨τ,l⟩->∃n,(g,n)∈LC.sizes) (hs:LC.sizes.all (qzn P laid)=true) (hi:LC.ifs.all (zkk P laid)=true) (hn:∀g∈LC.ints,∃k,W.cell? ⟨g,0,none⟩=some (.int .i64 k)):LC.tab (Gw W).imm W:=by
 rw[MakeChecks.laidMetH_plain _ _ _ hh]at h;obtain⟨ps,hl,_⟩:=h;have key:∀e∈LC.sizes,∃τ l,LC.glob e.1=some ⟨τ,l⟩/\0<l.length/\∃(cs:Array Value)(u:TypeId)(fr:Nat×Nat),W.heap[e.1]? = some (.cells cs u fr)/\cs.size=e.2/\∀(j:Nat)(x:τ.den),l[j]? = some x->τ.At (Gw W).imm x e.1 (j*τ.sz):=fun e he=>by
  have h1:=List.all_eq_true.1 hs e he;unfold qzn at h1;split at h1
  ·rename_i τ l hgl;rw[qA]at h1;obtain⟨x,hx,h2⟩:=List.any_eq_true.1 h1.2;split at h2
   ·rename_i g hgn;rw[qA]at h2;have:=qN h2.1;subst this;obtain⟨g',t,cs,fuel,p,k1,k2,⟨u,fr,k3⟩,k4⟩:=qxp (laid:=laid) hl (n:=x.1) (d:=x.2) hx;rw[hgn]at k1;have:=qJ k1;subst this;obtain⟨r1,r2⟩:=zot h2.2 k2 ⟨u,fr,k3⟩ k4;exact⟨τ,l,hgl,Nat.le_of_ble_eq_true h1.1,cs,u,fr,k3,r1,r2⟩
   ·cases h2
  ·cases h1
 refine⟨fun g τ l hgl j x hx => ?_,fun g hgi => ?_,fun g hgi => ?_,fun e he => ?_⟩
 ·obtain⟨n,hn⟩:=hg g τ l hgl;obtain⟨τ',l',h1,_,cs,u,fr,_,_,h5⟩:=key _ hn;rw[hgl]at h1;cases h1
  exact h5 j x hx
 ·obtain⟨k,hk⟩:=hn g hgi;exact⟨k,qu4 hk rfl⟩
 ·have h1:=List.all_eq_true.1 hi g hgi;obtain⟨x,hx,h2⟩:=List.any_eq_true.1 h1;split at h2
  ·rename_i g' hgn;rw[qA]at h2;have:=qN h2.1;subst this;obtain⟨g2,t,cs,fuel,p,k1,k2,⟨u,fr,k3⟩,k4⟩:=qxp (laid:=laid) hl (n:=x.1) (d:=x.2) hx;rw[hgn]at k1;have:=qJ k1;subst this;have h3:=h2.2;rw[k2]at h3;simp only at h3;split at h3
   ·rename_i ms nm d hu hd;rw[hd]at k4;obtain⟨_,u',v,hcs,_,_⟩:=iface_of_trod hu k4;refine⟨u',v,qu4 ?_ rfl⟩;simp only[World.cell?,k3];rw[← Array.getElem?_toList,hcs];rfl
   ·cases h3
  ·cases h2
 ·obtain⟨τ,l,h1,h2,cs,u,fr,h3,h4,h5⟩:=key e he;refine⟨?_,cs,u,fr,h3,h4⟩;have h6:=h5 0 l[0] (by simp[h2])
  have:∃o v,(Gw W).imm e.1 o=some v:=by
   have hx:=List.all_eq_true.1 hs e he;unfold qzn at hx;rw[h1]at hx;simp only[qA]at hx;obtain⟨x,_,hx⟩:=List.any_eq_true.1 hx.2;split at hx
   ·rw[qA]at hx;have hx:=hx.2;unfold qoh at hx;split at hx
    ·split at hx
     ·simp only[qA]at hx;have hx:=hx.1;unfold qmo at hx;split at hx
      ·exact⟨_,_,h6⟩
      ·exact⟨_,_,h6⟩
      ·exact⟨_,_,h6.1⟩
      ·cases hx
     ·cases hx
    ·cases hx
   ·cases hx
  exact this
section
variable{H:Type}{enc:TypeId×Value->H}
def zr0{C:Checked}{os:Os}{f:FuncId}{fn:Func}{s:OpenSpec}{conds:List PathCond}{apart:Bool}{laid:List (String×DataW Unit)}(modest:Bool)(w0:World)(args:Array Value)(hos:w0.os=os)
  (hsh:(w0.forCall (fun _ _=>0) ⟨#[],args,[]⟩).Shaped C.prog) (hok:Input.okWideB C.prog (w0.forCall (fun _ _=>0) ⟨#[],args,[]⟩) f ⟨#[],args,[]⟩=true)
  (hrow:s.preRow enc C.prog fn conds apart laid (w0.forCall (fun _ _=>0) ⟨#[],args,[]⟩).memory args) :
  ∃(w:World)(tape:Tape)(i:Input),w.os=os/\(w.forCall tape i).Shaped C.prog/\i.vars=[]/\Input.okWide C.prog (w.forCall tape i) .any w.heap.size f i /\
   s.preRow enc C.prog fn conds apart laid (w.forCall tape i).memory i.args/\({ modest:=modest }:Assume).holds C.prog (lone (Frame.enter C.prog f i.args .normal) [] (w.forCall tape i)):=
 ⟨w0,fun _ _=>0,⟨#[],args,[]⟩,hos,hsh,(Input.okWide_of_okWideB (base:=0) hok).1,(Input.okWide_of_okWideB hok).2,hrow,by
  simp only[Assume.holds];exact⟨by simp,by simp,fun _=>Modest.zero,by simp,by simp⟩⟩
end
end Go.Sym
namespace Go.Sym
set_option linter.unusedVariables false
abbrev wU : Type := Tree (List (Bs × Bs) × Bs)
abbrev wV : Type := List (Bs × Bs)
section
variable(fu:Nat)
def qh8:List UInt8:=[240,240,240,240,240,240,240,240,240,240,240,240,240,240,240,240,240,240,240,240,240,240,240,240,240,240,240,240,240,240,240,240,240,240,240,240,240,240,240,240,240,240,240,240,240,240,240,240,240,240,240,240,240,240,240,240,240,240,240,240,240,240,240,240,240,240,240,240,240,240,240,240,240,240,240,240,240,240,240,240,240,240,240,240,240,240,240,240,240,240,240,240,240,240,240,240,240,240,240,240,240,240,240,240,240,240,240,240,240,240,240,240,240,240,240,240,240,240,240,240,240,240,240,240,240,240,240,240,241,241,241,241,241,241,241,241,241,241,241,241,241,241,241,241,241,241,241,241,241,241,241,241,241,241,241,241,241,241,241,241,241,241,241,241,241,241,241,241,241,241,241,241,241,241,241,241,241,241,241,241,241,241,241,241,241,241,241,241,241,241,241,241,241,241,2,2,2,2,2,2,2,2,2,2,2,2,2,2,2,2,2,2,2,2,2,2,2,2,2,2,2,2,2,2,19,3,3,3,3,3,3,3,3,3,3,3,3,35,3,3,52,4,4,4,68,241,241,241,241,241,241,241,241,241,241,241]
def qh9:List (UInt8×UInt8):=[(128,191),(160,191),(128,159),(144,191),(128,143),(0,0),(0,0),(0,0),(0,0),(0,0),(0,0),(0,0),(0,0),(0,0),(0,0),(0,0)]
def zqh:List Int:=[1,10,100,1000,10000,100000,1000000,10000000,100000000,1000000000,10000000000,100000000000,1000000000000,10000000000000,100000000000000,1000000000000000,10000000000000000,100000000000000000,1000000000000000000,10000000000000000000]
abbrev zfo:=wU
def wm(a:Tree (wV×Bs)):Option zfo:=some (Tree.node a.val a.kids)
def ch(b:Int)(a:Int):Option ((Int×Int)):=some (b,a)
abbrev q4r:=((Int×Int)×Bool) ⊕ ((Int×Int)×Bool)
def qs7(d:Int)(h:List (Bs×Bs))(g:Bs)(f:List wU)(c:Int)(b:Int×Int)(a:Bool):Option q4r:=bif decide (40<=d) then(ch 2 (-1)).bind fun e=>some (.inl (e,a)) else bif a then some (.inr (b,true)) else some (.inr (b,decide (8<c)))
abbrev qll:=(Int×(Int×Int)×Bool) ⊕ (Int×(Int×Int)×Bool)
abbrev x3T:=wU->Int->Int->(Int×Int)->Bool->Option qll
abbrev q1x:=Int->(List wU)->Int->Int->Int->(Int×Int)->Bool->Option qll
def qta(e:x3T)(fu:Nat)(k:q1x):q1x:=fun f c b a i h j=>bif decide (a<b) then(am c a).bind fun g=>(e (Tree.node g.val g.kids) (af (f+1)) i h j).bind fun l=>bq l (fun m=>some (.inl m)) (fun d=>k f c b (af (a+1)) d.1 d.2.1 d.2.2) else some (.inr (i,(h,j)))
def qfy(a:x3T)(fu:Nat):Nat->q1x|0=>fun _ _ _ _ _ _ _=>none|n+1=>qta a fu (qfy a fu n)
def qkt(c:x3T)(fu:Nat)(a:Tree (wV×Bs))(e:Int)(b:Int)(g:Int×Int)(f:Bool):Option qll:=(qs7 b a.val.1 a.val.2 a.kids e g f).bind fun i=>bq i (fun h=>some (.inl (b,h))) (fun d=>qfy c fu fu e a.kids (a.kids.length:Int) 0 (af (b+1)) d.1 d.2)
def qat(fu:Nat):Nat->x3T|0=>fun _ _ _ _ _=>none|n+1=>qkt (qat fu n) fu
def q3o(d:Tree (wV×Bs))(e:Int)(c:Int)(b:Int×Int)(a:Bool):Option qll:=qat fu fu d e c b a
abbrev zfp:=(wU×(Int×Int)×Bool) ⊕ (wU×(Int×Int)×Bool)
def qks(a:Tree (wV×Bs))(e:Int×Int)(c:Bool):Option zfp:=(q3o fu (Tree.node a.val a.kids) 0 0 e c).bind fun f=>bq f (fun d=>some (.inl ((Tree.node a.val a.kids),d.2))) (fun b=>some (.inr ((Tree.node a.val a.kids),b.2)))
def qj7(a:UInt8):Option Bool:=bif decide (33<=a) then bif decide (a<=126) then some (a != 58) else some false else some false
abbrev q19:=Bs->Int->Int->Option Bool
def qrr(fu:Nat)(d:q19):q19:=fun c b a=>bif decide (a<b) then(am c a).bind fun e=>(qj7 e).bind fun f=>bif !f then some false else d c b (af (a+1)) else some true
def qe2(fu:Nat):Nat->q19|0=>fun _ _ _=>none|n+1=>qrr fu (qe2 fu n)
def qrq(a:Bs):Option Bool:=qe2 fu fu a (a.length:Int) 0
def qj6(a:Bs):Option Bool:=bif !(a==([]:Bs)) then bif decide ((a.length:Int)<=60) then(qrq fu a).bind fun b=>some b else some false else some false
def qt7(a:Int):Option Bool:=some (decide (8<a))
abbrev q2n:=Bs->Int->(List Bool)->Option ((List Bool)×Bool)
def q3y(fu:Nat)(e:q2n):q2n:=fun b d a=>bif decide (d<(b.length:Int)) then(am b d).bind fun c=>bif decide (128<=c) then bif decide (a.length=256) then bif decide (a.length=a.length)&&decide (a.length=256) then bif decide (a.length=256)&&(true&&true) then some (a,false) else none else none else none else(a[c.toNat]?).bind fun f=>e b (af (d+1)) (List.set a c.toNat true) else bif decide (a.length=256) then bif decide (a.length=a.length)&&decide (a.length=256) then bif decide (a.length=256)&&(true&&true) then some (a,true) else none else none else none
def qt6(fu:Nat):Nat->q2n|0=>fun _ _ _=>none|n+1=>q3y fu (qt6 fu n)
def qf8(a:Bs):Option ((List Bool)×Bool):=qt6 fu fu a 0 (List.replicate 256 false)
def qsm(c:Bs)(a:UInt8):Option Int:=(tv c a).bind fun b=>some b
def qf5(c:Bs)(a:UInt8):Option Int:=(qsm c a).bind fun b=>some b
def qlg(a:Int):Option Bool:=bif decide (0<=a) then bif decide (a<55296) then some true else bif decide (57343<a) then bif decide (a<=1114111) then some true else some false else some false else bif decide (57343<a) then bif decide (a<=1114111) then some true else some false else some false
abbrev q0l:=Bs->Nat->Option Int
abbrev q0m:=Bs->Bs->Int->Int->Int->Option Int
abbrev zwi:=Bs->Bs->Int->Int->Option Int
abbrev qc7:=Bs->Bs->Int->Int->Option Int
abbrev zwh:=Bs->Int->Bool->Option Int
def qtx(fu:Nat)(c:q0l):q0l:=fun b a=>bif Nat.blt a (b.length) then bif(((d6 b a).1:Nat):Int)==65533 then some ((a:Nat):Int) else c b (a+(d6 b a).2) else some (-1)
def qf7(fu:Nat):Nat->q0l|0=>fun _ _=>none|n+1=>qtx fu (qf7 fu n)
def q3x(fu:Nat)(i:qc7)(f:q0m):q0m:=fun e b c d a=>bif decide (a<(b.length:Int)) then(am e (af (d-a))).bind fun g=>(am b (af (c-a))).bind fun h=>bif g != h then none else f e b c d (af (a+1)) else some (af (d-c))
def qt0(fu:Nat)(a:qc7):Nat->q0m|0=>fun _ _ _ _ _=>none|n+1=>q3x fu a (qt0 fu a n)
def qtz(e:qc7):zwi:=fun b a c d=>qt0 fu e fu b a c d 1
def qty(e:qc7):qc7:=fun b c d a=>bif decide (a<(b.length:Int)) then(am b a).bind fun h=>(am c d).bind fun i=>bif h != i then bif decide (0<=af (a+1)/\af (a+1)<=(b.length:Int)) then(am c d).bind fun g=>(qf5 (List.drop (af (a+1)).toNat b) g).bind fun f=>bif decide (f<0) then some (-1) else qtz fu e b c d (af (a+(af (f+1)))) else none else qtz fu e b c d a else some (-1)
def qk9(fu:Nat):Nat->qc7|0=>fun _ _ _ _=>none|n+1=>qty fu (qk9 fu n)
def qf6:zwh:=fun c a b=>bif b then(qf5 c (fh a)).bind fun e=>some e else bif a==65533 then qf7 fu fu c 0 else(qlg a).bind fun d=>bif !d then some (-1) else qk9 fu fu c (nf a) (af ((List.length (nf a):Int)-1)) (af ((List.length (nf a):Int)-1))
def t8(b:Bs)(a:Int):Option Int:=bif decide (0<=a) then qf6 fu b a (decide (a<128)) else qf6 fu b a false
def qax(b:UInt8)(a:List Bool):Option (Bool×(List Bool)):=(a[b.toNat]?).bind fun c=>some (c,a)
abbrev zym:=Bs->Int->Option Int
abbrev q0w:=Bs->Int->(List Bool)->Option Int
abbrev q0x:=Bs->Bs->Nat->Option Int
abbrev zyn:=Bs->Bs->Option Int
def qtw:zym:=fun b a=>(t8 fu b a).bind fun c=>some c
def qtu(fu:Nat)(e:q0w):q0w:=fun c a b=>bif decide (a<(c.length:Int)) then(am c a).bind fun f=>(qax f b).bind fun d=>bif d.1 then some a else e c (af (a+1)) d.2 else some (-1)
def qf3(fu:Nat):Nat->q0w|0=>fun _ _ _=>none|n+1=>qtu fu (qf3 fu n)
def qtv(d:q0x):q0x:=fun c b a=>bif Nat.blt a (b.length) then(t8 fu c (((d6 b a).1:Nat):Int)).bind fun e=>bif decide (0<=e) then some ((a:Nat):Int) else d c b (a+(d6 b a).2) else some (-1)
def qf4(fu:Nat):Nat->q0x|0=>fun _ _ _=>none|n+1=>qtv fu (qf4 fu n)
def qk8:zyn:=fun b a=>qf4 fu fu a b 0
def qk7(a:Bs)(b:Bs):Option Int:=bif b==([]:Bs) then some (-1) else bif(b.length:Int)==1 then(am b 0).bind fun d=>bif decide (128<=(d.toNat:Int)) then qtw fu a 65533 else qtw fu a (d.toNat:Int) else(qt7 (a.length:Int)).bind fun e=>bif e then(qf8 fu b).bind fun c=>bif decide (c.1.length=List.length (List.replicate 256 false))&&decide (c.1.length=256) then bif c.2 then qf3 fu fu a 0 c.1 else qk8 fu a b else none else qk8 fu a b
def qk2(c:Bs)(a:Bs):Option Bool:=(qk7 fu c a).bind fun b=>some (decide (0<=b))
def qsh(b:Bs):Option Bool:=(qk2 fu b ([13,10,0]:Bs)).bind fun a=>some a
def we(a:UInt8):Option Bool:=bif a==32 then some true else some (a==9)
def qka(a:Bs):Option Bool:=(qsh fu a).bind fun e=>bif !e then bif a==([]:Bs) then some true else(am a 0).bind fun f=>(we f).bind fun d=>bif !d then(am a (af ((a.length:Int)-1))).bind fun b=>(we b).bind fun c=>some (!c) else some false else some false
abbrev z5e:=Bs->Int->Int->Bool->Option Int
abbrev qpl:=Bs->Int->Int->Option Int
def qj9(fu:Nat)(e:qpl):z5e:=fun d b a c=>bif c then e d b (af (a+1)) else bif decide (0<b) then bif decide (78<a) then some b else e d a (af (a+1)) else e d a (af (a+1))
def qsi(d:qpl):qpl:=fun b c a=>bif decide (a<(b.length:Int)) then(am b a).bind fun f=>(we f).bind fun g=>bif !g then qj9 fu d b c a true else(am b (af (a-1))).bind fun e=>(we e).bind fun h=>qj9 fu d b c a h else some c
def qfa(fu:Nat):Nat->qpl|0=>fun _ _ _=>none|n+1=>qsi fu (qfa fu n)
def qj8(b:Bs)(a:Int):Option Int:=qfa fu fu b 0 (if 1>a then 1 else a)
def ee:Option ((Int×Int)):=some (0,0)
abbrev q1q:=Int->Int->(Int×Int)->(List Bs)->Option ((Int×Int)×(List Bs))
abbrev z5m:=Bs->(Int×Int)->(List Bs)->Option ((Int×Int)×(List Bs))
abbrev q1p:=Bs->Int->(Int×Int)->(List Bs)->Option ((Int×Int)×(List Bs))
def qsg(fu:Nat)(g:q1q):q1q:=fun c a d b=>bif decide (a<c) then bif decide (0<=a/\a.toNat<b.length) then(b[a.toNat]?).bind fun h=>bif decide (998<(h.length:Int)) then(ch 1 a).bind fun e=>some (e,[]) else g c (af (a+1)) d b else none else(ee).bind fun f=>some (f,b)
def qe9(fu:Nat):Nat->q1q|0=>fun _ _ _ _=>none|n+1=>qsg fu (qe9 fu n)
def qe8:z5m:=fun c b a=>bif decide (List.length (a++([c]:List Bs))<=bg) then qe9 fu fu (List.length (a++([c]:List Bs)):Int) 0 b (a++([c]:List Bs)) else none
def qsf(f:q1p):q1p:=fun a e d b=>bif decide (78<(a.length:Int)) then(qj8 fu a e).bind fun c=>bif c==0 then qe8 fu a d b else bif decide (0<=c/\c<=(a.length:Int)) then bif decide (List.length (b++([List.take c.toNat a]:List Bs))<=bg) then bif decide (0<=c/\c<=(a.length:Int)) then f (List.drop c.toNat a) 0 d (b++([List.take c.toNat a]:List Bs)) else none else none else none else qe8 fu a d b
def qe7(fu:Nat):Nat->q1p|0=>fun _ _ _ _=>none|n+1=>qsf fu (qe7 fu n)
def qj5(a:Bs)(b:Bs):Option ((Int×Int)×(List Bs)):=(qj6 fu a).bind fun f=>bif !f then(ch 10 (-1)).bind fun d=>some (d,[]) else bif decide (4000<(b.length:Int)) then(ch 1 (-1)).bind fun e=>some (e,[]) else(qka fu b).bind fun g=>bif !g then(ch 11 (-1)).bind fun c=>some (c,[]) else bif decide (a.length+List.length ([58,32]:Bs)<=aq) then bif decide (List.length (a++([58,32]:Bs))+b.length<=aq) then qe7 fu fu ((a++([58,32]:Bs))++b) (af ((a.length:Int)+2)) (0,0) [] else none else none
def e9(a:Int×Int):Option Bool:=some (a.1 != 0)
abbrev q1r:=wV->Int->Int->(Int×Int)->Option ((Int×Int))
def qsj(h:q1r):q1r:=fun b c a d=>bif decide (a<c) then(am b a).bind fun f=>(qj5 fu f.1 f.2).bind fun e=>(e9 e.1).bind fun i=>bif i then(ch e.1.1 a).bind fun j=>some j else h b c (af (a+1)) d else(ee).bind fun g=>some g
def qfb(fu:Nat):Nat->q1r|0=>fun _ _ _ _=>none|n+1=>qsj fu (qfb fu n)
def qkb(a:List (Bs×Bs)):Option ((Int×Int)):=bif decide (60<(a.length:Int)) then(ch 2 (-1)).bind fun b=>some b else qfb fu fu a (a.length:Int) 0 (0,0)
abbrev q1s:=Int->Int->Bs->Option (Bs)
def qj2(fu:Nat)(d:q1s):q1s:=fun c a b=>bif decide (a<c) then bif decide (0<=a/\a.toNat<b.length) then(b[a.toNat]?).bind fun e=>bif decide (65<=e) then bif decide (e<=90) then bif decide (0<=a/\a.toNat<b.length) then(b[a.toNat]?).bind fun f=>d c (af (a+1)) (List.set b a.toNat ((e+97)-65)) else none else d c (af (a+1)) b else d c (af (a+1)) b else none else some b
def qag(fu:Nat):Nat->q1s|0=>fun _ _ _=>none|n+1=>qj2 fu (qag fu n)
def qe6(a:Bs):Option (Bs):=bif decide (a.length<=maxLen) then qag fu fu (a.length:Int) 0 a else none
def ep(b:Bs)(a:Bs):Option Bool:=bif(b.length:Int)==(a.length:Int) then(qe6 fu b).bind fun c=>(qe6 fu a).bind fun d=>some (c==d) else some false
abbrev q1t:=Bs->UInt8->Option (Bs)
def q30(fu:Nat)(c:q1t):q1t:=fun a b=>bif decide (0<(a.length:Int)) then(am a 0).bind fun d=>bif d==b then bif decide (0<=(1:Int)/\1<=(a.length:Int)) then c (List.drop (1:Int).toNat a) b else none else some a else some a
def qua(fu:Nat):Nat->q1t|0=>fun _ _=>none|n+1=>q30 fu (qua fu n)
def q3z(b:Bs)(a:UInt8):Option (Bs):=qua fu fu b a
abbrev q1u:=Bs->(List Bool)->Option (Bs×(List Bool))
def qt9(fu:Nat)(d:q1u):q1u:=fun a c=>bif decide (0<(a.length:Int)) then(am a 0).bind fun e=>(qax e c).bind fun b=>bif !b.1 then some (a,b.2) else bif decide (0<=(1:Int)/\1<=(a.length:Int)) then d (List.drop (1:Int).toNat a) b.2 else none else some (a,c)
def qf9(fu:Nat):Nat->q1u|0=>fun _ _=>none|n+1=>qt9 fu (qf9 fu n)
def qt8(b:Bs)(a:List Bool):Option (Bs×(List Bool)):=qf9 fu fu b a
abbrev z6k:=UInt8->UInt8->UInt8->UInt8->Option (Int×Int)
abbrev z6j:=UInt8->UInt8->UInt8->UInt8->Bool->Option (Int×Int)
abbrev z6i:=Bs->UInt8->Int->UInt8->UInt8->Option (Int×Int)
abbrev z6h:=Bs->UInt8->Int->UInt8->UInt8->Bool->Option (Int×Int)
abbrev z6g:=Bs->UInt8->Int->UInt8->Option (Int×Int)
abbrev z6f:=Bs->UInt8->Int->UInt8->Bool->Option (Int×Int)
def q4i:z6k:=fun d a b c=>some (IntKind.i32.wrap (((BitVec.ofInt 32 (IntKind.i32.wrap (((BitVec.ofInt 32 (IntKind.i32.wrap (((BitVec.ofInt 32 (IntKind.i32.wrap (((d&&&7).toNat:Int)*2 ^ min (18:Int).toNat 32))|||BitVec.ofInt 32 (IntKind.i32.wrap (((a&&&63).toNat:Int)*2 ^ min (12:Int).toNat 32))).toNat:Int)))|||BitVec.ofInt 32 (IntKind.i32.wrap (((b&&&63).toNat:Int)*2 ^ min (6:Int).toNat 32))).toNat:Int)))|||BitVec.ofInt 32 ((c&&&63).toNat:Int)).toNat:Int)),4)
def quv:z6j:=fun e a b d c=>bif c then some (65533,1) else q4i e a b d
def q4h:z6i:=fun e d f a b=>bif decide (f<=3) then some (IntKind.i32.wrap (((BitVec.ofInt 32 (IntKind.i32.wrap (((BitVec.ofInt 32 (IntKind.i32.wrap (((d&&&15).toNat:Int)*2 ^ min (12:Int).toNat 32))|||BitVec.ofInt 32 (IntKind.i32.wrap (((a&&&63).toNat:Int)*2 ^ min (6:Int).toNat 32))).toNat:Int)))|||BitVec.ofInt 32 ((b&&&63).toNat:Int)).toNat:Int)),3) else(am e 3).bind fun c=>bif decide (c<128) then quv d a b c true else quv d a b c (decide (191<c))
def quu:z6h:=fun e d f a b c=>bif c then some (65533,1) else q4h e d f a b
def q4g:z6g:=fun d c e a=>bif decide (e<=2) then some (IntKind.i32.wrap (((BitVec.ofInt 32 (IntKind.i32.wrap (((c&&&31).toNat:Int)*2 ^ min (6:Int).toNat 32))|||BitVec.ofInt 32 ((a&&&63).toNat:Int)).toNat:Int)),2) else(am d 2).bind fun b=>bif decide (b<128) then quu d c e a b true else quu d c e a b (decide (191<b))
def qut:z6f:=fun d c e a b=>bif b then some (65533,1) else q4g d c e a
def qus(a:Bs):Option (Int×Int):=bif decide ((a.length:Int)<1) then some (65533,0) else(am a 0).bind fun d=>(qh8[d.toNat]?).bind fun b=>bif decide (240<=b) then(am a 0).bind fun f=>some (IntKind.i32.wrap (((BitVec.ofInt 32 (IntKind.i32.wrap (((BitVec.ofInt 32 (f.toNat:Int) &&& ~~~ BitVec.ofInt 32 (Int.fdiv (IntKind.i32.wrap ((b.toNat:Int)*2 ^ min (31:Int).toNat 32)) (2 ^ min (31:Int).toNat 32))).toNat:Int)))|||BitVec.ofInt 32 (IntKind.i32.wrap (((BitVec.ofInt 32 65533&&&BitVec.ofInt 32 (Int.fdiv (IntKind.i32.wrap ((b.toNat:Int)*2 ^ min (31:Int).toNat 32)) (2 ^ min (31:Int).toNat 32))).toNat:Int)))).toNat:Int)),1) else(qh9[(pa b (min (4:Int).toNat 8)).toNat]?).bind fun e=>bif decide ((a.length:Int)<((b&&&7).toNat:Int)) then some (65533,1) else(am a 1).bind fun c=>bif decide (c<e.1) then qut a d ((b&&&7).toNat:Int) c true else qut a d ((b&&&7).toNat:Int) c (decide (e.2<c))
def qup(a:Bs):Option (Int×Int):=bif !(a==([]:Bs)) then(am a 0).bind fun b=>bif decide (b<128) then(am a 0).bind fun d=>some ((d.toNat:Int),1) else(qus a).bind fun c=>some c else(qus a).bind fun e=>some e
def qk3(c:Bs)(a:Int):Option Bool:=(t8 fu c a).bind fun b=>some (decide (0<=b))
abbrev q1v:=Bs->Bs->Option (Bs)
def q32(d:q1v):q1v:=fun a c=>bif decide (0<(a.length:Int)) then(qup a).bind fun b=>(qk3 fu c b.1).bind fun e=>bif !e then some a else bif decide (0<=b.2/\b.2<=(a.length:Int)) then d (List.drop b.2.toNat a) c else none else some a
def qub(fu:Nat):Nat->q1v|0=>fun _ _=>none|n+1=>q32 fu (qub fu n)
def q31(b:Bs)(a:Bs):Option (Bs):=qub fu fu b a
abbrev z62:=Bs->Bs->Option (Bs)
abbrev z61:=Bs->Bs->Bool->Option (Bs)
abbrev z60:=Bs->Bs->Option (Bs)
abbrev z6z:=Bs->Bs->Bool->Option (Bs)
def qt3:z62:=fun c b=>(qf8 fu b).bind fun a=>bif decide (a.1.length=List.length (List.replicate 256 false))&&decide (a.1.length=256) then bif a.2 then(qt8 fu c a.1).bind fun d=>some d.1 else(q31 fu c b).bind fun e=>some e else none
def qlc:z61:=fun c b a=>bif a then(am b 0).bind fun d=>(q3z fu c d).bind fun e=>some e else qt3 fu c b
def qt2:z60:=fun b a=>bif(a.length:Int)==1 then(am a 0).bind fun c=>qlc fu b a (decide (c<128)) else qlc fu b a false
def qlb:z6z:=fun b c a=>bif a then some b else qt2 fu b c
def qla(b:Bs)(a:Bs):Option (Bs):=bif b==([]:Bs) then qlb fu b a true else qlb fu b a (a==([]:Bs))
def tz(b:Bs):Option (Bs):=(qla fu b ([32,9]:Bs)).bind fun a=>some a
def nr(a:UInt8):Option Bool:=bif decide (33<=a) then bif decide (a<=126) then(qf5 ([40,41,60,62,64,44,59,58,92,34,47,91,93,63,61,42,37,39]:Bs) a).bind fun b=>some (decide (b<0)) else some false else some false
abbrev z7e:=Int->Bs->Option (Bs×Bs)
abbrev z7d:=Int->Bool->Bs->Option (Bs×Bs)
abbrev qiv:=Int->Bs->Option (Bs×Bs)
def q3h(fu:Nat)(b:qiv):z7e:=fun a c=>b (af (a+1)) c
def qs1(d:qiv):z7d:=fun a c b=>bif c then q3h fu d a b else bif decide (0<=a/\a<=(b.length:Int)) then bif decide (0<=a/\a<=(b.length:Int)) then some (List.take a.toNat b,List.drop a.toNat b) else none else none
def q3g(c:qiv):qiv:=fun a b=>bif decide (a<(b.length:Int)) then(am b a).bind fun d=>(nr d).bind fun e=>qs1 fu c a e b else qs1 fu c a false b
def qfr(fu:Nat):Nat->qiv|0=>fun _ _=>none|n+1=>q3g fu (qfr fu n)
def qfq(b:Bs):Option (Bs×Bs):=(tz fu b).bind fun a=>qfr fu fu 0 a
def wj(c:UInt8)(d:Bs):Option (Bool×Bs):=(tz fu d).bind fun a=>bif a==([]:Bs) then some (false,a) else(am a 0).bind fun b=>bif b != c then some (false,a) else bif decide (0<=(1:Int)/\1<=(a.length:Int)) then some (true,List.drop (1:Int).toNat a) else none
def qfp(a:UInt8):Option Bool:=(nr a).bind fun b=>bif b then some true else some (a==42)
abbrev z7q:=Int->Bs->Option (Bs×Bs)
abbrev z7p:=Int->Bool->Bs->Option (Bs×Bs)
abbrev qiw:=Int->Bs->Option (Bs×Bs)
def q3j(fu:Nat)(b:qiw):z7q:=fun a c=>b (af (a+1)) c
def qs2(d:qiw):z7p:=fun a c b=>bif c then q3j fu d a b else bif decide (0<=a/\a<=(b.length:Int)) then bif decide (0<=a/\a<=(b.length:Int)) then some (List.take a.toNat b,List.drop a.toNat b) else none else none
def q3i(c:qiw):qiw:=fun a b=>bif decide (a<(b.length:Int)) then(am b a).bind fun d=>(qfp d).bind fun e=>qs2 fu c a e b else qs2 fu c a false b
def qfs(fu:Nat):Nat->qiw|0=>fun _ _=>none|n+1=>q3i fu (qfs fu n)
def qkk(b:Bs):Option (Bs×Bs):=(tz fu b).bind fun a=>qfs fu fu 0 a
def qfu(a:UInt8):Option Bool:=(nr a).bind fun b=>bif b then some true else bif a==37 then some true else bif a==39 then some true else some (a==42)
abbrev z78:=Int->Bs->Option (Bs×Bs)
abbrev z74:=Int->Bool->Bs->Option (Bs×Bs)
abbrev qix:=Int->Bs->Option (Bs×Bs)
def q3l(fu:Nat)(b:qix):z78:=fun a c=>b (af (a+1)) c
def qs3(d:qix):z74:=fun a c b=>bif c then q3l fu d a b else bif decide (0<=a/\a<=(b.length:Int)) then bif decide (0<=a/\a<=(b.length:Int)) then some (List.take a.toNat b,List.drop a.toNat b) else none else none
def q3k(c:qix):qix:=fun a b=>bif decide (a<(b.length:Int)) then(am b a).bind fun d=>(qfu d).bind fun e=>qs3 fu c a e b else qs3 fu c a false b
def qft(fu:Nat):Nat->qix|0=>fun _ _=>none|n+1=>q3k fu (qft fu n)
def qkl(b:Bs):Option (Bs×Bs):=(tz fu b).bind fun a=>qft fu fu 0 a
abbrev q1y:=Int->Bs->Bs->Option (Bs×Bool×Bs)
def qs4(fu:Nat)(e:q1y):q1y:=fun c b a=>bif decide (c<(b.length:Int)) then(am b c).bind fun d=>bif d==34 then bif decide (0<=af (c+1)/\af (c+1)<=(b.length:Int)) then some (a,(true,List.drop (af (c+1)).toNat b)) else none else bif d==92 then bif(af (c+1))==(b.length:Int) then some (([]:Bs),(false,b)) else(am b (af (c+1))).bind fun f=>bif decide (List.length (a++([f]:Bs))<=bg) then e (af ((af (c+1))+1)) b (a++([f]:Bs)) else none else bif decide (List.length (a++([d]:Bs))<=bg) then e (af (c+1)) b (a++([d]:Bs)) else none else some (([]:Bs),(false,b))
def qfv(fu:Nat):Nat->q1y|0=>fun _ _ _=>none|n+1=>qs4 fu (qfv fu n)
def qkm(c:Bs):Option (Bs×Bool×Bs):=(wj fu 34 c).bind fun a=>bif !a.1 then(qkl fu a.2).bind fun b=>some (b.1,(true,b.2)) else qfv fu fu 0 a.2 []
abbrev z8f:=Bs->Bs->Int->Bool->Option Int
def qkd:z8f:=fun c d b a=>bif a then some 0 else bif b==1 then(am d 0).bind fun e=>(qsm c e).bind fun f=>some f else bif decide ((c.length:Int)<=b) then some (-1) else none
def qkc(b:Bs)(a:Bs):Option Int:=bif(a.length:Int)==0 then qkd b a (a.length:Int) true else qkd b a (a.length:Int) (a==b)
def qsk(b:Bs)(c:Bs):Option (Bs×Bs×Bool):=(qkc b c).bind fun a=>bif decide (0<=a) then bif decide (0<=a/\a<=(b.length:Int)) then bif decide (0<=af (a+(c.length:Int))/\af (a+(c.length:Int))<=(b.length:Int)) then some (List.take a.toNat b,(List.drop (af (a+(c.length:Int))).toNat b,true)) else none else none else some (b,(([]:Bs),false))
def qk4(c:Bs)(a:Bs):Option (Bs×Bs×Bool):=(qsk c a).bind fun b=>some b
def qfc(a:Bs)(b:Bs):Option Bool:=bif decide ((b.length:Int)<=(a.length:Int)) then bif decide (0<=af ((a.length:Int)-(b.length:Int))/\af ((a.length:Int)-(b.length:Int))<=(a.length:Int)) then some ((List.drop (af ((a.length:Int)-(b.length:Int))).toNat a)==b) else none else some false
def qsl(a:Bs)(b:Bs):Option (Bs×Bool):=(qfc a b).bind fun c=>bif !c then some (a,false) else bif decide (0<=af ((a.length:Int)-(b.length:Int))/\af ((a.length:Int)-(b.length:Int))<=(a.length:Int)) then some (List.take (af ((a.length:Int)-(b.length:Int))).toNat a,true) else none
def qk5(c:Bs)(a:Bs):Option (Bs×Bool):=(qsl c a).bind fun b=>some b
abbrev zfi:=(Bs×Int×Bool×Bs)×Bool×Bs
def qkj(g:Bs):Option zfi:=(qkk fu g).bind fun f=>(wj fu 61 f.2).bind fun e=>bif !e.1 then some ((([]:Bs),(0,(false,([]:Bs)))),(false,e.2)) else(qkm fu e.2).bind fun a=>(qk4 f.1 ([42]:Bs)).bind fun b=>bif b.2.2 then(qk5 b.2.1 ([42]:Bs)).bind fun c=>(wg c.1 1099511627776).bind fun d=>bif a.2.1 then bif d.2 then some ((b.1,(d.1,(c.2,a.1))),(!(b.1==([]:Bs)),a.2.2)) else some ((b.1,(d.1,(c.2,a.1))),(false,a.2.2)) else some ((b.1,(d.1,(c.2,a.1))),(false,a.2.2)) else bif a.2.1 then some ((b.1,((-1),(false,a.1))),(!(b.1==([]:Bs)),a.2.2)) else some ((b.1,((-1),(false,a.1))),(false,a.2.2))
abbrev zfh:=Bool×(Bs×Int×Bool×Bs)
def qfj(c:Bs×Int×Bool×Bs)(a:Bs×Int×Bool×Bs):Option zfh:=(ep fu c.1 a.1).bind fun b=>some (b,a)
abbrev q4s:=Int×(Bs×Int×Bool×Bs)
abbrev q1z:=(List (Bs×Int×Bool×Bs))->Int->Int->(Bs×Int×Bool×Bs)->Option q4s
def qtt(f:q1z):q1z:=fun d c a e=>bif decide (a<c) then(am d a).bind fun g=>(qfj fu g e).bind fun b=>bif b.1 then some (a,b.2) else f d c (af (a+1)) b.2 else some ((-1),e)
def qf2(fu:Nat):Nat->q1z|0=>fun _ _ _ _=>none|n+1=>qtt fu (qf2 fu n)
def qts(a:List (Bs×Int×Bool×Bs))(b:Bs×Int×Bool×Bs):Option q4s:=qf2 fu fu a (a.length:Int) 0 b
abbrev zft:=Bool×(Bs×Int×Bool×Bs)
def qk1(c:List (Bs×Int×Bool×Bs))(b:Bs×Int×Bool×Bs):Option zft:=(qts fu c b).bind fun a=>some (decide (0<=a.1),a.2)
abbrev z9e:=UInt8->Bool->Option (UInt8×Bool)
abbrev z9d:=UInt8->Bool->Option (UInt8×Bool)
def qrv:z9e:=fun a b=>bif b then some ((a-65)+10,true) else bif decide (97<=a) then bif decide (a<=102) then some ((a-97)+10,true) else some (0,false) else some (0,false)
def qru:z9d:=fun a b=>bif b then some (a-48,true) else bif decide (65<=a) then qrv a (decide (a<=70)) else qrv a false
def qaf(a:UInt8):Option (UInt8×Bool):=bif decide (48<=a) then qru a (decide (a<=57)) else qru a false
def qah(a:Bs):Option (UInt8×Bool):=bif decide ((a.length:Int)<2) then some (0,false) else(am a 0).bind fun e=>(qaf e).bind fun b=>(am a 1).bind fun d=>(qaf d).bind fun c=>bif b.2 then some ((o9 b.1 (min (4:Int).toNat 8))|||c.1,c.2) else some ((o9 b.1 (min (4:Int).toNat 8))|||c.1,false)
abbrev q11:=Bs->Int->Bs->Option (Bs)
abbrev z9n:=Bs->Option (Bs)
abbrev z9m:=Bs->Bool->Option (Bs)
def qsz(fu:Nat)(e:q11):q11:=fun c b a=>bif decide (b<(c.length:Int)) then(am c b).bind fun h=>bif h==37 then bif decide (0<=af (b+1)/\af (b+1)<=(c.length:Int)) then(qah (List.drop (af (b+1)).toNat c)).bind fun d=>bif d.2 then bif decide (List.length (a++([d.1]:Bs))<=bg) then e c (af ((af (b+2))+1)) (a++([d.1]:Bs)) else none else(am c b).bind fun f=>bif decide (List.length (a++([f]:Bs))<=bg) then e c (af (b+1)) (a++([f]:Bs)) else none else none else(am c b).bind fun g=>bif decide (List.length (a++([g]:Bs))<=bg) then e c (af (b+1)) (a++([g]:Bs)) else none else some a
def qfn(fu:Nat):Nat->q11|0=>fun _ _ _=>none|n+1=>qsz fu (qfn fu n)
def qao:z9n:=fun a=>qfn fu fu a 0 []
def tx:z9m:=fun b a=>bif a then bif decide (0<=(6:Int)/\6<=(b.length:Int)) then qao fu (List.drop (6:Int).toNat b) else none else qao fu b
def qkh(a:Bs×Int×Bool×Bs):Option (Bs):=bif !a.2.2.1 then some a.2.2.2 else bif a.2.1==0 then bif decide (6<=(a.2.2.2.length:Int)) then bif decide (0<=(6:Int)/\6<=(a.2.2.2.length:Int)) then(ep fu (List.take (6:Int).toNat a.2.2.2) ([117,116,102,56,39,39]:Bs)).bind fun b=>tx fu a.2.2.2 b else none else tx fu a.2.2.2 false else tx fu a.2.2.2 false
abbrev q12:=Int->Int->(Bs×Bs)->(Bs×Bs)->(List (Bs×Int×Bool×Bs))->Option ((Bs×Bs)×Bool)
def qss(h:q12):q12:=fun d a e b c=>bif decide (a<d) then bif decide (0<=a/\a.toNat<c.length) then(c[a.toNat]?).bind fun g=>bif g.2.1 != a then some (b,false) else(qkh fu g).bind fun f=>bif decide (b.2.length+f.length<=aq) then h d (af (a+1)) e (b.1,b.2++f) c else none else none else(ws b.2 ([239,191,189]:Bs)).bind fun i=>some ((b.1,i),true)
def qfg(fu:Nat):Nat->q12|0=>fun _ _ _ _ _=>none|n+1=>qss fu (qfg fu n)
def qff(a:List (Bs×Int×Bool×Bs)):Option ((Bs×Bs)×Bool):=bif decide (0<=(0:Int)/\(0:Int).toNat<a.length) then(a[(0:Int).toNat]?).bind fun c=>bif decide (0<=(0:Int)/\(0:Int).toNat<a.length) then(a[(0:Int).toNat]?).bind fun d=>bif decide (0<=(0:Int)/\(0:Int).toNat<a.length) then(a[(0:Int).toNat]?).bind fun e=>bif decide (e.2.1<0) then some ((c.1,d.2.2.2),(a.length:Int)==1) else(wo a).bind fun b=>qfg fu fu (b.length:Int) 0 (([]:Bs),([]:Bs)) (c.1,([]:Bs)) b else none else none else none
abbrev wy:=Bool×wV
abbrev z9w:=(List (Bs×Int×Bool×Bs))->(List (Bs×Int×Bool×Bs))->Int->Int->(List (Bs×Int×Bool×Bs))->Int->Int->(Bs×Int×Bool×Bs)->(List (Bs×Int×Bool×Bs))->wV->Option wy
abbrev qpp:=(List (Bs×Int×Bool×Bs))->(List (Bs×Int×Bool×Bs))->Int->Int->(List (Bs×Int×Bool×Bs))->Int->Int->(Bs×Int×Bool×Bs)->wV->(List (Bs×Int×Bool×Bs))->Option wy
abbrev qdi:=(List (Bs×Int×Bool×Bs))->(List (Bs×Int×Bool×Bs))->Int->Int->wV->Option wy
def qfl(fu:Nat)(l:qdi)(k:qpp):z9w:=fun j b e h c a f d g i=>k j b e h c a (af (f+1)) d i g
def qsw(k:qdi)(p:qpp):qpp:=fun j e h i f d a g b c=>bif decide (a<d) then(am f a).bind fun o=>(qfj fu o g).bind fun l=>bif l.1 then bif decide (List.length (c++([o]:List (Bs×Int×Bool×Bs)))<=bg) then qfl fu k p j e h i f d a l.2 (c++([o]:List (Bs×Int×Bool×Bs))) b else none else qfl fu k p j e h i f d a l.2 c b else(qff fu c).bind fun m=>bif !m.2 then some (false,[]) else bif decide (List.length (b++([(g.1,m.1.2)]:List (Bs×Bs)))<=bg) then k j e h (af (i+1)) (b++([(g.1,m.1.2)]:List (Bs×Bs))) else none
def qfk(fu:Nat)(a:qdi):Nat->qpp|0=>fun _ _ _ _ _ _ _ _ _ _=>none|n+1=>qsw fu a (qfk fu a n)
def qsv(f:qdi):qdi:=fun e b d a c=>bif decide (a<d) then(am b a).bind fun h=>bif decide (0<=a/\a<=(e.length:Int)) then(qk1 fu (List.take a.toNat e) h).bind fun g=>bif g.1 then f e b d (af (a+1)) c else qfk fu f fu e b d a e (e.length:Int) 0 g.2 c [] else none else some (true,c)
def qan(fu:Nat):Nat->qdi|0=>fun _ _ _ _ _=>none|n+1=>qsv fu (qan fu n)
def qam(a:List (Bs×Int×Bool×Bs)):Option wy:=qan fu fu a a (a.length:Int) 0 []
abbrev qgd:=(Bs×Bs×Bool) ⊕ (Bs×Bs×Bool×wV)
abbrev q13:=Bs->Bs->Bs->Bs->Bs->(List (Bs×Int×Bool×Bs))->Option qgd
abbrev z93:=Bs->Bs->Bs->Bs->Bs->Option qgd
abbrev z92:=Bool->Bs->Bs->Bs->Bs->Bs->Option qgd
def qsx(j:q13):q13:=fun d c g a b e=>(wj fu 59 g).bind fun h=>bif h.1 then(qkj fu h.2).bind fun f=>bif !f.2.1 then some (.inl (a,(b,false))) else bif decide (List.length (e++([f.1]:List (Bs×Int×Bool×Bs)))<=bg) then j d c f.2.2 a b (e++([f.1]:List (Bs×Int×Bool×Bs))) else none else(tz fu h.2).bind fun k=>(qam fu e).bind fun i=>bif i.1 then some (.inr (a,(b,(k==([]:Bs),i.2)))) else some (.inr (a,(b,(false,i.2))))
def qfm(fu:Nat):Nat->q13|0=>fun _ _ _ _ _ _=>none|n+1=>qsx fu (qfm fu n)
def qsy:z93:=fun c b e a d=>qfm fu fu c b e a d []
def tw:z92:=fun e d c f a b=>bif e then some (.inl (a,(b,false))) else qsy fu d c f a b
def qkg(d:Bs):Option qgd:=(qfq fu d).bind fun b=>(wj fu 47 b.2).bind fun c=>(qfq fu c.2).bind fun a=>bif b.1==([]:Bs) then tw fu true ([]:Bs) ([]:Bs) a.2 b.1 a.1 else bif !c.1 then tw fu true ([]:Bs) ([]:Bs) a.2 b.1 a.1 else tw fu (a.1==([]:Bs)) ([]:Bs) ([]:Bs) a.2 b.1 a.1
abbrev q14:=Bs->Int->Int->Option Bool
def q2t(fu:Nat)(d:q14):q14:=fun c b a=>bif decide (a<b) then(am c a).bind fun e=>(nr e).bind fun f=>bif !f then some false else d c b (af (a+1)) else some true
def qe3(fu:Nat):Nat->q14|0=>fun _ _ _=>none|n+1=>q2t fu (qe3 fu n)
def qjy(a:Bs):Option Bool:=qe3 fu fu a (a.length:Int) 0
def wk(a:Bs):Option Bool:=bif !(a==([]:Bs)) then bif decide ((a.length:Int)<=60) then(qjy fu a).bind fun b=>some b else some false else some false
def qsp(c:Bs×Bs)(a:Bs×Bs):Option (Bool×(Bs×Bs)):=(ep fu c.1 a.1).bind fun b=>some (b,a)
abbrev q15:=wV->Int->Int->(Bs×Bs)->Option (Int×(Bs×Bs))
def qtr(f:q15):q15:=fun d c a e=>bif decide (a<c) then(am d a).bind fun g=>(qsp fu g e).bind fun b=>bif b.1 then some (a,b.2) else f d c (af (a+1)) b.2 else some ((-1),e)
def qf1(fu:Nat):Nat->q15|0=>fun _ _ _ _=>none|n+1=>qtr fu (qf1 fu n)
def qtq(a:List (Bs×Bs))(b:Bs×Bs):Option (Int×(Bs×Bs)):=qf1 fu fu a (a.length:Int) 0 b
def qk0(c:List (Bs×Bs))(b:Bs×Bs):Option (Bool×(Bs×Bs)):=(qtq fu c b).bind fun a=>some (decide (0<=a.1),a.2)
abbrev vas:=Int->wV->Int->Int->Bool->(Bs×Bs×wV)->(Int×Int)->(Bs×Bs)->Option ((Int×Int))
abbrev qpr:=wV->Int->Int->(Bs×Bs×wV)->(Int×Int)->Option ((Int×Int))
abbrev var:=(Bs×Bs×wV)->(Int×Int)->Option ((Int×Int))
abbrev vaq:=Bool->(Bs×Bs×wV)->(Int×Int)->Option ((Int×Int))
def wi(k:qpr):vas:=fun b i d c f a h e=>bif f then(ch 10 b).bind fun l=>some l else bif decide (0<=b/\b<=(a.2.2.length:Int)) then(qk0 fu (List.take b.toNat a.2.2) e).bind fun g=>bif g.1 then(ch 7 b).bind fun o=>some o else bif decide (500<(g.2.2.length:Int)) then(ch 1 b).bind fun p=>some p else(wt g.2.2).bind fun j=>bif !j then(ch 5 b).bind fun m=>some m else k i d (af (c+1)) a h else none
def qsq(g:qpr):qpr:=fun c b a d e=>bif decide (a<b) then(am c a).bind fun f=>(wk fu f.1).bind fun h=>bif !h then wi fu g a c b a true d e f else wi fu g a c b a (decide (20<(f.1.length:Int))) d e f else(ee).bind fun i=>some i
def qak(fu:Nat):Nat->qpr|0=>fun _ _ _ _ _=>none|n+1=>qsq fu (qak fu n)
def qsr:var:=fun a b=>bif decide (60<(a.2.2.length:Int)) then(ch 2 (-3)).bind fun c=>some c else qak fu fu a.2.2 (a.2.2.length:Int) 0 a b
def qaj:vaq:=fun b a c=>bif b then(ch 10 (-2)).bind fun d=>some d else qsr fu a c
def rr(a:Bs×Bs×wV):Option ((Int×Int)):=(wk fu a.1).bind fun b=>bif !b then qaj fu true a (0,0) else(wk fu a.2.1).bind fun c=>qaj fu (!c) a (0,0)
abbrev q4q:=(Bs×Bs×Int×Int) ⊕ (Bs×Bs×Int×Int×wV)
def qai(i:Bs):Option q4q:=bif decide (4000<(i.length:Int)) then(ch 1 (-1)).bind fun p=>some (.inl (([]:Bs),(([]:Bs),p))) else(qkg fu i).bind fun o=>bq o (fun d=>bif !d.2.2 then(ch 11 (-5)).bind fun k=>some (.inl (([]:Bs),(([]:Bs),k))) else(rr fu (d.1,(d.2.1,[]))).bind fun h=>(e9 h).bind fun j=>bif j then(ch h.1 (-6)).bind fun m=>some (.inl (([]:Bs),(([]:Bs),m))) else(ee).bind fun l=>some (.inl (d.1,(d.2.1,l)))) (fun a=>bif !a.2.2.1 then(ch 11 (-5)).bind fun g=>some (.inl (([]:Bs),(([]:Bs),g))) else(rr fu (a.1,(a.2.1,a.2.2.2))).bind fun c=>(e9 c).bind fun e=>bif e then(ch c.1 (-6)).bind fun f=>some (.inl (([]:Bs),(([]:Bs),f))) else(ee).bind fun b=>some (.inr (a.1,(a.2.1,(b.1,(b.2,a.2.2.2))))))
abbrev qlk:=(Bs×Bs×Int×Bool) ⊕ (Bs×Bs×Int×Bool×wV)
abbrev vay:=wV->Int->wV->Int->Int->Bs->Bs->Option qlk
abbrev qpt:=wV->Int->wV->Int->Int->Bs->Bs->Option qlk
def qar(fu:Nat)(h:qpt):vay:=fun g f c d e b a=>h g f c d (af (e+1)) b a
def qko(j:qpt):qpt:=fun h f d e a c b=>bif decide (a<e) then(am d a).bind fun q=>(ep fu q.1 ([67,111,110,116,101,110,116,45,84,121,112,101]:Bs)).bind fun m=>bif m then bif decide (0<=f) then some (.inl (([]:Bs),(([]:Bs),(0,false)))) else qar fu j h a d e a c b else qar fu j h f d e a c b else bif decide (f<0) then some (.inl (([]:Bs),(([]:Bs),(0,false)))) else(am h f).bind fun o=>(qai fu o.2).bind fun p=>bq p (fun i=>(e9 i.2.2).bind fun k=>some (.inl (i.1,(i.2.1,(f,!k))))) (fun g=>(e9 (g.2.2.1,g.2.2.2.1)).bind fun l=>some (.inr (g.1,(g.2.1,(f,(!l,g.2.2.2.2))))))
def t6(fu:Nat):Nat->qpt|0=>fun _ _ _ _ _ _ _=>none|n+1=>qko fu (t6 fu n)
def qaq(a:List (Bs×Bs)):Option qlk:=t6 fu fu a (-1) a (a.length:Int) 0 ([]:Bs) ([]:Bs)
abbrev q18:=Bs->wV->Int->Int->(Int×Int)->Option (Bs×Bool×(Int×Int))
def qsn(g:q18):q18:=fun e b c a d=>bif decide (a<c) then(am b a).bind fun f=>(ep fu f.1 e).bind fun h=>bif h then(ee).bind fun i=>some (f.2,(true,i)) else g e b c (af (a+1)) d else(ee).bind fun j=>some (([]:Bs),(false,j))
def qfd(fu:Nat):Nat->q18|0=>fun _ _ _ _ _=>none|n+1=>qsn fu (qfd fu n)
def po(a:Bs×Bs×wV)(d:Bs):Option (Bs×Bool×(Int×Int)):=(rr fu a).bind fun b=>(e9 b).bind fun c=>bif c then some (([]:Bs),(false,b)) else qfd fu fu d a.2.2 (a.2.2.length:Int) 0 (0,0)
def qfh(a:UInt8):Option Bool:=bif decide (32<=a) then some (decide (a<=126)) else some false
abbrev q2a:=Bs->Int->Int->Option Bool
def q2u(fu:Nat)(d:q2a):q2a:=fun c b a=>bif decide (a<b) then(am c a).bind fun e=>(qfh e).bind fun f=>bif !f then some false else d c b (af (a+1)) else some true
def qe4(fu:Nat):Nat->q2a|0=>fun _ _ _=>none|n+1=>q2u fu (qe4 fu n)
def qjz(a:Bs):Option Bool:=qe4 fu fu a (a.length:Int) 0
def qt1(a:List Bs):Option (Int×Int×Int×(List Bs)):=bif(Int.tmod (a.length:Int) 2)==1 then none else bif decide (a.length<=bg) then some (0,(0,(0,a))) else none
def nq(a:UInt8):Option UInt8:=(([48,49,50,51,52,53,54,55,56,57,65,66,67,68,69,70]:Bs)[(a&&&15).toNat]?).bind fun b=>some b
abbrev vbk:=Bs->Bs->Int->Int->(List Bs)->Option ((List Bs))
abbrev qpw:=Bs->Int->Int->(List Bs)->Option ((List Bs))
def qfo(fu:Nat)(f:qpw):vbk:=fun e c d b a=>bif decide (0<=af ((a.length:Int)-1)/\(af ((a.length:Int)-1)).toNat<a.length) then(a[(af ((a.length:Int)-1)).toNat]?).bind fun h=>bif decide ((af ((h.length:Int)+(c.length:Int)))<=60) then bif decide (0<=af ((a.length:Int)-1)/\(af ((a.length:Int)-1)).toNat<a.length) then(a[(af ((a.length:Int)-1)).toNat]?).bind fun g=>bif decide (g.length+c.length<=aq) then bif decide (0<=af ((a.length:Int)-1)/\(af ((a.length:Int)-1)).toNat<a.length) then(a[(af ((a.length:Int)-1)).toNat]?).bind fun i=>f e d (af (b+1)) (List.set a ((af ((a.length:Int)-1)).toNat) (g++c)) else none else none else none else bif decide (List.length (a++([c]:List Bs))<=bg) then f e d (af (b+1)) (a++([c]:List Bs)) else none else none
def qs0(e:qpw):qpw:=fun c d a b=>bif decide (a<d) then bif decide (0<=a/\a<=af (a+1)/\af (a+1)<=(c.length:Int)) then(am c a).bind fun i=>(nr i).bind fun j=>bif !j then(am c a).bind fun f=>(nq (pa f (min (4:Int).toNat 8))).bind fun k=>(am c a).bind fun g=>(nq g).bind fun h=>qfo fu e c ([37,k,h]:Bs) d a b else qfo fu e c (List.take ((af (a+1)).toNat-a.toNat) (List.drop a.toNat c)) d a b else none else some b
def qap(fu:Nat):Nat->qpw|0=>fun _ _ _ _=>none|n+1=>qs0 fu (qap fu n)
def qki(a:Bs):Option ((List Bs)):=qap fu fu a (a.length:Int) 0 ([([117,116,102,56,39,39]:Bs)]:List Bs)
abbrev q2b:=Bs->Int->Int->(Bs×Bs)->(List Bs)->Option (Bs)
abbrev vbr:=(Bs×Bs)->Option (Bs)
abbrev vbq:=Bool->(Bs×Bs)->Option (Bs)
def qst(fu:Nat)(h:q2b):q2b:=fun f d b a c=>bif decide (b<d) then bif decide (0<=b/\b.toNat<c.length) then(c[b.toNat]?).bind fun g=>bif decide (List.length ([59,32]:Bs)+a.1.length<=aq) then bif decide (List.length (([59,32]:Bs)++a.1)+List.length ([42]:Bs)<=aq) then(wq b).bind fun e=>bif decide (List.length ((([59,32]:Bs)++a.1)++([42]:Bs))+e.length<=aq) then bif decide (List.length (((([59,32]:Bs)++a.1)++([42]:Bs))++e)+List.length ([42,61]:Bs)<=aq) then bif decide (List.length ((((([59,32]:Bs)++a.1)++([42]:Bs))++e)++([42,61]:Bs))+g.length<=aq) then bif decide (f.length+List.length (((((([59,32]:Bs)++a.1)++([42]:Bs))++e)++([42,61]:Bs))++g)<=aq) then h (f++(((((([59,32]:Bs)++a.1)++([42]:Bs))++e)++([42,61]:Bs))++g)) d (af (b+1)) a c else none else none else none else none else none else none else none else some f
def qfi(fu:Nat):Nat->q2b|0=>fun _ _ _ _ _=>none|n+1=>qst fu (qfi fu n)
def qsu:vbr:=fun a=>(qki fu a.2).bind fun b=>qfi fu fu ([]:Bs) (b.length:Int) 0 a b
def qal:vbq:=fun d a=>bif d then bif decide (List.length ([59,32]:Bs)+a.1.length<=aq) then bif decide (List.length (([59,32]:Bs)++a.1)+List.length ([61,34]:Bs)<=aq) then(qt1 ([([92]:Bs),([92,92]:Bs),([34]:Bs),([92,34]:Bs)]:List Bs)).bind fun b=>(t7 a.2 b.1 b.2.1 b.2.2.1 b.2.2.2).bind fun c=>bif decide (List.length ((([59,32]:Bs)++a.1)++([61,34]:Bs))+c.length<=aq) then bif decide (List.length (((([59,32]:Bs)++a.1)++([61,34]:Bs))++c)+List.length ([34]:Bs)<=aq) then some ((((([59,32]:Bs)++a.1)++([61,34]:Bs))++c)++([34]:Bs)) else none else none else none else none else qsu fu a
def qkf(a:Bs×Bs):Option (Bs):=(wk fu a.2).bind fun b=>bif b then bif decide (List.length ([59,32]:Bs)+a.1.length<=aq) then bif decide (List.length (([59,32]:Bs)++a.1)+List.length ([61]:Bs)<=aq) then bif decide (List.length ((([59,32]:Bs)++a.1)++([61]:Bs))+a.2.length<=aq) then some (((([59,32]:Bs)++a.1)++([61]:Bs))++a.2) else none else none else none else bif decide ((a.2.length:Int)<=60) then(qjz fu a.2).bind fun c=>qal fu c a else qal fu false a
abbrev q2c:=Bs->wV->Int->Int->(Int×Int)->Option (Bs×(Int×Int))
def qso(g:q2c):q2c:=fun d c b a e=>bif decide (a<b) then(am c a).bind fun j=>(qkf fu j).bind fun f=>bif decide (d.length+f.length<=aq) then g (d++f) c b (af (a+1)) e else none else bif decide (4000<(d.length:Int)) then(ch 1 (-4)).bind fun h=>some (([]:Bs),h) else(ee).bind fun i=>some (d,i)
def qfe(fu:Nat):Nat->q2c|0=>fun _ _ _ _ _=>none|n+1=>qso fu (qfe fu n)
def qke(a:Bs×Bs×wV):Option (Bs×(Int×Int)):=(rr fu a).bind fun b=>(e9 b).bind fun c=>bif c then some (([]:Bs),b) else bif decide (a.1.length+List.length ([47]:Bs)<=aq) then bif decide (List.length (a.1++([47]:Bs))+a.2.1.length<=aq) then qfe fu fu ((a.1++([47]:Bs))++a.2.1) a.2.2 (a.2.2.length:Int) 0 (0,0) else none else none
abbrev vb0:=Int->wU->Bs->Bs->wV->Option Int
abbrev vbz:=Int->Bool->wU->Bs->Bs->wV->Option Int
def qtk:vb0:=fun i d a b c=>(po fu (a,(b,c)) ([98,111,117,110,100,97,114,121]:Bs)).bind fun h=>(qke fu (a,(b,c))).bind fun e=>bif h.2.1 then some 5 else bif decide (60<=(c.length:Int)) then some 5 else(e9 e.2).bind fun g=>bif g then some 5 else(am d.val.1 i).bind fun f=>bif !(e.1==f.2) then some 5 else bif decide (2000<(e.1.length:Int)) then some 5 else some 0
def nt:vbz:=fun f d c a b e=>bif d then some 5 else qtk fu f (Tree.node c.val c.kids) a b e
def qkz(a:Tree (wV×Bs)):Option Int:=(qaq fu a.val.1).bind fun e=>bq e (fun c=>bif decide (0<(a.val.2.length:Int)) then nt fu c.2.2.1 true (Tree.node a.val a.kids) c.1 c.2.1 [] else bif !c.2.2.2 then nt fu c.2.2.1 true (Tree.node a.val a.kids) c.1 c.2.1 [] else(ep fu c.1 ([109,117,108,116,105,112,97,114,116]:Bs)).bind fun f=>nt fu c.2.2.1 (!f) (Tree.node a.val a.kids) c.1 c.2.1 []) (fun b=>bif decide (0<(a.val.2.length:Int)) then nt fu b.2.2.1 true (Tree.node a.val a.kids) b.1 b.2.1 b.2.2.2.2 else bif !b.2.2.2.1 then nt fu b.2.2.1 true (Tree.node a.val a.kids) b.1 b.2.1 b.2.2.2.2 else(ep fu b.1 ([109,117,108,116,105,112,97,114,116]:Bs)).bind fun d=>nt fu b.2.2.1 (!d) (Tree.node a.val a.kids) b.1 b.2.1 b.2.2.2.2)
abbrev vb9:=Bs->Int->Int->UInt8->Option Int
abbrev vb8:=Bs->Int->Int->UInt8->Bool->Option Int
abbrev qiy:=Bs->Int->Int->Option Int
def qrt(fu:Nat)(d:qiy):vb9:=fun c b e a=>bif a==13 then some 11 else bif a==10 then some 11 else bif decide (998<(af (b+1))) then some 1 else d c (af (b+1)) (af (e+1))
def qae(c:qiy):vb8:=fun b f d e a=>bif a then c b 0 (af ((af (d+1))+1)) else qrt fu c b f d e
def qrs(e:qiy):qiy:=fun a d b=>bif decide (b<(a.length:Int)) then(am a b).bind fun c=>bif c==13 then bif decide ((af (b+1))<(a.length:Int)) then(am a (af (b+1))).bind fun f=>qae fu e a d b c (f==10) else qae fu e a d b c false else qae fu e a d b c false else some 0
def qad(fu:Nat):Nat->qiy|0=>fun _ _ _=>none|n+1=>qrs fu (qad fu n)
def qj1(a:Bs):Option Int:=qad fu fu a 0 0
def qfx(a:UInt8):Option Bool:=bif decide (32<=a) then some (decide (a<=126)) else some false
abbrev q2e:=Bs->Int->Int->Option Bool
def q2v(fu:Nat)(d:q2e):q2e:=fun c b a=>bif decide (a<b) then(am c a).bind fun e=>(qfx e).bind fun f=>bif !f then some false else d c b (af (a+1)) else some true
def qe5(fu:Nat):Nat->q2e|0=>fun _ _ _=>none|n+1=>q2v fu (qe5 fu n)
def qj0(a:Bs):Option Bool:=qe5 fu fu a (a.length:Int) 0
def qk6(c:Bs)(a:Bs):Option Bool:=(qfc c a).bind fun b=>some b
abbrev vco:=Bs->Bs->wV->Option (Bs×Bool)
abbrev vcn:=Bool->Bs->Bs->wV->Option (Bs×Bool)
def qs9:vco:=fun c b d=>(po fu (c,(b,d)) ([98,111,117,110,100,97,114,121]:Bs)).bind fun a=>bif !(a.1==([]:Bs)) then bif decide ((a.1.length:Int)<=60) then(qj0 fu a.1).bind fun e=>bif e then(qk6 a.1 ([32]:Bs)).bind fun f=>bif a.2.1 then some (a.1,!f) else some (a.1,false) else bif a.2.1 then some (a.1,false) else some (a.1,false) else bif a.2.1 then some (a.1,false) else some (a.1,false) else bif a.2.1 then some (a.1,false) else some (a.1,false)
def wl:vcn:=fun d b a c=>bif d then some (([]:Bs),false) else qs9 fu b a c
def qkp(d:List (Bs×Bs)):Option (Bs×Bool):=(qaq fu d).bind fun e=>bq e (fun b=>bif !b.2.2.2 then wl fu true b.1 b.2.1 [] else(ep fu b.1 ([109,117,108,116,105,112,97,114,116]:Bs)).bind fun f=>wl fu (!f) b.1 b.2.1 []) (fun a=>bif !a.2.2.2.1 then wl fu true a.1 a.2.1 a.2.2.2.2 else(ep fu a.1 ([109,117,108,116,105,112,97,114,116]:Bs)).bind fun c=>wl fu (!c) a.1 a.2.1 a.2.2.2.2)
def qth(a:Bs):Option (Bs):=some a
abbrev q2g:=Bs->UInt8->Option (Bs)
def q34(fu:Nat)(c:q2g):q2g:=fun a b=>bif decide (0<(a.length:Int)) then(am a (af ((a.length:Int)-1))).bind fun d=>bif d==b then bif decide (0<=af ((a.length:Int)-1)/\af ((a.length:Int)-1)<=(a.length:Int)) then c (List.take (af ((a.length:Int)-1)).toNat a) b else none else some a else some a
def que(fu:Nat):Nat->q2g|0=>fun _ _=>none|n+1=>q34 fu (que fu n)
def q33(b:Bs)(a:UInt8):Option (Bs):=que fu fu b a
abbrev q2h:=Bs->(List Bool)->Option (Bs×(List Bool))
def qud(fu:Nat)(d:q2h):q2h:=fun a c=>bif decide (0<(a.length:Int)) then(am a (af ((a.length:Int)-1))).bind fun e=>(qax e c).bind fun b=>bif !b.1 then some (a,b.2) else bif decide (0<=af ((a.length:Int)-1)/\af ((a.length:Int)-1)<=(a.length:Int)) then d (List.take (af ((a.length:Int)-1)).toNat a) b.2 else none else some (a,c)
def qga(fu:Nat):Nat->q2h|0=>fun _ _=>none|n+1=>qud fu (qga fu n)
def quc(b:Bs)(a:List Bool):Option (Bs×(List Bool)):=qga fu fu b a
def qur(a:UInt8):Option Bool:=some ((a&&&192) != 128)
abbrev vc6:=Bs->Int->Int->Option (Int×Int)
abbrev vc5:=Bs->Int->Int->Option (Int×Int)
abbrev q2i:=Bs->Int->Int->Int->Option (Int×Int)
def quk(fu:Nat):vc6:=fun c b a=>bif decide (0<=a/\a<=b/\b<=(c.length:Int)) then(qup (List.take (b.toNat-a.toNat) (List.drop a.toNat c))).bind fun d=>bif(af (a+d.2)) != b then some (65533,1) else some d else none
def quj:vc5:=fun b c a=>bif decide (a<0) then quk fu b c 0 else quk fu b c a
def q4c(e:q2i):q2i:=fun b c a d=>bif decide (d<=a) then(am b a).bind fun f=>(qur f).bind fun g=>bif g then quj fu b c a else e b c (af (a-1)) d else quj fu b c a
def qui(fu:Nat):Nat->q2i|0=>fun _ _ _ _=>none|n+1=>q4c fu (qui fu n)
def q4b(a:Bs):Option (Int×Int):=bif(a.length:Int)==0 then some (65533,0) else(am a (af ((a.length:Int)-1))).bind fun b=>bif decide ((b.toNat:Int)<128) then some ((b.toNat:Int),1) else qui fu fu a (a.length:Int) (af ((af ((a.length:Int)-1))-1)) (if 0>af ((a.length:Int)-4) then 0 else af ((a.length:Int)-4))
abbrev q2j:=Bs->Bs->Option (Bs)
def q36(d:q2j):q2j:=fun a b=>bif decide (0<(a.length:Int)) then(am a (af ((a.length:Int)-1))).bind fun e=>bif decide (128<=(e.toNat:Int)) then(q4b fu a).bind fun c=>(qk3 fu b c.1).bind fun f=>bif !f then some a else bif decide (0<=af ((a.length:Int)-c.2)/\af ((a.length:Int)-c.2)<=(a.length:Int)) then d (List.take (af ((a.length:Int)-c.2)).toNat a) b else none else(qk3 fu b (e.toNat:Int)).bind fun g=>bif !g then some a else bif decide (0<=af ((a.length:Int)-1)/\af ((a.length:Int)-1)<=(a.length:Int)) then d (List.take (af ((a.length:Int)-1)).toNat a) b else none else some a
def quf(fu:Nat):Nat->q2j|0=>fun _ _=>none|n+1=>q36 fu (quf fu n)
def q35(b:Bs)(a:Bs):Option (Bs):=quf fu fu b a
abbrev vdl:=Bs->Bs->Option (Bs)
abbrev vdk:=Bs->Bs->Bool->Option (Bs)
abbrev vdj:=Bs->Bs->Option (Bs)
abbrev vdi:=Bs->Bs->Bool->Option (Bs)
def qt5:vdl:=fun c b=>(qf8 fu b).bind fun a=>bif decide (a.1.length=List.length (List.replicate 256 false))&&decide (a.1.length=256) then bif a.2 then(quc fu c a.1).bind fun d=>some d.1 else(q35 fu c b).bind fun e=>some e else none
def qlf:vdk:=fun c b a=>bif a then(am b 0).bind fun d=>(q33 fu c d).bind fun e=>some e else qt5 fu c b
def qt4:vdj:=fun b a=>bif(a.length:Int)==1 then(am a 0).bind fun c=>qlf fu b a (decide (c<128)) else qlf fu b a false
def qle:vdi:=fun b c a=>bif a then some b else qt4 fu b c
def qld(b:Bs)(a:Bs):Option (Bs):=bif b==([]:Bs) then qle fu b a true else qle fu b a (a==([]:Bs))
def qky(c:Bs)(a:Bs):Option Int:=(qld fu c ([32,9]:Bs)).bind fun b=>bif decide (List.length ([45,45]:Bs)+a.length<=aq) then bif b==(([45,45]:Bs)++a) then some 1 else bif decide (List.length ([45,45]:Bs)+a.length<=aq) then bif decide (List.length (([45,45]:Bs)++a)+List.length ([45,45]:Bs)<=aq) then bif b==((([45,45]:Bs)++a)++([45,45]:Bs)) then some 2 else some 0 else none else none else none
abbrev zfn:=(Bs×Bs×Int×(List Bs)×(List Bs)) ⊕ (Bs×Bs×Int×(List Bs))
def qas(b:Int)(f:Bs)(c:Bs)(e:Bs)(a:Int)(g:List Bs)(d:List Bs):Option zfn:=(qky fu f e).bind fun h=>bif h==0 then some (.inl (c,(e,(a,(g,d))))) else bif decide (0<=a) then bif decide (0<=a/\a<=(if af (b-2)>a then af (b-2) else a)/\(if af (b-2)>a then af (b-2) else a)<=(c.length:Int)) then bif decide (List.length (d++([List.take ((if af (b-2)>a then af (b-2) else a).toNat-a.toNat) (List.drop a.toNat c)]:List Bs))<=bg) then bif h==2 then some (.inr (c,(e,(a,d++([List.take ((if af (b-2)>a then af (b-2) else a).toNat-a.toNat) (List.drop a.toNat c)]:List Bs))))) else some (.inl (c,(e,(if(c.length:Int)<af ((af (b+(f.length:Int)))+2) then(c.length:Int) else af ((af (b+(f.length:Int)))+2),(g,d++([List.take ((if af (b-2)>a then af (b-2) else a).toNat-a.toNat) (List.drop a.toNat c)]:List Bs)))))) else none else none else bif h==2 then some (.inr (c,(e,(a,d)))) else some (.inl (c,(e,(if(c.length:Int)<af ((af (b+(f.length:Int)))+2) then(c.length:Int) else af ((af (b+(f.length:Int)))+2),(g,d)))))
abbrev qu9:=(Bs×Bs×Bs×Int×(List Bs)) ⊕ (Bs×Bs×Bs×Int×(List Bs)×(List Bs))
abbrev q2k:=Int->Bs->Bs->Bs->Int->(List Bs)->(List Bs)->Option qu9
def qtj(k:q2k):q2k:=fun a b i h j c d=>bif decide (a<(b.length:Int)) then bif decide (0<=a/\a<=(b.length:Int)) then bif decide (0<List.length ([13,10]:Bs)) then(wh (List.drop a.toNat b) ([13,10]:Bs)).bind fun e=>bif decide (0<=e) then bif decide (0<=a/\a<=af (a+e)/\af (a+e)<=(b.length:Int)) then(qas fu a (List.take ((af (a+e)).toNat-a.toNat) (List.drop a.toNat b)) i h j c d).bind fun p=>bq p (fun f=>k (af ((af (a+e))+2)) b f.1 f.2.1 f.2.2.1 f.2.2.2.1 f.2.2.2.2) (fun o=>some (.inl (b,o))) else none else bif decide (0<=a/\a<=(b.length:Int)/\(b.length:Int)<=(b.length:Int)) then(qas fu a (List.take ((b.length:Int).toNat-a.toNat) (List.drop a.toNat b)) i h j c d).bind fun l=>bq l (fun g=>k (b.length:Int) b g.1 g.2.1 g.2.2.1 g.2.2.2.1 g.2.2.2.2) (fun m=>some (.inl (b,m))) else none else none else none else some (.inr (b,(i,(h,(j,(c,d))))))
def wn(fu:Nat):Nat->q2k|0=>fun _ _ _ _ _ _ _=>none|n+1=>qtj fu (wn fu n)
def qti(e:Bs)(f:Bs)(d:Bs)(c:Int)(a:List Bs)(b:List Bs):Option qu9:=wn fu fu 0 e f d c a b
def qkr(b:Bs)(c:Bs):Option ((List Bs)):=(qth b).bind fun f=>(qti fu f b c (-1) [] []).bind fun d=>bq d (fun e=>some e.2.2.2.2) (fun a=>bif decide (0<=a.2.2.2.1) then bif decide (0<=a.2.2.2.1/\a.2.2.2.1<=(a.2.1.length:Int)) then bif decide (List.length (a.2.2.2.2.2++([List.drop a.2.2.2.1.toNat a.2.1]:List Bs))<=bg) then some (a.2.2.2.2.2++([List.drop a.2.2.2.1.toNat a.2.1]:List Bs)) else none else none else some a.2.2.2.2.2)
def qkx(c:List (Bs×Bs))(e:Bs)(b:Int):Option ((List Bs)):=(qkp fu c).bind fun a=>bif !a.2 then some [] else bif decide (8<=b) then some [] else(qkr fu e a.1).bind fun d=>some d
def qkq(a:wU×Int):Option Int:=(qkb fu a.1.val.1).bind fun b=>(e9 b).bind fun e=>bif e then some b.1 else bif decide (0<(a.1.kids.length:Int)) then(qkz fu (Tree.node a.1.val a.1.kids)).bind fun f=>some f else bif decide (12000<(a.1.val.2.length:Int)) then some 1 else(qj1 fu a.1.val.2).bind fun c=>bif c != 0 then some c else(qkx fu a.1.val.1 a.1.val.2 a.2).bind fun d=>bif decide (0<(d.length:Int)) then some 5 else some 0
def qs8(f:Int)(h:List (Bs×Bs))(e:Bs)(d:List wU)(b:Int)(c:Int×Int):Option (((Int×Int)) ⊕ ((Int×Int))):=(qkq fu ((Tree.node (h,e) d),b)).bind fun a=>bif a != 0 then(ch a f).bind fun g=>some (.inl g) else some (.inr c)
abbrev qlm:=(Int×(Int×Int)) ⊕ (Int×(Int×Int))
abbrev qpz:=wU->Int->Int->(Int×Int)->Option qlm
abbrev q2l:=Int->(List wU)->Int->Int->Int->(Int×Int)->Option qlm
def qtb(c:qpz)(fu:Nat)(j:q2l):q2l:=fun e d b a g f=>bif decide (a<b) then(am d a).bind fun i=>(c (Tree.node i.val i.kids) (af (e+1)) g f).bind fun k=>bq k (fun l=>some (.inl l)) (fun h=>j e d b (af (a+1)) h.1 h.2) else some (.inr (g,f))
def qfz(a:qpz)(fu:Nat):Nat->q2l|0=>fun _ _ _ _ _ _=>none|n+1=>qtb a fu (qfz a fu n)
def qku(a:qpz)(fu:Nat)(b:Tree (wV×Bs))(d:Int)(c:Int)(e:Int×Int):Option qlm:=(qs8 fu c b.val.1 b.val.2 b.kids d e).bind fun h=>bq h (fun g=>some (.inl (c,g))) (fun f=>qfz a fu fu d b.kids (b.kids.length:Int) 0 (af (c+1)) f)
def qau(fu:Nat):Nat->qpz|0=>fun _ _ _ _=>none|n+1=>qku (qau fu n) fu
def q3p(c:Tree (wV×Bs))(a:Int)(d:Int)(b:Int×Int):Option qlm:=qau fu fu c a d b
abbrev zfq:=(wU×(Int×Int)) ⊕ (wU×(Int×Int))
def qkw(a:Tree (wV×Bs))(d:Int×Int):Option zfq:=(q3p fu (Tree.node a.val a.kids) 0 0 d).bind fun e=>bq e (fun c=>some (.inl ((Tree.node a.val a.kids),c.2))) (fun b=>some (.inr ((Tree.node a.val a.kids),b.2)))
def qfw(a:Tree (wV×Bs)):Option ((Int×Int)):=(wm (Tree.node a.val a.kids)).bind fun d=>(qks fu (Tree.node d.val d.kids) (0,0) false).bind fun i=>bq i (fun j=>some j.2.1) (fun e=>bif e.2.2 then(ch 2 (-2)).bind fun h=>some h else(wm (Tree.node a.val a.kids)).bind fun c=>(qkw fu (Tree.node c.val c.kids) e.2.1).bind fun g=>bq g (fun f=>some f.2) (fun k=>(ee).bind fun b=>some b))
abbrev zfj:=wU
def qkn(a:Tree (wV×Bs)):Option zfj:=some (Tree.node a.val a.kids)
abbrev zfy:=(Bs×Bs×wV)
def qaz(d:Tree (wV×Bs)):Option zfy:=(qaq fu d.val.1).bind fun c=>bq c (fun b=>bif b.2.2.2 then some (b.1,(b.2.1,[])) else some (([116,101,120,116]:Bs),(([112,108,97,105,110]:Bs),[]))) (fun a=>bif a.2.2.2.1 then some (a.1,(a.2.1,a.2.2.2.2)) else some (([116,101,120,116]:Bs),(([112,108,97,105,110]:Bs),[])))
abbrev zfx:=(Bs×Bs×wU×Bool) ⊕ (Bs×Bs×wU×Bool)
def q4p(k:Int)(g:List (Bs×Bs))(f:Bs)(d:List wU)(b:Bs)(c:Bs)(a:Tree (wV×Bs))(e:Bool):Option zfx:=(qaz fu (Tree.node (g,f) d)).bind fun h=>bif(d.length:Int)==0 then(ep fu h.1 b).bind fun i=>bif i then(ep fu h.2.1 c).bind fun j=>bif j then some (.inl (b,(c,((Tree.node (g,f) d),true)))) else some (.inr (b,(c,((Tree.node a.val a.kids),e)))) else some (.inr (b,(c,((Tree.node a.val a.kids),e)))) else some (.inr (b,(c,((Tree.node a.val a.kids),e))))
abbrev zfl:=(Bs×Bs×wU×Bool) ⊕ (Bs×Bs×wU×Bool)
def q3n(i:Int)(j:List (Bs×Bs))(g:Bs)(f:List wU)(l:Int)(e:Bs)(d:Bs)(c:Tree (wV×Bs))(h:Bool):Option zfl:=(q4p fu i j g f e d (Tree.node c.val c.kids) h).bind fun k=>bq k (fun b=>some (.inl (b.1,(b.2.1,((Tree.node b.2.2.1.val b.2.2.1.kids),b.2.2.2))))) (fun a=>some (.inr (a.1,(a.2.1,((Tree.node a.2.2.1.val a.2.2.1.kids),a.2.2.2)))))
abbrev qln:=(Int×Bs×Bs×wU×Bool) ⊕ (Int×Bs×Bs×wU×Bool)
abbrev qo1:=wU->Int->Int->Bs->Bs->wU->Bool->Option qln
abbrev qz8:=Int->(List wU)->Int->Int->Int->Bs->Bs->wU->Bool->Option qln
def q3q(a:qo1)(fu:Nat)(o:qz8):qz8:=fun i f e b j l k h g=>bif decide (b<e) then(am f b).bind fun m=>(a (Tree.node m.val m.kids) (af (i+1)) j l k (Tree.node h.val h.kids) g).bind fun p=>bq p (fun d=>some (.inl (d.1,(d.2.1,(d.2.2.1,((Tree.node d.2.2.2.1.val d.2.2.2.1.kids),d.2.2.2.2)))))) (fun c=>o i f e (af (b+1)) c.1 c.2.1 c.2.2.1 (Tree.node c.2.2.2.1.val c.2.2.2.1.kids) c.2.2.2.2) else some (.inr (j,(l,(k,((Tree.node h.val h.kids),g)))))
def qte(a:qo1)(fu:Nat):Nat->qz8|0=>fun _ _ _ _ _ _ _ _ _=>none|n+1=>q3q a fu (qte a fu n)
def qtc(a:qo1)(fu:Nat)(d:Tree (wV×Bs))(g:Int)(e:Int)(j:Bs)(h:Bs)(f:Tree (wV×Bs))(i:Bool):Option qln:=(q3n fu e d.val.1 d.val.2 d.kids g j h (Tree.node f.val f.kids) i).bind fun k=>bq k (fun c=>some (.inl (e,(c.1,(c.2.1,((Tree.node c.2.2.1.val c.2.2.1.kids),c.2.2.2)))))) (fun b=>qte a fu fu g d.kids (d.kids.length:Int) 0 (af (e+1)) b.1 b.2.1 (Tree.node b.2.2.1.val b.2.2.1.kids) b.2.2.2)
def qtd(fu:Nat):Nat->qo1|0=>fun _ _ _ _ _ _ _=>none|n+1=>qtc (qtd fu n) fu
def zfc(f:Tree (wV×Bs))(g:Int)(e:Int)(d:Bs)(a:Bs)(c:Tree (wV×Bs))(b:Bool):Option qln:=qtd fu fu f g e d a c b
abbrev zfr:=(wU×Bs×Bs×wU×Bool) ⊕ (wU×Bs×Bs×wU×Bool)
def q3s(a:Tree (wV×Bs))(g:Bs)(f:Bs)(d:Tree (wV×Bs))(e:Bool):Option zfr:=(zfc fu (Tree.node a.val a.kids) 0 0 g f (Tree.node d.val d.kids) e).bind fun h=>bq h (fun c=>some (.inl ((Tree.node a.val a.kids),(c.2.1,(c.2.2.1,((Tree.node c.2.2.2.1.val c.2.2.2.1.kids),c.2.2.2.2)))))) (fun b=>some (.inr ((Tree.node a.val a.kids),(b.2.1,(b.2.2.1,((Tree.node b.2.2.2.1.val b.2.2.2.1.kids),b.2.2.2.2))))))
abbrev zfk:=(wU×Bs×Bs×wU×Bool) ⊕ (wU×Bs×Bs×wU×Bool)
def q3m(a:Tree (wV×Bs))(h:Bs)(g:Bs)(d:Tree (wV×Bs))(f:Bool):Option zfk:=(wm (Tree.node a.val a.kids)).bind fun e=>(q3s fu (Tree.node e.val e.kids) h g (Tree.node d.val d.kids) f).bind fun i=>bq i (fun b=>some (.inl ((Tree.node a.val a.kids),(b.2.1,(b.2.2.1,((Tree.node b.2.2.2.1.val b.2.2.2.1.kids),b.2.2.2.2)))))) (fun c=>some (.inr ((Tree.node a.val a.kids),(c.2.1,(c.2.2.1,((Tree.node c.2.2.2.1.val c.2.2.2.1.kids),c.2.2.2.2))))))
abbrev zfw:=wU×Bool
def qu2(b:Tree (wV×Bs))(e:Bs)(d:Bs):Option zfw:=(qkn (Tree.node b.val b.kids)).bind fun c=>(q3m fu (Tree.node c.val c.kids) e d (Tree.node ([],[]) []) false).bind fun f=>bq f (fun a=>some ((Tree.node a.2.2.2.1.val a.2.2.2.1.kids),a.2.2.2.2)) (fun g=>some ((Tree.node ([],[]) []),false))
def quh(b:Bs)(a:UInt8):Option (Bs×UInt8):=some (b,a)
abbrev zfu:=(Bs×Bool×UInt8) ⊕ ((Bs×Bool) ⊕ ((Bs×Bool) ⊕ (Bs×Bool)))
def q38(a:Bs):Option zfu:=(quh ([55,98,105,116]:Bs) 127).bind fun c=>(quh ([56,98,105,116]:Bs) 255).bind fun b=>(ep fu c.1 a).bind fun f=>bif f then some (.inl (c.1,(true,c.2))) else(ep fu b.1 a).bind fun g=>bif g then some (.inl (b.1,(true,b.2))) else(ep fu ([98,97,115,101,54,52]:Bs) a).bind fun d=>bif d then some (.inr (.inl (([98,97,115,101,54,52]:Bs),true))) else(ep fu ([113,117,111,116,101,100,45,112,114,105,110,116,97,98,108,101]:Bs) a).bind fun e=>bif e then some (.inr (.inr (.inl (([113,117,111,116,101,100,45,112,114,105,110,116,97,98,108,101]:Bs),true)))) else some (.inr (.inr (.inr (([]:Bs),false))))
abbrev zfv:=(Bs×(Int×Int)×UInt8) ⊕ ((Bs×(Int×Int)) ⊕ ((Bs×(Int×Int)) ⊕ (Bs×(Int×Int))))
def q39(d:Bs)(v:Bs):Option zfv:=(q38 fu v).bind fun u=>bq u (fun a=>bif !a.2.1 then(ch 18 (-3)).bind fun t=>some (.inl (a.1,(t,a.2.2))) else bif decide (12000<(d.length:Int)) then(ch 1 (-1)).bind fun s=>some (.inl (a.1,(s,a.2.2))) else(ee).bind fun p=>some (.inl (a.1,(p,a.2.2)))) (fun r=>bq r (fun c=>bif !c.2 then(ch 18 (-3)).bind fun h=>some (.inr (.inl (c.1,h))) else bif decide (12000<(d.length:Int)) then(ch 1 (-1)).bind fun o=>some (.inr (.inl (c.1,o))) else(ee).bind fun j=>some (.inr (.inl (c.1,j)))) (fun q=>bq q (fun e=>bif !e.2 then(ch 18 (-3)).bind fun m=>some (.inr (.inr (.inl (e.1,m)))) else bif decide (12000<(d.length:Int)) then(ch 1 (-1)).bind fun l=>some (.inr (.inr (.inl (e.1,l)))) else(ee).bind fun k=>some (.inr (.inr (.inl (e.1,k))))) (fun b=>bif !b.2 then(ch 18 (-3)).bind fun g=>some (.inr (.inr (.inr (b.1,g)))) else bif decide (12000<(d.length:Int)) then(ch 1 (-1)).bind fun i=>some (.inr (.inr (.inr (b.1,i)))) else(ee).bind fun f=>some (.inr (.inr (.inr (b.1,f)))))))
def q37(a:Bs):Option ((Int×Int)×Bs):=bif decide (a.length<=bg) then(ee).bind fun b=>some (b,a) else none
def qrz(c:Bs)(a:UInt8):Option Int:=(tv c a).bind fun b=>some b
abbrev qz9:=Int->Int->Bs->Int->Int->(Int×Int)->Bs->Option ((Int×Int)×Bs)
def q2s(fu:Nat)(i:qz9):qz9:=fun h d c e b f a=>bif decide (b<e) then(am c b).bind fun j=>bif j==61 then(ee).bind fun k=>some (k,a) else bif decide (0<List.length ([65,66,67,68,69,70,71,72,73,74,75,76,77,78,79,80,81,82,83,84,85,86,87,88,89,90,97,98,99,100,101,102,103,104,105,106,107,108,109,110,111,112,113,114,115,116,117,118,119,120,121,122,48,49,50,51,52,53,54,55,56,57,43,47]:Bs)) then(qrz ([65,66,67,68,69,70,71,72,73,74,75,76,77,78,79,80,81,82,83,84,85,86,87,88,89,90,97,98,99,100,101,102,103,104,105,106,107,108,109,110,111,112,113,114,115,116,117,118,119,120,121,122,48,49,50,51,52,53,54,55,56,57,43,47]:Bs) j).bind fun g=>bif decide (g<0) then i h d c e (af (b+1)) f a else bif decide (8<=(af (d+6))) then bif decide (0<=af ((af (d+6))-8)) then bif decide (List.length (a++([fh (Int.fdiv (af (((BitVec.ofInt 64 (af (h*2 ^ min (6:Int).toNat 64))|||BitVec.ofInt 64 g).toNat:Int))) (2 ^ min (af ((af (d+6))-8)).toNat 64))]:Bs))<=bg) then bif decide (0<=af ((af (d+6))-8)) then i (af (((BitVec.ofInt 64 (af (((BitVec.ofInt 64 (af (h*2 ^ min (6:Int).toNat 64))|||BitVec.ofInt 64 g).toNat:Int)))&&&BitVec.ofInt 64 (af ((af (1*2 ^ min (af ((af (d+6))-8)).toNat 64))-1))).toNat:Int))) (af ((af (d+6))-8)) c e (af (b+1)) f (a++([fh (Int.fdiv (af (((BitVec.ofInt 64 (af (h*2 ^ min (6:Int).toNat 64))|||BitVec.ofInt 64 g).toNat:Int))) (2 ^ min (af ((af (d+6))-8)).toNat 64))]:Bs)) else none else none else none else i (af (((BitVec.ofInt 64 (af (h*2 ^ min (6:Int).toNat 64))|||BitVec.ofInt 64 g).toNat:Int))) (af (d+6)) c e (af (b+1)) f a else none else(ee).bind fun l=>some (l,a)
def qrp(fu:Nat):Nat->qz9|0=>fun _ _ _ _ _ _ _=>none|n+1=>q2s fu (qrp fu n)
def q2r(a:Bs):Option ((Int×Int)×Bs):=bif decide (24000<(a.length:Int)) then(ch 1 (-1)).bind fun b=>some (b,[]) else qrp fu fu 0 0 a (a.length:Int) 0 (0,0) []
def q2w(b:Bs)(a:Bs):Option Bool:=some (b==a)
def qry(a:Bs)(b:Bs):Option Bool:=bif decide ((b.length:Int)<=(a.length:Int)) then bif decide (0<=af ((a.length:Int)-(b.length:Int))/\af ((a.length:Int)-(b.length:Int))<=(a.length:Int)) then(q2w (List.drop (af ((a.length:Int)-(b.length:Int))).toNat a) b).bind fun c=>some c else none else some false
def qr2(a:Bs)(b:Bs):Option (Bs):=(qry a b).bind fun c=>bif c then bif decide (0<=af ((a.length:Int)-(b.length:Int))/\af ((a.length:Int)-(b.length:Int))<=(a.length:Int)) then some (List.take (af ((a.length:Int)-(b.length:Int))).toNat a) else none else some a
abbrev q0a:=Bs->UInt8->Option (Bs)
def q27(fu:Nat)(c:q0a):q0a:=fun a b=>bif decide (0<(a.length:Int)) then(am a (af ((a.length:Int)-1))).bind fun d=>bif d==b then bif decide (0<=af ((a.length:Int)-1)/\af ((a.length:Int)-1)<=(a.length:Int)) then c (List.take (af ((a.length:Int)-1)).toNat a) b else none else some a else some a
def qr7(fu:Nat):Nat->q0a|0=>fun _ _=>none|n+1=>q27 fu (qr7 fu n)
def q26(b:Bs)(a:UInt8):Option (Bs):=qr7 fu fu b a
abbrev q0c:=Bs->Int->(List Bool)->Option ((List Bool)×Bool)
def q23(fu:Nat)(e:q0c):q0c:=fun b d a=>bif decide (d<(b.length:Int)) then(am b d).bind fun c=>bif decide (128<=c) then bif decide (a.length=256) then bif decide (a.length=a.length)&&decide (a.length=256) then bif decide (a.length=256)&&(true&&true) then some (a,false) else none else none else none else(a[c.toNat]?).bind fun f=>e b (af (d+1)) (List.set a c.toNat true) else bif decide (a.length=256) then bif decide (a.length=a.length)&&decide (a.length=256) then bif decide (a.length=256)&&(true&&true) then some (a,true) else none else none else none
def qr5(fu:Nat):Nat->q0c|0=>fun _ _ _=>none|n+1=>q23 fu (qr5 fu n)
def q22(a:Bs):Option ((List Bool)×Bool):=qr5 fu fu a 0 (List.replicate 256 false)
def q20(b:UInt8)(a:List Bool):Option (Bool×(List Bool)):=(a[b.toNat]?).bind fun c=>some (c,a)
abbrev q0d:=Bs->(List Bool)->Option (Bs×(List Bool))
def q25(fu:Nat)(d:q0d):q0d:=fun a c=>bif decide (0<(a.length:Int)) then(am a (af ((a.length:Int)-1))).bind fun e=>(q20 e c).bind fun b=>bif !b.1 then some (a,b.2) else bif decide (0<=af ((a.length:Int)-1)/\af ((a.length:Int)-1)<=(a.length:Int)) then d (List.take (af ((a.length:Int)-1)).toNat a) b.2 else none else some (a,c)
def qr6(fu:Nat):Nat->q0d|0=>fun _ _=>none|n+1=>q25 fu (qr6 fu n)
def q24(b:Bs)(a:List Bool):Option (Bs×(List Bool)):=qr6 fu fu b a
abbrev zua:=UInt8->UInt8->UInt8->UInt8->Option (Int×Int)
abbrev zt9:=UInt8->UInt8->UInt8->UInt8->Bool->Option (Int×Int)
abbrev zt8:=Bs->UInt8->Int->UInt8->UInt8->Option (Int×Int)
abbrev zt7:=Bs->UInt8->Int->UInt8->UInt8->Bool->Option (Int×Int)
abbrev zt6:=Bs->UInt8->Int->UInt8->Option (Int×Int)
abbrev zt5:=Bs->UInt8->Int->UInt8->Bool->Option (Int×Int)
def q4l:zua:=fun d a b c=>some (IntKind.i32.wrap (((BitVec.ofInt 32 (IntKind.i32.wrap (((BitVec.ofInt 32 (IntKind.i32.wrap (((BitVec.ofInt 32 (IntKind.i32.wrap (((d&&&7).toNat:Int)*2 ^ min (18:Int).toNat 32))|||BitVec.ofInt 32 (IntKind.i32.wrap (((a&&&63).toNat:Int)*2 ^ min (12:Int).toNat 32))).toNat:Int)))|||BitVec.ofInt 32 (IntKind.i32.wrap (((b&&&63).toNat:Int)*2 ^ min (6:Int).toNat 32))).toNat:Int)))|||BitVec.ofInt 32 ((c&&&63).toNat:Int)).toNat:Int)),4)
def quz:zt9:=fun e b c d a=>bif a then some (65533,1) else q4l e b c d
def q4k:zt8:=fun e d f a b=>bif decide (f<=3) then some (IntKind.i32.wrap (((BitVec.ofInt 32 (IntKind.i32.wrap (((BitVec.ofInt 32 (IntKind.i32.wrap (((d&&&15).toNat:Int)*2 ^ min (12:Int).toNat 32))|||BitVec.ofInt 32 (IntKind.i32.wrap (((a&&&63).toNat:Int)*2 ^ min (6:Int).toNat 32))).toNat:Int)))|||BitVec.ofInt 32 ((b&&&63).toNat:Int)).toNat:Int)),3) else(am e 3).bind fun c=>bif decide (c<128) then quz d a b c true else quz d a b c (decide (191<c))
def quy:zt7:=fun e d f a b c=>bif c then some (65533,1) else q4k e d f a b
def q4j:zt6:=fun d c e a=>bif decide (e<=2) then some (IntKind.i32.wrap (((BitVec.ofInt 32 (IntKind.i32.wrap (((c&&&31).toNat:Int)*2 ^ min (6:Int).toNat 32))|||BitVec.ofInt 32 ((a&&&63).toNat:Int)).toNat:Int)),2) else(am d 2).bind fun b=>bif decide (b<128) then quy d c e a b true else quy d c e a b (decide (191<b))
def qux:zt5:=fun d c e a b=>bif b then some (65533,1) else q4j d c e a
def quw(a:Bs):Option (Int×Int):=bif decide ((a.length:Int)<1) then some (65533,0) else(am a 0).bind fun d=>(qh8[d.toNat]?).bind fun b=>bif decide (240<=b) then(am a 0).bind fun f=>some (IntKind.i32.wrap (((BitVec.ofInt 32 (IntKind.i32.wrap (((BitVec.ofInt 32 (f.toNat:Int) &&& ~~~ BitVec.ofInt 32 (Int.fdiv (IntKind.i32.wrap ((b.toNat:Int)*2 ^ min (31:Int).toNat 32)) (2 ^ min (31:Int).toNat 32))).toNat:Int)))|||BitVec.ofInt 32 (IntKind.i32.wrap (((BitVec.ofInt 32 65533&&&BitVec.ofInt 32 (Int.fdiv (IntKind.i32.wrap ((b.toNat:Int)*2 ^ min (31:Int).toNat 32)) (2 ^ min (31:Int).toNat 32))).toNat:Int)))).toNat:Int)),1) else(qh9[(pa b (min (4:Int).toNat 8)).toNat]?).bind fun e=>bif decide ((a.length:Int)<((b&&&7).toNat:Int)) then some (65533,1) else(am a 1).bind fun c=>bif decide (c<e.1) then qux a d ((b&&&7).toNat:Int) c true else qux a d ((b&&&7).toNat:Int) c (decide (e.2<c))
abbrev q0e:=Bs->Bs->Int->Option (Int×Int)
def q4f(fu:Nat)(g:q0e):q0e:=fun a c d=>bif decide (0<d) then(am c 0).bind fun b=>bif decide (b<128) then some ((b.toNat:Int),1) else(quw a).bind fun e=>some e else(quw a).bind fun f=>some f
def quq(fu:Nat):Nat->q0e|0=>fun _ _ _=>none|n+1=>q4f fu (quq fu n)
def q4e(a:Bs):Option (Int×Int):=quq fu fu a a (a.length:Int)
abbrev zuk:=Bs->Int->Int->Option (Int×Int)
abbrev zuj:=Bs->Int->Int->Option (Int×Int)
abbrev q0f:=Bs->Int->Int->Int->Option (Int×Int)
def qun:zuk:=fun c b a=>bif decide (0<=a/\a<=b/\b<=(c.length:Int)) then(q4e fu (List.take (b.toNat-a.toNat) (List.drop a.toNat c))).bind fun d=>bif(af (a+d.2)) != b then some (65533,1) else some d else none
def qum:zuj:=fun b c a=>bif decide (a<0) then qun fu b c 0 else qun fu b c a
def q4d(e:q0f):q0f:=fun b c a d=>bif decide (d<=a) then(am b a).bind fun g=>(qur g).bind fun f=>bif f then qum fu b c a else e b c (af (a-1)) d else qum fu b c a
def qul(fu:Nat):Nat->q0f|0=>fun _ _ _ _=>none|n+1=>q4d fu (qul fu n)
def q4a(a:Bs):Option (Int×Int):=bif(a.length:Int)==0 then some (65533,0) else(am a (af ((a.length:Int)-1))).bind fun b=>bif decide ((b.toNat:Int)<128) then some ((b.toNat:Int),1) else qul fu fu a (a.length:Int) (af ((af ((a.length:Int)-1))-1)) (if 0>af ((a.length:Int)-4) then 0 else af ((a.length:Int)-4))
abbrev q0g:=Int->Bs->Nat->Option Bool
def q21(fu:Nat)(d:q0g):q0g:=fun c b a=>bif Nat.blt a (b.length) then bif(((d6 b a).1:Nat):Int)==c then some true else d c b (a+(d6 b a).2) else some false
def qr4(fu:Nat):Nat->q0g|0=>fun _ _ _=>none|n+1=>q21 fu (qr4 fu n)
def qr3(b:Bs)(a:Int):Option Bool:=qr4 fu fu a b 0
abbrev q0h:=Bs->Bs->Option (Bs)
def q29(d:q0h):q0h:=fun a b=>bif decide (0<(a.length:Int)) then(am a (af ((a.length:Int)-1))).bind fun e=>bif decide (128<=(e.toNat:Int)) then(q4a fu a).bind fun c=>(qr3 fu b c.1).bind fun f=>bif !f then some a else bif decide (0<=af ((a.length:Int)-c.2)/\af ((a.length:Int)-c.2)<=(a.length:Int)) then d (List.take (af ((a.length:Int)-c.2)).toNat a) b else none else(qr3 fu b (e.toNat:Int)).bind fun g=>bif !g then some a else bif decide (0<=af ((a.length:Int)-1)/\af ((a.length:Int)-1)<=(a.length:Int)) then d (List.take (af ((a.length:Int)-1)).toNat a) b else none else some a
def qr8(fu:Nat):Nat->q0h|0=>fun _ _=>none|n+1=>q29 fu (qr8 fu n)
def q28(b:Bs)(a:Bs):Option (Bs):=qr8 fu fu b a
abbrev zu0:=Bs->Bs->Option (Bs)
abbrev zuz:=Bs->Bs->Bool->Option (Bs)
abbrev zuy:=Bs->Bs->Option (Bs)
abbrev zux:=Bs->Bs->Bool->Option (Bs)
def q2z:zu0:=fun c b=>(q22 fu b).bind fun a=>bif decide (a.1.length=List.length (List.replicate 256 false))&&decide (a.1.length=256) then bif a.2 then(q24 fu c a.1).bind fun d=>some d.1 else(q28 fu c b).bind fun e=>some e else none
def qr1:zuz:=fun c b a=>bif a then(am b 0).bind fun d=>(q26 fu c d).bind fun e=>some e else q2z fu c b
def q2y:zuy:=fun b a=>bif(a.length:Int)==1 then(am a 0).bind fun c=>qr1 fu b a (decide (c<128)) else qr1 fu b a false
def qr0:zux:=fun b c a=>bif a then some b else q2y fu b c
def q2x(b:Bs)(a:Bs):Option (Bs):=bif(b.length:Int)==0 then qr0 fu b a true else qr0 fu b a (a==([]:Bs))
abbrev q0i:=Bs->Int->Bs->Option (Bs)
def q3w(fu:Nat)(d:q0i):q0i:=fun c a b=>bif decide (a<(c.length:Int)) then(am c a).bind fun h=>bif h==61 then bif decide (0<=af (a+1)/\af (a+1)<=(if(c.length:Int)<af (a+3) then(c.length:Int) else af (a+3))/\(if(c.length:Int)<af (a+3) then(c.length:Int) else af (a+3))<=(c.length:Int)) then(qah (List.take ((if(c.length:Int)<af (a+3) then(c.length:Int) else af (a+3)).toNat-(af (a+1)).toNat) (List.drop (af (a+1)).toNat c))).bind fun e=>bif e.2 then bif decide (List.length (b++([e.1]:Bs))<=bg) then d c (af ((af (a+2))+1)) (b++([e.1]:Bs)) else none else(am c a).bind fun g=>bif decide (List.length (b++([g]:Bs))<=bg) then d c (af (a+1)) (b++([g]:Bs)) else none else none else(am c a).bind fun f=>bif decide (List.length (b++([f]:Bs))<=bg) then d c (af (a+1)) (b++([f]:Bs)) else none else some b
def qtp(fu:Nat):Nat->q0i|0=>fun _ _ _=>none|n+1=>q3w fu (qtp fu n)
def q3v(a:Bs):Option (Bs):=qtp fu fu a 0 []
abbrev zve:=Bs->Int->Bs->Bs->(Int×Int)->Bs->Option ((Int×Int)×Bs)
abbrev zvd:=Bs->Int->Bs->(Int×Int)->Bs->Option ((Int×Int)×Bs)
abbrev zvc:=Bs->Int->(Int×Int)->Bs->Option ((Int×Int)×Bs)
abbrev qc5:=Bs->(Int×Int)->Bs->Option ((Int×Int)×Bs)
def qto(h:qc5):zve:=fun f b g e c a=>(q3v fu g).bind fun d=>bif decide (List.length (a++d)<=bg) then bif decide (List.length ((a++d)++e)<=bg) then bif decide (0<=b/\b<=(f.length:Int)) then h (List.drop b.toNat f) c ((a++d)++e) else none else none else none
def qtn(g:qc5):zvd:=fun f b c d e=>bif decide (0<=(c.length:Int)/\(c.length:Int)<=b/\b<=(f.length:Int)) then(q2x fu c ([32,9]:Bs)).bind fun a=>bif decide (0<List.length ([61]:Bs)) then(qry a ([61]:Bs)).bind fun h=>bif h then bif decide (0<=af ((a.length:Int)-1)/\af ((a.length:Int)-1)<=(a.length:Int)) then qto fu g f b (List.take (af ((a.length:Int)-1)).toNat a) [] d e else none else qto fu g f b a (List.take (b.toNat-(c.length:Int).toNat) (List.drop (c.length:Int).toNat f)) d e else none else none
def qtm(f:qc5):zvc:=fun d a b c=>bif decide (0<=a/\a<=(d.length:Int)) then bif decide (0<List.length ([10]:Bs)) then(qr2 (List.take a.toNat d) ([10]:Bs)).bind fun e=>bif decide ((e.length:Int)<a) then bif decide (0<List.length ([13]:Bs)) then(qr2 e ([13]:Bs)).bind fun g=>qtn fu f d a g b c else none else qtn fu f d a e b c else none else none
def q3u(d:qc5):qc5:=fun c b a=>bif decide (0<(c.length:Int)) then(qrz c 10).bind fun e=>bif(af (e+1))==0 then qtm fu d c (c.length:Int) b a else qtm fu d c (af (e+1)) b a else(ee).bind fun f=>some (f,a)
def qtl(fu:Nat):Nat->qc5|0=>fun _ _ _=>none|n+1=>q3u fu (qtl fu n)
def q3t(a:Bs):Option ((Int×Int)×Bs):=bif decide (48000<(a.length:Int)) then(ch 1 (-1)).bind fun b=>some (b,[]) else qtl fu fu a (0,0) []
def qug(a:Bs)(m:Bs):Option ((Int×Int)×Bs):=(q39 fu a m).bind fun q=>bq q (fun i=>(e9 i.2.1).bind fun p=>bif p then some (i.2.1,[]) else(q37 a).bind fun o=>some o) (fun k=>bq k (fun h=>(e9 h.2).bind fun f=>bif f then some (h.2,[]) else(q2r fu a).bind fun d=>some d) (fun l=>bq l (fun j=>(e9 j.2).bind fun b=>bif b then some (j.2,[]) else(q3t fu a).bind fun e=>some e) (fun g=>(e9 g.2).bind fun c=>bif c then some (g.2,[]) else none)))
abbrev q0j:=wV->Int->Int->wU->Option (Bs)
def q4n(e:q0j):q0j:=fun c d b a=>bif decide (b<d) then(am c b).bind fun g=>(ep fu g.1 ([67,111,110,116,101,110,116,45,84,114,97,110,115,102,101,114,45,69,110,99,111,100,105,110,103]:Bs)).bind fun h=>bif !h then e c d (af (b+1)) (Tree.node a.val a.kids) else(qug fu a.val.2 g.2).bind fun f=>bif f.1.1 != 18 then some f.2 else e c d (af (b+1)) (Tree.node a.val a.kids) else(qug fu a.val.2 ([55,98,105,116]:Bs)).bind fun i=>some i.2
def qu0(fu:Nat):Nat->q0j|0=>fun _ _ _ _=>none|n+1=>q4n fu (qu0 fu n)
def q4m(a:Tree (wV×Bs)):Option (Bs):=qu0 fu fu a.val.1 (a.val.1.length:Int) 0 (Tree.node a.val a.kids)
def qsa(b:Bs)(a:Int):Option (Bs×Int):=some (b,a)
abbrev zfg:=(Bs×Bool×Int) ⊕ ((Bs×Bool) ⊕ ((Bs×Bool) ⊕ (Bs×Bool)))
def q3a(a:Bs):Option zfg:=(qsa ([97,115,99,105,105]:Bs) 128).bind fun c=>(qsa ([108,97,116,105,110,49]:Bs) 256).bind fun b=>(ep fu c.1 a).bind fun f=>bif f then some (.inl (c.1,(true,c.2))) else(ep fu b.1 a).bind fun g=>bif g then some (.inl (b.1,(true,b.2))) else(ep fu ([117,116,102,56]:Bs) a).bind fun d=>bif d then some (.inr (.inl (([117,116,102,56]:Bs),true))) else(ep fu ([117,116,102,49,54,98,101]:Bs) a).bind fun e=>bif e then some (.inr (.inr (.inl (([117,116,102,49,54,98,101]:Bs),true)))) else some (.inr (.inr (.inr (([]:Bs),false))))
abbrev q0k:=Bs->Int->Int->Int->(List Int)->Option (Int×(List Int))
def q3d(fu:Nat)(g:q0k):q0k:=fun e d b c a=>bif decide (b<d) then(am e b).bind fun f=>bif decide (c<=(f.toNat:Int)) then bif decide (List.length (a++([65533]:List Int))<=bg) then g e d (af (b+1)) c (a++([65533]:List Int)) else none else bif decide (List.length (a++([(f.toNat:Int)]:List Int))<=bg) then g e d (af (b+1)) c (a++([(f.toNat:Int)]:List Int)) else none else some (c,a)
def qsb(fu:Nat):Nat->q0k|0=>fun _ _ _ _ _=>none|n+1=>q3d fu (qsb fu n)
def q3c(a:Bs)(b:Int):Option (Int×(List Int)):=qsb fu fu a (a.length:Int) 0 b []
def q3b(a:Bs):Option ((List Int)):=bif decide (a.length<=4294967296) then some (fg a) else none
def qsc(b:Int)(a:Bs):Option (Int×Bs):=(am a b).bind fun d=>(am a (af (b+1))).bind fun c=>some (IntKind.i32.wrap (((BitVec.ofInt 32 (IntKind.i32.wrap ((d.toNat:Int)*2 ^ min (8:Int).toNat 32))|||BitVec.ofInt 32 (c.toNat:Int)).toNat:Int)),a)
abbrev zv7:=Int->Int->Bs->(List Int)->Option ((List Int))
abbrev zv6:=Int->Int->Int->Bool->Bs->(List Int)->Option ((List Int))
abbrev zv5:=Int->Int->Bool->Bs->(List Int)->Option ((List Int))
abbrev qc6:=Int->Bs->(List Int)->Option ((List Int))
def qj4(fu:Nat)(e:qc6):zv7:=fun d c b a=>bif decide (55296<=c) then bif decide (c<57344) then bif decide (List.length (a++([65533]:List Int))<=bg) then e (af (d+2)) b (a++([65533]:List Int)) else none else bif decide (List.length (a++([c]:List Int))<=bg) then e (af (d+2)) b (a++([c]:List Int)) else none else bif decide (List.length (a++([c]:List Int))<=bg) then e (af (d+2)) b (a++([c]:List Int)) else none
def qse(f:qc6):zv6:=fun d e g c a b=>bif c then qj4 fu f (af (d+2)) (IntKind.i32.wrap ((IntKind.i32.wrap ((IntKind.i32.wrap (65536+(IntKind.i32.wrap ((IntKind.i32.wrap (e-55296))*2 ^ min (10:Int).toNat 32))))+g))-56320)) a b else qj4 fu f d e a b
def qj3(g:qc6):zv5:=fun d f e c a=>bif e then(qsc (af (d+2)) c).bind fun b=>bif decide (56320<=b.1) then qse fu g d f b.1 (decide (b.1<57344)) b.2 a else qse fu g d f b.1 false b.2 a else qj4 fu g d f c a
def q3f(e:qc6):qc6:=fun c d a=>bif decide (c<(d.length:Int)) then bif(af (c+1))==(d.length:Int) then bif decide (List.length (a++([65533]:List Int))<=bg) then some (a++([65533]:List Int)) else none else(qsc c d).bind fun b=>bif decide (55296<=b.1) then bif decide (b.1<56320) then qj3 fu e c b.1 (decide ((af (c+3))<(b.2.length:Int))) b.2 a else qj3 fu e c b.1 false b.2 a else qj3 fu e c b.1 false b.2 a else some a
def qsd(fu:Nat):Nat->qc6|0=>fun _ _ _=>none|n+1=>q3f fu (qsd fu n)
def q3e(a:Bs):Option ((List Int)):=qsd fu fu 0 a []
def qr9(r:Bs)(a:Bs):Option (Bs×(Int×Int)):=bif decide (12000<(a.length:Int)) then(ch 1 (-1)).bind fun p=>some (([]:Bs),p) else(q3a fu r).bind fun o=>bq o (fun i=>bif !i.2.1 then(ch 18 (-2)).bind fun k=>some (([]:Bs),k) else(q3c fu a i.2.2).bind fun s=>none) (fun j=>bq j (fun t=>bif !t.2 then(ch 18 (-2)).bind fun c=>some (([]:Bs),c) else(q3b a).bind fun h=>(ee).bind fun d=>some (mb h,d)) (fun q=>bq q (fun l=>bif !l.2 then(ch 18 (-2)).bind fun g=>some (([]:Bs),g) else(q3e fu a).bind fun f=>(ee).bind fun e=>some (mb f,e)) (fun m=>bif !m.2 then(ch 18 (-2)).bind fun b=>some (([]:Bs),b) else none)))
def qu3(a:Tree (wV×Bs)):Option (Bs):=(qaz fu (Tree.node a.val a.kids)).bind fun h=>(po fu h ([99,104,97,114,115,101,116]:Bs)).bind fun g=>(q4m fu (Tree.node a.val a.kids)).bind fun b=>(qr9 fu g.1 b).bind fun c=>bif c.2.1==18 then(qr9 fu ([117,116,102,56]:Bs) b).bind fun e=>(qaw e.1 ([13,10]:Bs) ([10]:Bs)).bind fun f=>some f else(qaw c.1 ([13,10]:Bs) ([10]:Bs)).bind fun d=>some d
def q4o(a:Tree (wV×Bs)):Option (Bs×(Int×Int)):=(qfw fu (Tree.node a.val a.kids)).bind fun d=>(e9 d).bind fun g=>bif g then some (([]:Bs),d) else(qu2 fu (Tree.node a.val a.kids) ([116,101,120,116]:Bs) ([112,108,97,105,110]:Bs)).bind fun c=>bif c.2 then(qu3 fu (Tree.node c.1.val c.1.kids)).bind fun h=>(ee).bind fun e=>some (h,e) else(qu2 fu (Tree.node a.val a.kids) ([116,101,120,116]:Bs) ([104,116,109,108]:Bs)).bind fun b=>bif b.2 then(qu3 fu (Tree.node b.1.val b.1.kids)).bind fun i=>none else(ee).bind fun f=>some (([]:Bs),f)
abbrev zwt:=wV->Int->Int->wU->Option (Bs×Bool)
abbrev qo6:=wV->Int->Int->wU->Option (Bs×Bool)
def ua(fu:Nat)(e:qo6):zwt:=fun d b c a=>e d b (af (c+1)) (Tree.node a.val a.kids)
def qu1(g:qo6):qo6:=fun d c b a=>bif decide (b<c) then(am d b).bind fun j=>(ep fu j.1 ([67,111,110,116,101,110,116,45,68,105,115,112,111,115,105,116,105,111,110]:Bs)).bind fun p=>bif !p then ua fu g d c b (Tree.node a.val a.kids) else bif decide (List.length ([120,47]:Bs)+j.2.length<=aq) then(qai fu (([120,47]:Bs)++j.2)).bind fun q=>bq q (fun h=>(e9 h.2.2).bind fun m=>bif m then ua fu g d c b (Tree.node a.val a.kids) else(po fu (h.1,(h.2.1,[])) ([102,105,108,101,110,97,109,101]:Bs)).bind fun k=>bif k.2.1 then some (k.1,true) else ua fu g d c b (Tree.node a.val a.kids)) (fun e=>(e9 (e.2.2.1,e.2.2.2.1)).bind fun o=>bif o then ua fu g d c b (Tree.node a.val a.kids) else(po fu (e.1,(e.2.1,e.2.2.2.2)) ([102,105,108,101,110,97,109,101]:Bs)).bind fun l=>bif l.2.1 then some (l.1,true) else ua fu g d c b (Tree.node a.val a.kids)) else none else(qaz fu (Tree.node a.val a.kids)).bind fun i=>(po fu i ([110,97,109,101]:Bs)).bind fun f=>some (f.1,f.2.1)
def qay(fu:Nat):Nat->qo6|0=>fun _ _ _ _=>none|n+1=>qu1 fu (qay fu n)
def qli(a:Tree (wV×Bs)):Option (Bs×Bool):=qay fu fu a.val.1 (a.val.1.length:Int) 0 (Tree.node a.val a.kids)
def qlh(f:Int)(e:List (Bs×Bs))(d:Bs)(c:List wU)(a:List Bs):Option ((List Bs)):=(qli fu (Tree.node (e,d) c)).bind fun b=>bif b.2 then bif(c.length:Int)==0 then bif decide (List.length (a++([b.1]:List Bs))<=bg) then some (a++([b.1]:List Bs)) else none else some a else some a
def qs5(d:Int)(e:List (Bs×Bs))(c:Bs)(b:List wU)(g:Int)(a:List Bs):Option ((List Bs)):=(qlh fu d e c b a).bind fun f=>some f
abbrev qo7:=wU->Int->Int->(List Bs)->Option (Int×(List Bs))
abbrev q0n:=Int->(List wU)->Int->Int->Int->(List Bs)->Option (Int×(List Bs))
def qtf(a:qo7)(fu:Nat)(j:q0n):q0n:=fun f d c b g e=>bif decide (b<c) then(am d b).bind fun i=>(a (Tree.node i.val i.kids) (af (f+1)) g e).bind fun h=>j f d c (af (b+1)) h.1 h.2 else some (g,e)
def qf0(a:qo7)(fu:Nat):Nat->q0n|0=>fun _ _ _ _ _ _=>none|n+1=>qtf a fu (qf0 a fu n)
def qkv(a:qo7)(fu:Nat)(b:Tree (wV×Bs))(d:Int)(c:Int)(e:List Bs):Option (Int×(List Bs)):=(qs5 fu c b.val.1 b.val.2 b.kids d e).bind fun f=>qf0 a fu fu d b.kids (b.kids.length:Int) 0 (af (c+1)) f
def qav(fu:Nat):Nat->qo7|0=>fun _ _ _ _=>none|n+1=>qkv (qav fu n) fu
def q3r(c:Tree (wV×Bs))(a:Int)(d:Int)(b:List Bs):Option (Int×(List Bs)):=qav fu fu c a d b
abbrev zfs:=wU×(List Bs)
def qtg(a:Tree (wV×Bs))(b:List Bs):Option zfs:=(q3r fu (Tree.node a.val a.kids) 0 0 b).bind fun c=>some ((Tree.node a.val a.kids),c.2)
abbrev zfm:=wU×(List Bs)
def qs6(a:Tree (wV×Bs))(c:List Bs):Option zfm:=(wm (Tree.node a.val a.kids)).bind fun b=>(qtg fu (Tree.node b.val b.kids) c).bind fun d=>some ((Tree.node a.val a.kids),d.2)
def qgb(a:Tree (wV×Bs)):Option ((Int×Int)×(List Bs)):=(qfw fu (Tree.node a.val a.kids)).bind fun c=>(e9 c).bind fun e=>bif e then some (c,[]) else(qkn (Tree.node a.val a.kids)).bind fun b=>(qs6 fu (Tree.node b.val b.kids) []).bind fun f=>(ee).bind fun d=>some (d,f.2)
abbrev q0o:=(List Bs)->(List Bs)->Int->Option Bool
def qqo(fu:Nat)(d:q0o):q0o:=fun b c a=>bif decide (a<(b.length:Int)) then(am b a).bind fun f=>(am c a).bind fun e=>bif !(f==e) then some false else d b c (af (a+1)) else some true
def qeb(fu:Nat):Nat->q0o|0=>fun _ _ _=>none|n+1=>qqo fu (qeb fu n)
def qea(b:List Bs)(a:List Bs):Option Bool:=bif(b.length:Int) != (a.length:Int) then some false else qeb fu fu b a 0
def qro:Option Bool:=bif decide (0<List.length ([97]:Bs)) then(q4o fu (Tree.node ([],([97]:Bs)) [])).bind fun b=>(qgb fu (Tree.node (([(([67,111,110,116,101,110,116,45,68,105,115,112,111,115,105,116,105,111,110]:Bs),([97,116,116,97,99,104,109,101,110,116,59,32,102,105,108,101,110,97,109,101,61,97,46,116,120,116]:Bs))]:List (Bs×Bs)),[]) [])).bind fun a=>bif b.2.1==0 then bif a.1.1==0 then bif b.1==([97]:Bs) then(qea fu a.2 ([([97,46,116,120,116]:Bs)]:List Bs)).bind fun c=>some c else some false else some false else some false else none
abbrev qlj:=(List wU)×(List Int)
abbrev qo8:=wU->Int->Option qlj
abbrev q0q:=Int->Int->wU->(List wU)->(List Int)->Option qlj
def qrg(b:qo8)(fu:Nat)(i:q0q):q0q:=fun g f a c d=>bif decide (f<(a.kids.length:Int)) then(am a.kids f).bind fun h=>(b (Tree.node h.val h.kids) (af (g+1))).bind fun e=>bif decide (List.length (c++e.1)<=bg) then bif decide (List.length (d++e.2)<=bg) then i g (af (f+1)) (Tree.node a.val a.kids) (c++e.1) (d++e.2) else none else none else some (c,d)
def qey(a:qo8)(fu:Nat):Nat->q0q|0=>fun _ _ _ _ _=>none|n+1=>qrg a fu (qey a fu n)
def qju(a:qo8)(fu:Nat)(b:Tree (wV×Bs))(c:Int):Option qlj:=qey a fu fu c 0 (Tree.node b.val b.kids) ([(Tree.node b.val b.kids)]:List wU) ([c]:List Int)
def z7(fu:Nat):Nat->qo8|0=>fun _ _=>none|n+1=>qju (z7 fu n) fu
def qjt(b:Tree (wV×Bs))(a:Int):Option qlj:=z7 fu fu b a
def gp(b:Int)(a:Int):Option ((Int×Int)):=some (b,a)
def fa(a:Int)(b:Int)(c:Int):Option Bool:=bif decide (b<=a) then some (decide (a<=c)) else some false
abbrev q0r:=Bs->Int->Option Bool
def qp3(fu:Nat)(d:q0r):q0r:=fun a b=>bif decide (b<(a.length:Int)) then(am a b).bind fun e=>(fa (e.toNat:Int) 33 126).bind fun f=>bif !f then some false else(am a b).bind fun c=>bif c==58 then some false else d a (af (b+1)) else(fa (a.length:Int) 1 60).bind fun g=>some g
def qdn(fu:Nat):Nat->q0r|0=>fun _ _=>none|n+1=>qp3 fu (qdn fu n)
def qi2(a:Bs):Option Bool:=qdn fu fu a 0
abbrev q0t:=UInt8->Bs->Int->Option Bool
def qjg(fu:Nat)(d:q0t):q0t:=fun c a b=>bif decide (b<(a.length:Int)) then(am a b).bind fun e=>bif e==c then some true else d c a (af (b+1)) else some false
def zo(fu:Nat):Nat->q0t|0=>fun _ _ _=>none|n+1=>qjg fu (zo fu n)
def tm(b:UInt8)(a:Bs):Option Bool:=zo fu fu b a 0
def rl(a:UInt8):Option Bool:=bif a==32 then some true else some (a==9)
abbrev zxz:=Bs->Option (Bs)
abbrev q0u:=Bs->Option (Bs)
abbrev zxy:=Bs->Bool->Option (Bs)
abbrev qii:=Bs->Option (Bs)
def qqt(fu:Nat)(b:qii):zxz:=fun a=>bif decide (0<=(1:Int)/\1<=(a.length:Int)) then b (List.drop (1:Int).toNat a) else none
def qqs(fu:Nat)(b:q0u):q0u:=fun a=>bif decide (0<(a.length:Int)) then(am a (af ((a.length:Int)-1))).bind fun c=>(rl c).bind fun d=>bif d then bif decide (0<=af ((a.length:Int)-1)/\af ((a.length:Int)-1)<=(a.length:Int)) then b (List.take (af ((a.length:Int)-1)).toNat a) else none else some a else some a
def qef(fu:Nat):Nat->q0u|0=>fun _=>none|n+1=>qqs fu (qef fu n)
def qee(c:qii):zxy:=fun b a=>bif a then qqt fu c b else qef fu fu b
def qqr(b:qii):qii:=fun a=>bif decide (0<(a.length:Int)) then(am a 0).bind fun c=>(rl c).bind fun d=>qee fu b a d else qee fu b a false
def qed(fu:Nat):Nat->qii|0=>fun _=>none|n+1=>qqr fu (qed fu n)
def qqq(a:Bs):Option (Bs):=qed fu fu a
abbrev q0v:=Bs->Int->Option Int
def qp2(c:q0v):q0v:=fun a b=>bif decide (b<(a.length:Int)) then(am a b).bind fun d=>(tm fu d ([13,10,0]:Bs)).bind fun e=>bif e then some 11 else c a (af (b+1)) else(qqq fu a).bind fun f=>bif !(f==a) then some 11 else some 0
def zb(fu:Nat):Nat->q0v|0=>fun _ _=>none|n+1=>qp2 fu (zb fu n)
def qdm(b:Bs)(a:Bs):Option Int:=(qi2 fu b).bind fun c=>bif !c then some 10 else bif decide (4000<(a.length:Int)) then some 1 else zb fu fu a 0
abbrev zyd:=Bs->Int->(List Int)->Option ((List Bs))
abbrev zyc:=Bs->Int->Bool->(List Int)->Option ((List Bs))
abbrev zyf:=Bs->Int->Int->Int->(List Int)->(List Bs)->Option ((List Bs))
abbrev zye:=Bs->Int->Int->Int->Int->Bool->(List Int)->(List Bs)->Option ((List Bs))
abbrev qik:=Bs->Int->Int->Int->(List Int)->(List Bs)->Option ((List Bs))
abbrev yz:=Bs->Int->(List Int)->(List Bs)->Option ((List Bs))
abbrev qij:=Bs->Int->(List Int)->Option ((List Bs))
def qja(fu:Nat)(d:qij):zyd:=fun b c a=>d b (af (c+1)) a
def qi9(e:qij):zyc:=fun d b c a=>bif c then bif decide (List.length (a++([b]:List Int))<=bg) then qja fu e d b (a++([b]:List Int)) else none else qja fu e d b a
def qjb(fu:Nat)(h:yz)(f:qik):zyf:=fun e g a b c d=>f e g a (af (b+1)) c d
def qdr(j:yz)(h:qik):zye:=fun g i d a f e b c=>bif e then qjb fu j h g i f a b c else qjb fu j h g i d a b c
def qp7(h:yz)(i:qik):qik:=fun f c a b d e=>bif decide (b<(d.length:Int)) then bif decide (0<=b/\b.toNat<d.length) then(d[b.toNat]?).bind fun g=>bif decide (c<g) then bif decide ((af (g-c))<=78) then qdr fu h i f c a b g true d e else qdr fu h i f c a b g (decide (a<0)) d e else qdr fu h i f c a b g false d e else none else bif decide (a<0) then bif decide (0<=c/\c<=(f.length:Int)) then bif decide (List.length (e++([List.drop c.toNat f]:List Bs))<=bg) then some (e++([List.drop c.toNat f]:List Bs)) else none else none else bif decide (0<=c/\c<=a/\a<=(f.length:Int)) then bif decide (List.length (e++([List.take (a.toNat-c.toNat) (List.drop c.toNat f)]:List Bs))<=bg) then h f a d (e++([List.take (a.toNat-c.toNat) (List.drop c.toNat f)]:List Bs)) else none else none
def vk(fu:Nat)(a:yz):Nat->qik|0=>fun _ _ _ _ _ _=>none|n+1=>qp7 fu a (vk fu a n)
def qi8(e:yz):yz:=fun c b d a=>bif decide (78<(af ((c.length:Int)-b))) then vk fu e fu c b (-1) 0 d a else bif decide (0<=b/\b<=(c.length:Int)) then bif decide (List.length (a++([List.drop b.toNat c]:List Bs))<=bg) then some (a++([List.drop b.toNat c]:List Bs)) else none else none
def rm(fu:Nat):Nat->yz|0=>fun _ _ _ _=>none|n+1=>qi8 fu (rm fu n)
def qi7(d:qij):qij:=fun b c a=>bif decide (c<(b.length:Int)) then(am b c).bind fun f=>(rl f).bind fun g=>bif g then(am b (af (c-1))).bind fun e=>(rl e).bind fun h=>qi9 fu d b c (!h) a else qi9 fu d b c false a else rm fu fu b 0 a []
def zd(fu:Nat):Nat->qij|0=>fun _ _ _=>none|n+1=>qi7 fu (zd fu n)
def qi6(a:Bs)(b:Bs):Option ((List Bs)):=bif decide (a.length+List.length ([58,32]:Bs)<=aq) then bif decide (List.length (a++([58,32]:Bs))+b.length<=aq) then zd fu fu ((a++([58,32]:Bs))++b) (af ((a.length:Int)+3)) [] else none else none
abbrev q0y:=Int->(Int×Int)->(List Bs)->Option ((Int×Int))
def qp6(fu:Nat)(d:q0y):q0y:=fun b c a=>bif decide (b<(a.length:Int)) then bif decide (0<=b/\b.toNat<a.length) then(a[b.toNat]?).bind fun f=>bif decide (998<(f.length:Int)) then(gp 1 b).bind fun e=>some e else d (af (b+1)) c a else none else some (0,0)
def qdq(fu:Nat):Nat->q0y|0=>fun _ _ _=>none|n+1=>qp6 fu (qdq fu n)
def qi5(b:Bs)(a:Bs):Option ((Int×Int)):=(qdm fu b a).bind fun e=>bif e != 0 then(qdm fu b a).bind fun c=>(gp c (-1)).bind fun d=>some d else(qi6 fu b a).bind fun f=>qdq fu fu 0 (0,0) f
abbrev q0z:=wV->Int->(Int×Int)->Option ((Int×Int))
def qp4(f:q0z):q0z:=fun b a c=>bif decide (a<(b.length:Int)) then(am b a).bind fun h=>(am b a).bind fun g=>(qi5 fu h.1 g.2).bind fun d=>bif d.1 != 0 then(gp d.1 a).bind fun e=>some e else f b (af (a+1)) c else some (0,0)
def qdo(fu:Nat):Nat->q0z|0=>fun _ _ _=>none|n+1=>qp4 fu (qdo fu n)
def qi3(a:List (Bs×Bs)):Option ((Int×Int)):=bif decide (60<(a.length:Int)) then(gp 2 (-1)).bind fun b=>some b else qdo fu fu a 0 (0,0)
abbrev q01:=Int->Bs->Option (Bs)
def qjd(fu:Nat)(c:q01):q01:=fun b a=>bif decide (b<(a.length:Int)) then bif decide (0<=b/\b.toNat<a.length) then(a[b.toNat]?).bind fun f=>(fa (f.toNat:Int) 65 90).bind fun d=>bif d then bif decide (0<=b/\b.toNat<a.length) then(a[b.toNat]?).bind fun e=>bif decide (0<=b/\b.toNat<a.length) then(a[b.toNat]?).bind fun g=>c (af (b+1)) (List.set a b.toNat (e+32)) else none else none else c (af (b+1)) a else none else some a
def zf(fu:Nat):Nat->q01|0=>fun _ _=>none|n+1=>qjd fu (zf fu n)
def ti(a:Bs):Option (Bs):=bif decide (a.length<=maxLen) then zf fu fu 0 a else none
def jf(c:Bs)(a:Bs):Option Bool:=(ti fu c).bind fun b=>(ti fu a).bind fun d=>some (b==d)
abbrev q03:=wV->Bs->Int->(List Bs)->Option ((List Bs))
def qqy(e:q03):q03:=fun c d b a=>bif decide (b<(c.length:Int)) then(am c b).bind fun h=>(jf fu h.1 d).bind fun g=>bif g then(am c b).bind fun f=>bif decide (List.length (a++([f.2]:List Bs))<=bg) then e c d (af (b+1)) (a++([f.2]:List Bs)) else none else e c d (af (b+1)) a else some a
def zt(fu:Nat):Nat->q03|0=>fun _ _ _ _=>none|n+1=>qqy fu (zt fu n)
def qej(b:List (Bs×Bs))(a:Bs):Option ((List Bs)):=zt fu fu b a 0 []
abbrev q04:=Bs->Int->Option Int
def qq4(fu:Nat)(c:q04):q04:=fun b a=>bif decide (a<(b.length:Int)) then(am b a).bind fun d=>(rl d).bind fun e=>bif e then c b (af (a+1)) else some a else some a
def qer(fu:Nat):Nat->q04|0=>fun _ _=>none|n+1=>qq4 fu (qer fu n)
def pm(b:Bs)(a:Int):Option Int:=qer fu fu b a
def zq(a:UInt8):Option Bool:=(fa (a.toNat:Int) 33 126).bind fun c=>bif c then(tm fu a ([40,41,60,62,64,44,59,58,92,34,47,91,93,63,61,42,37,39]:Bs)).bind fun b=>some (!b) else some false
abbrev q06:=Bs->Int->Bs->Option Int
def qq3(d:q06):q06:=fun b a c=>bif decide (a<(b.length:Int)) then(am b a).bind fun f=>(zq fu f).bind fun g=>bif g then d b (af (a+1)) c else(am b a).bind fun e=>(tm fu e c).bind fun h=>bif h then d b (af (a+1)) c else some a else some a
def qeq(fu:Nat):Nat->q06|0=>fun _ _ _=>none|n+1=>qq3 fu (qeq fu n)
def zw(b:Bs)(a:Int)(c:Bs):Option Int:=qeq fu fu b a c
abbrev q07:=Bs->Bs->Int->Option Int
def qp5(fu:Nat)(d:q07):q07:=fun c b a=>bif decide ((af (a+(b.length:Int)))<=(c.length:Int)) then bif decide (0<=a/\a<=af (a+(b.length:Int))/\af (a+(b.length:Int))<=(c.length:Int)) then bif(List.take ((af (a+(b.length:Int))).toNat-a.toNat) (List.drop a.toNat c))==b then some a else d c b (af (a+1)) else none else some (-1)
def qdp(fu:Nat):Nat->q07|0=>fun _ _ _=>none|n+1=>qp5 fu (qdp fu n)
def qi4(b:Bs)(a:Bs)(c:Int):Option Int:=qdp fu fu b a c
abbrev zzi:=Bs->Int->Int->Int->Int->Option Int
abbrev zzh:=Bs->Int->Int->Int->Int->Bool->Option Int
abbrev qil:=Bs->Int->Int->Int->Int->Option Int
def qq1(fu:Nat)(e:qil):zzi:=fun a c g d b=>(am a b).bind fun f=>e a c g (af ((af (10*d))+((f-48).toNat:Int))) (af (b+1))
def qen(f:qil):zzh:=fun d b g c e a=>bif a then some (-1) else qq1 fu f d b g c e
def qq0(f:qil):qil:=fun a c e d b=>bif decide (b<(a.length:Int)) then(am a b).bind fun g=>(fa (g.toNat:Int) 48 57).bind fun h=>bif !h then qen fu f a c e d b true else qen fu f a c e d b (decide (9<=b)) else(fa (a.length:Int) c e).bind fun i=>bif !i then some (-1) else some d
def qem(fu:Nat):Nat->qil|0=>fun _ _ _ _ _=>none|n+1=>qq0 fu (qem fu n)
def qel(b:Bs)(a:Int)(c:Int):Option Int:=qem fu fu b a c 0 0
abbrev zdq:=Int->Option (Bs)
def qjl(b:zdq)(fu:Nat)(a:Int):Option (Bs):=bif decide (a<10) then bif decide (0<=a/\a<=IntKind.u64.wrap (a+1)/\IntKind.u64.wrap (a+1)<=(List.length ([48,49,50,51,52,53,54,55,56,57]:Bs):Int)) then some (List.take ((IntKind.u64.wrap (a+1)).toNat-a.toNat) (List.drop a.toNat ([48,49,50,51,52,53,54,55,56,57]:Bs))) else none else(b (IntKind.u64.wrap (Int.tdiv a 10))).bind fun c=>bif decide (0<=Int.tmod a 10/\Int.tmod a 10<=IntKind.u64.wrap ((Int.tmod a 10)+1)/\IntKind.u64.wrap ((Int.tmod a 10)+1)<=(List.length ([48,49,50,51,52,53,54,55,56,57]:Bs):Int)) then bif decide (c.length+List.length (List.take ((IntKind.u64.wrap ((Int.tmod a 10)+1)).toNat-(Int.tmod a 10).toNat) (List.drop (Int.tmod a 10).toNat ([48,49,50,51,52,53,54,55,56,57]:Bs)))<=aq) then some (c++(List.take ((IntKind.u64.wrap ((Int.tmod a 10)+1)).toNat-(Int.tmod a 10).toNat) (List.drop (Int.tmod a 10).toNat ([48,49,50,51,52,53,54,55,56,57]:Bs)))) else none else none
def qek(fu:Nat):Nat->zdq|0=>fun _=>none|n+1=>qjl (qek fu n) fu
def qqz(a:Int):Option (Bs):=qek fu fu a
def tl(a:Int):Option (Bs):=bif decide (a<0) then(qqz fu (IntKind.u64.wrap ((IntKind.u64.wrap (af (0-(af (a+1)))))+1))).bind fun b=>bif decide (List.length ([45]:Bs)+b.length<=aq) then some (([45]:Bs)++b) else none else(qqz fu (IntKind.u64.wrap (a))).bind fun c=>some c
abbrev qu7:=(Bs×Bs×Int×Bool)×Bool
abbrev zzw:=Bs->(Bs×Bs×Int×Bool)->(Bs×Bs×Int×Bool)->Option qu7
abbrev zzv:=Bs->Bool->(Bs×Bs×Int×Bool)->(Bs×Bs×Int×Bool)->Option qu7
def zu:zzw:=fun c d a=>(qel fu c 1 9).bind fun b=>bif !(a.1==([]:Bs)) then bif decide (0<=b) then(tl fu b).bind fun e=>some ((a.1,(a.2.1,(b,a.2.2.2))),e==c) else some ((a.1,(a.2.1,(b,a.2.2.2))),false) else some ((a.1,(a.2.1,(b,a.2.2.2))),false)
def qeo:zzv:=fun b d c a=>bif d then bif decide (0<=af ((b.length:Int)-1)/\af ((b.length:Int)-1)<=(b.length:Int)) then zu fu (List.take (af ((b.length:Int)-1)).toNat b) c (a.1,(a.2.1,(a.2.2.1,true))) else none else zu fu b c a
def qjm(a:Bs)(c:Bs):Option qu7:=(qi4 fu a ([42]:Bs) 0).bind fun b=>bif decide (b<0) then some ((a,(c,((-1),false))),!(a==([]:Bs))) else bif decide (0<=af (b+1)/\af (b+1)<=(a.length:Int)) then bif decide (0<=b/\b<=(a.length:Int)) then bif decide (0<(List.length (List.drop (af (b+1)).toNat a):Int)) then(am (List.drop (af (b+1)).toNat a) (af ((List.length (List.drop (af (b+1)).toNat a):Int)-1))).bind fun d=>qeo fu (List.drop (af (b+1)).toNat a) (d==42) (([]:Bs),(([]:Bs),(0,false))) (List.take b.toNat a,(c,((-1),false))) else qeo fu (List.drop (af (b+1)).toNat a) false (([]:Bs),(([]:Bs),(0,false))) (List.take b.toNat a,(c,((-1),false))) else none else none
abbrev q09:=Bs->Int->Int->Int->Int->Int->Option (Int×Int)
abbrev zz4:=Bs->Int->Int->Int->Int->Option (Int×Int)
abbrev zz3:=Bs->Int->Int->Int->Int->Bool->Option (Int×Int)
abbrev zz2:=Bs->Int->Int->Int->Int->Option (Int×Int)
def qjk(fu:Nat)(h:q09):q09:=fun f d c b e a=>bif decide (a<c) then(am f (af (d+a))).bind fun g=>(fa (g.toNat:Int) 128 191).bind fun i=>bif !i then some ((-1),1) else h f d c (af ((af ((af (64*b))+(g.toNat:Int)))-128)) e (af (a+1)) else bif decide (b<e) then some ((-1),1) else bif decide (1114111<b) then some ((-1),1) else(fa b 55296 57343).bind fun j=>bif j then some ((-1),1) else some (b,c)
def rq(fu:Nat):Nat->q09|0=>fun _ _ _ _ _ _=>none|n+1=>qjk fu (rq fu n)
def q2p:zz4:=fun c a e d b=>rq fu fu c a e d b 1
def qd9:zz3:=fun d b f e c a=>bif a then some ((-1),1) else q2p fu d b f e c
def rp:zz2:=fun c b a e d=>bif a==0 then qd9 fu c b a e d true else qd9 fu c b a e d (decide ((c.length:Int)<(af (b+a))))
def qd8(b:Bs)(c:Int):Option (Int×Int):=(am b c).bind fun a=>bif decide ((a.toNat:Int)<128) then some ((a.toNat:Int),1) else(fa (a.toNat:Int) 192 223).bind fun d=>bif d then rp fu b c 2 (af ((a.toNat:Int)-192)) 128 else(fa (a.toNat:Int) 224 239).bind fun e=>bif e then rp fu b c 3 (af ((a.toNat:Int)-224)) 2048 else(fa (a.toNat:Int) 240 247).bind fun f=>bif f then rp fu b c 4 (af ((a.toNat:Int)-240)) 65536 else rp fu b c 0 0 0
abbrev z0a:=Int->Option (Bs)
abbrev zz9:=Int->Bool->Option (Bs)
def qqw:z0a:=fun a=>bif decide (a<128) then some ([fh a]:Bs) else bif decide (a<2048) then some ([fh (af (192+(af (Int.tdiv a 64)))),fh (af (128+(Int.tmod a 64)))]:Bs) else bif decide (a<65536) then some ([fh (af (224+(af (Int.tdiv a 4096)))),fh (af (128+(Int.tmod (af (Int.tdiv a 64)) 64))),fh (af (128+(Int.tmod a 64)))]:Bs) else some ([fh (af (240+(af (Int.tdiv a 262144)))),fh (af (128+(Int.tmod (af (Int.tdiv a 4096)) 64))),fh (af (128+(Int.tmod (af (Int.tdiv a 64)) 64))),fh (af (128+(Int.tmod a 64)))]:Bs)
def qqv:zz9:=fun b a=>bif a then qqw 65533 else qqw b
def qqu(a:Int):Option (Bs):=(fa a 0 1114111).bind fun c=>bif !c then qqv a true else(fa a 55296 57343).bind fun b=>qqv a b
abbrev q1b:=Bs->Bs->Bool->Int->Option (Bs)
def qq2(e:q1b):q1b:=fun c d g a=>bif decide (a<(c.length:Int)) then(qd8 fu c a).bind fun b=>bif decide (0<=b.1) then bif decide (0<=a/\a<=af (a+b.2)/\af (a+b.2)<=(c.length:Int)) then bif decide (d.length+List.length (List.take ((af (a+b.2)).toNat-a.toNat) (List.drop a.toNat c))<=aq) then e c (d++(List.take ((af (a+b.2)).toNat-a.toNat) (List.drop a.toNat c))) (decide (b.1<0)) (af (a+b.2)) else none else none else bif !g then(qqu (-1)).bind fun f=>bif decide (d.length+f.length<=aq) then e c (d++f) (decide (b.1<0)) (af (a+b.2)) else none else e c d (decide (b.1<0)) (af (a+b.2)) else some d
def qep(fu:Nat):Nat->q1b|0=>fun _ _ _ _=>none|n+1=>qq2 fu (qep fu n)
def qjn(a:Bs):Option (Bs):=qep fu fu a ([]:Bs) false 0
abbrev q1c:=UInt8->Int->Option Int
def qjc(d:q1c):q1c:=fun b a=>bif decide (a<16) then(am ([48,49,50,51,52,53,54,55,56,57,65,66,67,68,69,70]:Bs) a).bind fun e=>bif e==b then some a else(ti fu ([48,49,50,51,52,53,54,55,56,57,65,66,67,68,69,70]:Bs)).bind fun f=>(am f a).bind fun c=>bif c==b then some a else d b (af (a+1)) else some (-1)
def ze(fu:Nat):Nat->q1c|0=>fun _ _=>none|n+1=>qjc fu (ze fu n)
def vl(a:UInt8):Option Int:=ze fu fu a 0
abbrev z0l:=Bs->Bs->Int->Bool->Option (Bs)
abbrev qpb:=Bs->Bs->Int->Option (Bs)
def tn(f:qpb):z0l:=fun b c a d=>bif d then(am b (af (a+1))).bind fun i=>(vl fu i).bind fun g=>(am b (af (a+2))).bind fun h=>(vl fu h).bind fun e=>bif decide (c.length+List.length ([fh (af ((af (16*g))+e))]:Bs)<=aq) then f b (c++([fh (af ((af (16*g))+e))]:Bs)) (af ((af (a+2))+1)) else none else bif decide (0<=a/\a<=af (a+1)/\af (a+1)<=(b.length:Int)) then bif decide (c.length+List.length (List.take ((af (a+1)).toNat-a.toNat) (List.drop a.toNat b))<=aq) then f b (c++(List.take ((af (a+1)).toNat-a.toNat) (List.drop a.toNat b))) (af (a+1)) else none else none
def qq5(d:qpb):qpb:=fun a c b=>bif decide (b<(a.length:Int)) then(am a b).bind fun g=>bif g==37 then bif decide ((af (b+2))<(a.length:Int)) then(am a (af (b+1))).bind fun i=>(vl fu i).bind fun h=>bif decide (0<=h) then(am a (af (b+2))).bind fun e=>(vl fu e).bind fun f=>tn fu d a c b (decide (0<=f)) else tn fu d a c b false else tn fu d a c b false else tn fu d a c b false else some c
def zx(fu:Nat):Nat->qpb|0=>fun _ _ _=>none|n+1=>qq5 fu (zx fu n)
def qjo(a:Bs):Option (Bs):=zx fu fu a ([]:Bs) 0
abbrev dj:=(Bs×Bs×wV)×Bool
abbrev z1i:=Bs->Int->Bs->Bs->Bs->Bs->Bs->Bs->(List (Bs×Bs×Int×Bool))->Option dj
abbrev z1g:=Bs->Int->Bs->Bs->Bool->Bs->Bs->Bs->Bs->(List (Bs×Bs×Int×Bool))->Option dj
abbrev z1f:=Bs->Int->Bs->Bs->Bs->Bs->Bs->Bs->(List (Bs×Bs×Int×Bool))->Option dj
abbrev z1c:=Bs->Int->Bs->Bs->Bs->Bs->Bs->Bs->(List (Bs×Bs×Int×Bool))->Option dj
abbrev z1d:=Bs->Int->Bs->Bs->Bool->Bs->Bs->Bs->Bs->(List (Bs×Bs×Int×Bool))->Option dj
abbrev y4:=Bs->Int->Bs->Bs->Bs->Bs->Bs->Bs->(List (Bs×Bs×Int×Bool))->Option dj
abbrev z1r:=Bs->Int->Bs->Bs->Bool->Bs->Bs->Bs->Bs->(List (Bs×Bs×Int×Bool))->Option dj
abbrev z1q:=Bs->Int->Bs->Bs->Bs->Bs->Bs->(List (Bs×Bs×Int×Bool))->Option dj
abbrev z1p:=Bs->Int->Bs->Bool->Bs->Bs->Bs->Bs->(List (Bs×Bs×Int×Bool))->Option dj
abbrev z1h:=Int->Bool->Int->Bs->Bs->Bs->Bs->(List (Bs×Bs×Int×Bool))->wV->Option dj
abbrev z1e:=Int->Bool->Int->Int->Bs->Bs->Bs->Bs->(List (Bs×Bs×Int×Bool))->wV->Option dj
abbrev z1k:=Int->Int->Bs->Int->Int->Int->Bs->Bs->Bs->Bs->(List (Bs×Bs×Int×Bool))->wV->Option dj
abbrev z1j:=Int->Int->Bs->Int->Int->Int->Bool->Bs->Bs->Bs->Bs->(List (Bs×Bs×Int×Bool))->wV->Option dj
abbrev z1o:=Int->Int->Bs->Int->Bs->Bs->Bs->Bs->(List (Bs×Bs×Int×Bool))->wV->Option dj
abbrev z1m:=Int->Int->Bs->Int->Bs->Bs->Bs->Bs->Bs->(List (Bs×Bs×Int×Bool))->wV->Option dj
abbrev z1n:=Int->Int->Bs->Int->Bs->Bs->Bs->Bs->Bs->(List (Bs×Bs×Int×Bool))->wV->Option dj
abbrev z1l:=Int->Int->Bs->Int->Bs->Bool->Bs->Bs->Bs->Bs->(List (Bs×Bs×Int×Bool))->wV->Option dj
abbrev qio:=Int->Int->Bs->Int->Int->Int->Bs->Bs->Bs->Bs->(List (Bs×Bs×Int×Bool))->wV->Option dj
abbrev pd:=Int->Int->Bs->Int->Bs->Bs->Bs->Bs->(List (Bs×Bs×Int×Bool))->wV->Option dj
abbrev qpd:=Int->Bool->Int->Int->Bs->Bs->Bs->Bs->(List (Bs×Bs×Int×Bool))->wV->Option dj
abbrev qpc:=Int->Bool->Int->Bs->Bs->Bs->Bs->(List (Bs×Bs×Int×Bool))->wV->Option dj
abbrev gy:=Int->Bs->Bs->Bs->Bs->(List (Bs×Bs×Int×Bool))->wV->Option dj
abbrev mg:=Bs->Int->Bs->Bs->Bs->Bs->(List (Bs×Bs×Int×Bool))->Option dj
abbrev z1b:=Bs->Int->Bs->Bs->Bs->Bs->Option dj
abbrev z1a:=Bs->Int->Bool->Bs->Bs->Bs->Bs->Option dj
def qdw(fu:Nat)(k:mg)(j:y4):z1i:=fun f a i h e d b c g=>bif decide (0<=a/\a<=af (a+1)/\af (a+1)<=(f.length:Int)) then bif decide (h.length+List.length (List.take ((af (a+1)).toNat-a.toNat) (List.drop a.toNat f))<=aq) then j f (af (a+1)) i (h++(List.take ((af (a+1)).toNat-a.toNat) (List.drop a.toNat f))) e d b c g else none else none
def zk(g:mg)(k:y4):z1g:=fun i l j h e d c a b f=>bif e then qdw fu g k i (af (l+1)) j h d c a b f else qdw fu g k i l j h d c a b f
def qqg(k:mg)(j:y4):z1f:=fun f g i h d c a b e=>(am f g).bind fun l=>bif l==92 then zk fu k j f g i h (decide ((af (g+1))<(f.length:Int))) d c a b e else zk fu k j f g i h false d c a b e
def vt(h:mg):z1c:=fun g l j i d c a b e=>(qjm fu j i).bind fun f=>bif !f.2 then some ((([]:Bs),(([]:Bs),[])),false) else bif decide (List.length (e++([f.1]:List (Bs×Bs×Int×Bool)))<=bg) then(pm fu g l).bind fun k=>h g k d c a b (e++([f.1]:List (Bs×Bs×Int×Bool))) else none
def zj(k:mg)(l:y4):z1d:=fun g h j i e d c a b f=>bif e then qqg fu k l g h j i d c a b f else bif h==(g.length:Int) then some ((([]:Bs),(([]:Bs),[])),false) else vt fu k g (af (h+1)) j i d c a b f
def qje(k:mg)(j:y4):y4:=fun f g i h d c a b e=>bif decide (g<(f.length:Int)) then(am f g).bind fun l=>zj fu k j f g i h (l != 34) d c a b e else zj fu k j f g i h false d c a b e
def tj(fu:Nat)(a:mg):Nat->y4|0=>fun _ _ _ _ _ _ _ _ _=>none|n+1=>qje fu a (tj fu a n)
def qd1(j:mg):z1r:=fun f e k l g d c a b h=>bif g then tj fu j fu f (af (e+1)) k l d c a b h else(zw fu f e ([37,39,42]:Bs)).bind fun i=>bif decide (0<=e/\e<=i/\i<=(f.length:Int)) then vt fu j f i k (List.take (i.toNat-e.toNat) (List.drop e.toNat f)) d c a b h else none
def qqi(h:mg):z1q:=fun e j i d c a b f=>(pm fu e (af (j+1))).bind fun g=>bif decide (g<(e.length:Int)) then(am e g).bind fun k=>qd1 fu h e g i ([]:Bs) (k==34) d c a b f else qd1 fu h e g i ([]:Bs) false d c a b f
def qdz(i:mg):z1p:=fun g j h e d c a b f=>bif e then some ((([]:Bs),(([]:Bs),[])),false) else qqi fu i g j h d c a b f
def qdv(fu:Nat)(k:gy)(j:qpc):z1h:=fun f e g d c a b i h=>j f e (af (g+1)) d c a b i h
def qdu(fu:Nat)(l:gy)(k:qpd):z1e:=fun g e i f d c a b j h=>k g e i (af (f+1)) d c a b j h
def zm(fu:Nat)(p:gy)(o:pd)(k:qio):z1k:=fun h l i e g f d c a b m j=>k h l i e g (af (f+1)) d c a b m j
def qdx(q:gy)(h:pd)(l:qio):z1j:=fun i m j f p e g d c a b o k=>bif g then zm fu q h l i m j f e e d c a b o k else zm fu q h l i m j f p e d c a b o k
def qqh(fu:Nat)(l:gy)(f:pd):z1o:=fun g j h e d c a b k i=>f g j h (af (e+1)) d c a b k i
def zn(m:gy)(h:pd):z1m:=fun i k f g e d c a b l j=>bif decide (f.length+e.length<=aq) then qqh fu m h i k (f++e) g d c a b l j else none
def qdy(m:gy)(g:pd):z1n:=fun h k i f e d c a b l j=>(qjo fu e).bind fun o=>zn fu m g h k i f o d c a b l j
def pi(o:gy)(g:pd):z1l:=fun h k i f e l d c a b m j=>bif l then bif decide (0<=(6:Int)/\6<=(e.length:Int)) then qdy fu o g h k i f (List.drop (6:Int).toNat e) d c a b m j else none else qdy fu o g h k i f e d c a b m j
def vp(p:gy)(k:pd)(q:qio):qio:=fun g m l i f h e b c d a j=>bif decide (h<(a.length:Int)) then bif decide (0<=g/\g.toNat<a.length) then(a[g.toNat]?).bind fun w=>bif decide (0<=h/\h.toNat<a.length) then(a[h.toNat]?).bind fun v=>(jf fu w.1 v.1).bind fun u=>bif u then bif decide (0<=h/\h.toNat<a.length) then(a[h.toNat]?).bind fun r=>qdx fu p k q g m l i f h (r.2.2.1==i) e b c d a j else none else qdx fu p k q g m l i f h false e b c d a j else none else none else bif decide (f<0) then some ((([]:Bs),(([]:Bs),[])),false) else bif decide (0<=f/\f.toNat<a.length) then(a[f.toNat]?).bind fun o=>bif decide (0<=f/\f.toNat<a.length) then(a[f.toNat]?).bind fun t=>bif t.2.2.2 then bif i==0 then bif decide (6<=(o.2.1.length:Int)) then bif decide (0<=(6:Int)/\6<=(o.2.1.length:Int)) then(ti fu (List.take (6:Int).toNat o.2.1)).bind fun s=>pi fu p k g m l i o.2.1 (s==([117,116,102,56,39,39]:Bs)) e b c d a j else none else pi fu p k g m l i o.2.1 false e b c d a j else pi fu p k g m l i o.2.1 false e b c d a j else zn fu p k g m l i o.2.1 e b c d a j else none else none
def ju(fu:Nat)(b:gy)(a:pd):Nat->qio|0=>fun _ _ _ _ _ _ _ _ _ _ _ _=>none|n+1=>vp fu b a (ju fu b a n)
def vo(l:gy)(k:pd):pd:=fun c j i h e d a b f g=>bif decide (h<j) then ju fu l k fu c j i h (-1) 0 e d a b f g else bif decide (0<=c/\c.toNat<f.length) then(f[c.toNat]?).bind fun o=>(qjn fu i).bind fun m=>bif decide (List.length (g++([(o.1,m)]:List (Bs×Bs)))<=bg) then l (af (c+1)) e d a b f (g++([(o.1,m)]:List (Bs×Bs))) else none else none
def lj(fu:Nat)(a:gy):Nat->pd|0=>fun _ _ _ _ _ _ _ _ _ _=>none|n+1=>vo fu a (lj fu a n)
def zi(k:gy)(m:qpd):qpd:=fun a j i h f c d e b g=>bif decide (h<(b.length:Int)) then bif decide (0<=a/\a.toNat<b.length) then(b[a.toNat]?).bind fun s=>bif decide (0<=h/\h.toNat<b.length) then(b[h.toNat]?).bind fun r=>(jf fu s.1 r.1).bind fun q=>bif q then qdu fu k m a j (af (i+1)) h f c d e b g else qdu fu k m a j i h f c d e b g else none else none else bif j then k (af (a+1)) f c d e b g else bif decide (0<=a/\a.toNat<b.length) then(b[a.toNat]?).bind fun p=>bif decide (p.2.2.1<0) then bif i != 1 then some ((([]:Bs),(([]:Bs),[])),false) else bif decide (0<=a/\a.toNat<b.length) then(b[a.toNat]?).bind fun l=>bif decide (0<=a/\a.toNat<b.length) then(b[a.toNat]?).bind fun o=>bif decide (List.length (g++([(l.1,o.2.1)]:List (Bs×Bs)))<=bg) then k (af (a+1)) f c d e b (g++([(l.1,o.2.1)]:List (Bs×Bs))) else none else none else none else lj fu k fu a i ([]:Bs) 0 f c d e b g else none
def pl(fu:Nat)(a:gy):Nat->qpd|0=>fun _ _ _ _ _ _ _ _ _ _=>none|n+1=>zi fu a (pl fu a n)
def qqe(j:gy)(k:qpc):qpc:=fun c i g e d a b f h=>bif decide (g<c) then bif i then qdv fu j k c true g e d a b f h else bif decide (0<=c/\c.toNat<f.length) then(f[c.toNat]?).bind fun o=>bif decide (0<=g/\g.toNat<f.length) then(f[g.toNat]?).bind fun m=>(jf fu o.1 m.1).bind fun l=>qdv fu j k c l g e d a b f h else none else none else pl fu j fu c i 0 0 e d a b f h
def qd0(fu:Nat)(a:gy):Nat->qpc|0=>fun _ _ _ _ _ _ _ _ _=>none|n+1=>qqe fu a (qd0 fu a n)
def qqd(h:gy):gy:=fun e d c a b g f=>bif decide (e<(g.length:Int)) then qd0 fu h fu e false 0 d c a b g f else some ((a,(b,f)),true)
def mi(fu:Nat):Nat->gy|0=>fun _ _ _ _ _ _ _=>none|n+1=>qqd fu (mi fu n)
def qqc(k:mg):mg:=fun e j d c a b g=>bif decide (j<(e.length:Int)) then(am e j).bind fun m=>bif m != 59 then some ((([]:Bs),(([]:Bs),[])),false) else(pm fu e (af (j+1))).bind fun f=>(zw fu e f ([42]:Bs)).bind fun h=>bif decide (0<=f/\f<=h/\h<=(e.length:Int)) then(pm fu e h).bind fun i=>bif i==(e.length:Int) then qdz fu k e i (List.take (h.toNat-f.toNat) (List.drop f.toNat e)) true d c a b g else(am e i).bind fun l=>qdz fu k e i (List.take (h.toNat-f.toNat) (List.drop f.toNat e)) (l != 61) d c a b g else none else mi fu fu 0 d c a b g []
def zl(fu:Nat):Nat->mg|0=>fun _ _ _ _ _ _ _=>none|n+1=>qqc fu (zl fu n)
def qqf:z1b:=fun b i d c a g=>(pm fu b (af (i+1))).bind fun e=>(zw fu b e ([]:Bs)).bind fun f=>bif decide (0<=e/\e<=f/\f<=(b.length:Int)) then bif(List.take (f.toNat-e.toNat) (List.drop e.toNat b))==([]:Bs) then some ((([]:Bs),(([]:Bs),[])),false) else(pm fu b f).bind fun h=>zl fu fu b h d c a (List.take (f.toNat-e.toNat) (List.drop e.toNat b)) [] else none
def vq:z1a:=fun f g e d c a b=>bif e then some ((([]:Bs),(([]:Bs),[])),false) else qqf fu f g d c a b
def zh(a:Bs):Option dj:=(pm fu a 0).bind fun b=>(zw fu a b ([]:Bs)).bind fun c=>bif decide (0<=b/\b<=c/\c<=(a.length:Int)) then(pm fu a c).bind fun d=>bif(List.take (c.toNat-b.toNat) (List.drop b.toNat a))==([]:Bs) then vq fu a d true ([]:Bs) ([]:Bs) (List.take (c.toNat-b.toNat) (List.drop b.toNat a)) ([]:Bs) else bif d==(a.length:Int) then vq fu a d true ([]:Bs) ([]:Bs) (List.take (c.toNat-b.toNat) (List.drop b.toNat a)) ([]:Bs) else(am a d).bind fun e=>vq fu a d (e != 47) ([]:Bs) ([]:Bs) (List.take (c.toNat-b.toNat) (List.drop b.toNat a)) ([]:Bs) else none
abbrev q1d:=Bs->Int->Option Bool
def qqp(c:q1d):q1d:=fun a b=>bif decide (b<(a.length:Int)) then(am a b).bind fun d=>(zq fu d).bind fun e=>bif !e then some false else c a (af (b+1)) else(fa (a.length:Int) 1 60).bind fun f=>some f
def qec(fu:Nat):Nat->q1d|0=>fun _ _=>none|n+1=>qqp fu (qec fu n)
def vz(a:Bs):Option Bool:=qec fu fu a 0
abbrev q1e:=Bs->Int->Option Bool
def qqx(d:q1e):q1e:=fun b a=>bif decide (a<(b.length:Int)) then(qd8 fu b a).bind fun c=>bif decide (c.1<0) then some false else d b (af (a+c.2)) else some true
def qei(fu:Nat):Nat->q1e|0=>fun _ _=>none|n+1=>qqx fu (qei fu n)
def qeh(a:Bs):Option Bool:=qei fu fu a 0
abbrev q1f:=Int->Int->(Bs×Bs×wV)->(Int×Int)->(Bs×Bs)->Option ((Int×Int))
abbrev z2b:=Int->(Bs×Bs×wV)->(Int×Int)->(Bs×Bs)->Option ((Int×Int))
abbrev z2a:=Int->Bool->(Bs×Bs×wV)->(Int×Int)->(Bs×Bs)->Option ((Int×Int))
abbrev y5:=Int->(Bs×Bs×wV)->(Int×Int)->Option ((Int×Int))
abbrev z19:=(Bs×Bs×wV)->(Int×Int)->Option ((Int×Int))
abbrev z18:=Bool->(Bs×Bs×wV)->(Int×Int)->Option ((Int×Int))
def qp9(k:y5)(f:q1f):q1f:=fun c e b d a=>bif decide (e<c) then(am b.2.2 e).bind fun m=>(jf fu m.1 a.1).bind fun i=>bif i then(gp 7 c).bind fun j=>some j else f c (af (e+1)) b d a else bif decide (500<(a.2.length:Int)) then(gp 1 c).bind fun l=>some l else(qeh fu a.2).bind fun g=>bif !g then(gp 5 c).bind fun h=>some h else k (af (c+1)) b d
def qdt(fu:Nat)(a:y5):Nat->q1f|0=>fun _ _ _ _ _=>none|n+1=>qp9 fu a (qdt fu a n)
def qqb(e:y5):z2b:=fun d a b c=>qdt fu e fu d 0 a b c
def vn(f:y5):z2a:=fun e b a c d=>bif b then(gp 10 e).bind fun g=>some g else qqb fu f e a c d
def qp8(e:y5):y5:=fun c a b=>bif decide (c<(a.2.2.length:Int)) then(am a.2.2 c).bind fun d=>(vz fu d.1).bind fun f=>bif !f then vn fu e c true a b d else vn fu e c (decide (20<(d.1.length:Int))) a b d else some (0,0)
def vm(fu:Nat):Nat->y5|0=>fun _ _ _=>none|n+1=>qp8 fu (vm fu n)
def qqa:z19:=fun a b=>bif decide (60<(a.2.2.length:Int)) then(gp 2 (-3)).bind fun c=>some c else vm fu fu 0 a b
def zg:z18:=fun c a b=>bif c then(gp 10 (-2)).bind fun d=>some d else qqa fu a b
def qds(a:Bs×Bs×wV):Option ((Int×Int)):=(vz fu a.1).bind fun b=>bif !b then zg fu true a (0,0) else(vz fu a.2.1).bind fun c=>zg fu (!c) a (0,0)
abbrev qu8:=(Bs×Bs×wV)×Bool
abbrev z2g:=Bs->Bs->(List Bs)->Option qu8
abbrev z2f:=Bool->Bs->Bs->(List Bs)->Option qu8
def qrn:z2g:=fun c b a=>bif decide (0<=(0:Int)/\(0:Int).toNat<a.length) then(a[(0:Int).toNat]?).bind fun f=>(zh fu f).bind fun d=>bif !d.2 then some ((([]:Bs),(([]:Bs),[])),false) else(qds fu d.1).bind fun e=>bif e.1 != 0 then some ((([]:Bs),(([]:Bs),[])),false) else some (d.1,true) else none
def qjx:z2f:=fun d b a c=>bif d then some ((([]:Bs),(([]:Bs),[])),false) else qrn fu b a c
def qab(b:List (Bs×Bs)):Option qu8:=(qej fu b ([99,111,110,116,101,110,116,45,116,121,112,101]:Bs)).bind fun a=>bif(a.length:Int) != 1 then qjx fu true ([]:Bs) ([]:Bs) a else bif decide (0<=(0:Int)/\(0:Int).toNat<a.length) then(a[(0:Int).toNat]?).bind fun c=>qjx fu (decide (4000<(c.length:Int))) ([]:Bs) ([]:Bs) a else none
abbrev q1j:=Bs->Int->(Bs×Bs×wV)->Option (Bs×Bool)
def qqk(d:q1j):q1j:=fun c b a=>bif decide (b<(a.2.2.length:Int)) then(am a.2.2 b).bind fun g=>(jf fu g.1 c).bind fun e=>bif e then(am a.2.2 b).bind fun f=>some (f.2,true) else d c (af (b+1)) a else some (([]:Bs),false)
def qd3(fu:Nat):Nat->q1j|0=>fun _ _ _=>none|n+1=>qqk fu (qd3 fu n)
def vv(b:Bs×Bs×wV)(a:Bs):Option (Bs×Bool):=qd3 fu fu a 0 b
def za(a:Bs)(b:Int):Option Bool:=bif decide ((af (b+1))<(a.length:Int)) then(am a b).bind fun d=>bif d==13 then(am a (af (b+1))).bind fun c=>some (c==10) else some false else some false
abbrev z2p:=Bs->Int->Int->Bool->(Int×Int)->Option ((Int×Int))
abbrev qpf:=Bs->Int->Int->(Int×Int)->Option ((Int×Int))
def qjq(fu:Nat)(f:qpf):z2p:=fun e c d b a=>bif b then(gp 11 (-5)).bind fun h=>some h else bif decide (998<=(af (d-c))) then(gp 1 (-6)).bind fun g=>some g else f e c (af (d+1)) a
def qq9(d:qpf):qpf:=fun c e a b=>bif decide (a<(c.length:Int)) then(za c a).bind fun h=>bif h then d c (af ((af (a+1))+1)) (af ((af (a+1))+1)) b else(am c a).bind fun f=>bif f==13 then qjq fu d c e a true b else(am c a).bind fun g=>qjq fu d c e a (g==10) b else some (0,0)
def qeu(fu:Nat):Nat->qpf|0=>fun _ _ _ _=>none|n+1=>qq9 fu (qeu fu n)
def qq8(a:Bs):Option ((Int×Int)):=qeu fu fu a 0 0 (0,0)
abbrev q1k:=Bs->Bool->Int->Option (Bs×Bool)
abbrev z2w:=(Bs×Bs×wV)->Option (Bs×Bool)
abbrev z2v:=Bool->(Bs×Bs×wV)->Option (Bs×Bool)
def qq6(fu:Nat)(h:q1k):q1k:=fun a c b=>bif decide (b<(a.length:Int)) then(am a b).bind fun e=>(fa (e.toNat:Int) 32 126).bind fun f=>bif !f then some (([]:Bs),false) else h a c (af (b+1)) else bif c then(fa (a.length:Int) 1 60).bind fun g=>bif g then(am a (af ((a.length:Int)-1))).bind fun d=>some (a,d != 32) else some (a,false) else some (a,false)
def qet(fu:Nat):Nat->q1k|0=>fun _ _ _=>none|n+1=>qq6 fu (qet fu n)
def qq7:z2w:=fun a=>(vv fu a ([98,111,117,110,100,97,114,121]:Bs)).bind fun b=>qet fu fu b.1 b.2 0
def qes:z2v:=fun a b=>bif a then some (([]:Bs),false) else qq7 fu b
def qjp(b:List (Bs×Bs)):Option (Bs×Bool):=(qab fu b).bind fun a=>bif !a.2 then qes fu true a.1 else(jf fu a.1.1 ([109,117,108,116,105,112,97,114,116]:Bs)).bind fun c=>qes fu (!c) a.1
abbrev z27:=Bs->Bs->Int->Option Int
abbrev z26:=Bs->Bs->Int->Bool->Option Int
abbrev qip:=Bs->Bs->Int->Option Int
def qrj(fu:Nat)(d:qip):z27:=fun c a b=>d c a (af (b-1))
def qaa(e:qip):z26:=fun c b a d=>bif d then qrj fu e c b a else bif decide (0<=a/\a<=(c.length:Int)) then bif decide (List.length ([45,45]:Bs)+b.length<=aq) then bif(List.take a.toNat c)==(([45,45]:Bs)++b) then some 1 else bif decide (0<=a/\a<=(c.length:Int)) then bif decide (List.length ([45,45]:Bs)+b.length<=aq) then bif decide (List.length (([45,45]:Bs)++b)+List.length ([45,45]:Bs)<=aq) then bif(List.take a.toNat c)==((([45,45]:Bs)++b)++([45,45]:Bs)) then some 2 else some 0 else none else none else none else none else none
def qri(d:qip):qip:=fun b c a=>bif decide (0<a) then(am b (af (a-1))).bind fun e=>(rl e).bind fun f=>qaa fu d b c a f else qaa fu d b c a false
def z8(fu:Nat):Nat->qip|0=>fun _ _ _=>none|n+1=>qri fu (z8 fu n)
def qrh(a:Bs)(b:Bs):Option Int:=z8 fu fu a b (a.length:Int)
abbrev z3h:=Bs->Bs->Int->Int->Int->(List Bs)->Option ((List Bs))
abbrev z3k:=Bs->Bs->Int->Int->Int->(List Bs)->Option ((List Bs))
abbrev z3j:=Bs->Bs->Int->Int->(List Bs)->Option ((List Bs))
abbrev z3l:=Bs->Bs->Int->Int->Int->Int->(List Bs)->Option ((List Bs))
abbrev z3i:=Bs->Bs->Int->Int->Int->Int->(List Bs)->Option ((List Bs))
abbrev z3g:=Bs->Bs->Int->Int->Int->Bool->(List Bs)->Option ((List Bs))
abbrev qiq:=Bs->Bs->Int->Int->Int->(List Bs)->Option ((List Bs))
abbrev pf:=Bs->Bs->Int->Int->(List Bs)->Option ((List Bs))
def qrd(fu:Nat)(h:pf)(g:qiq):z3h:=fun e b c d f a=>g e b c d (af (f+1)) a
def zy(fu:Nat)(g:pf):z3k:=fun f c d e b a=>bif b==2 then some a else g f c d e a
def v7(f:pf):z3j:=fun e d c a b=>zy fu f e d c c a b
def v8(h:pf):z3l:=fun d f b g e a c=>bif decide (0<=b/\b<=a/\a<=(d.length:Int)) then bif decide (List.length (c++([List.take (a.toNat-b.toNat) (List.drop b.toNat d)]:List Bs))<=bg) then v7 fu h d f g e (c++([List.take (a.toNat-b.toNat) (List.drop b.toNat d)]:List Bs)) else none else none
def qex(h:pf):z3i:=fun d e b c i g a=>bif decide (0<=c/\c<=i/\i<=(d.length:Int)) then(qrh fu (List.take (i.toNat-c.toNat) (List.drop c.toNat d)) e).bind fun f=>bif decide (0<f) then bif decide (0<=b) then bif decide ((af (c-2))<b) then v8 fu h d e b g f b a else v8 fu h d e b g f (af (c-2)) a else v7 fu h d e g f a else zy fu h d e b g f a else none
def qew(h:pf)(i:qiq):z3g:=fun c d e g b f a=>bif f then qrd fu h i c d e g b a else bif b==(c.length:Int) then qex fu h c d e g b b a else qex fu h c d e g b (af (b+2)) a
def qrc(h:pf)(g:qiq):qiq:=fun b d e f c a=>bif decide (c<(b.length:Int)) then(za b c).bind fun i=>qew fu h g b d e f c (!i) a else qew fu h g b d e f c false a
def qev(fu:Nat)(a:pf):Nat->qiq|0=>fun _ _ _ _ _ _=>none|n+1=>qrc fu a (qev fu a n)
def qrb(f:pf):pf:=fun c e b d a=>bif decide (d<(c.length:Int)) then qev fu f fu c e b d d a else bif decide (0<=b) then bif decide (0<=b/\b<=(c.length:Int)) then bif decide (List.length (a++([List.drop b.toNat c]:List Bs))<=bg) then some (a++([List.drop b.toNat c]:List Bs)) else none else none else some a
def tp(fu:Nat):Nat->pf|0=>fun _ _ _ _ _=>none|n+1=>qrb fu (tp fu n)
def qra(b:Bs)(a:Bs):Option ((List Bs)):=tp fu fu b a (-1) 0 []
abbrev z3q:=Bs->Bs->Int->Bool->Option (Bs)
abbrev qpi:=Bs->Bs->Int->Option (Bs)
def vy(fu:Nat)(e:qpi):z3q:=fun b c a d=>bif d then bif decide (c.length+List.length ([92]:Bs)<=aq) then bif decide (0<=a/\a<=af (a+1)/\af (a+1)<=(b.length:Int)) then bif decide (List.length (c++([92]:Bs))+List.length (List.take ((af (a+1)).toNat-a.toNat) (List.drop a.toNat b))<=aq) then e b ((c++([92]:Bs))++(List.take ((af (a+1)).toNat-a.toNat) (List.drop a.toNat b))) (af (a+1)) else none else none else none else bif decide (0<=a/\a<=af (a+1)/\af (a+1)<=(b.length:Int)) then bif decide (c.length+List.length (List.take ((af (a+1)).toNat-a.toNat) (List.drop a.toNat b))<=aq) then e b (c++(List.take ((af (a+1)).toNat-a.toNat) (List.drop a.toNat b))) (af (a+1)) else none else none
def qqn(d:qpi):qpi:=fun a c b=>bif decide (b<(a.length:Int)) then(am a b).bind fun e=>bif e==34 then vy fu d a c b true else(am a b).bind fun f=>vy fu d a c b (f==92) else bif decide (c.length+List.length ([34]:Bs)<=aq) then some (c++([34]:Bs)) else none
def vx(fu:Nat):Nat->qpi|0=>fun _ _ _=>none|n+1=>qqn fu (vx fu n)
def qjj(a:Bs):Option (Bs):=vx fu fu a ([34]:Bs) 0
def qeg(a:UInt8):Option (Bs):=bif decide (0<=((a/16).toNat:Int)/\((a/16).toNat:Int)<=(((a/16)+1).toNat:Int)/\(((a/16)+1).toNat:Int)<=(List.length ([48,49,50,51,52,53,54,55,56,57,65,66,67,68,69,70]:Bs):Int)) then bif decide (0<=((a%16).toNat:Int)/\((a%16).toNat:Int)<=(((a%16)+1).toNat:Int)/\(((a%16)+1).toNat:Int)<=(List.length ([48,49,50,51,52,53,54,55,56,57,65,66,67,68,69,70]:Bs):Int)) then bif decide (List.length (List.take ((((a/16)+1).toNat:Int).toNat-((a/16).toNat:Int).toNat) (List.drop ((a/16).toNat:Int).toNat ([48,49,50,51,52,53,54,55,56,57,65,66,67,68,69,70]:Bs)))+List.length (List.take ((((a%16)+1).toNat:Int).toNat-((a%16).toNat:Int).toNat) (List.drop ((a%16).toNat:Int).toNat ([48,49,50,51,52,53,54,55,56,57,65,66,67,68,69,70]:Bs)))<=aq) then some ((List.take ((((a/16)+1).toNat:Int).toNat-((a/16).toNat:Int).toNat) (List.drop ((a/16).toNat:Int).toNat ([48,49,50,51,52,53,54,55,56,57,65,66,67,68,69,70]:Bs)))++(List.take ((((a%16)+1).toNat:Int).toNat-((a%16).toNat:Int).toNat) (List.drop ((a%16).toNat:Int).toNat ([48,49,50,51,52,53,54,55,56,57,65,66,67,68,69,70]:Bs)))) else none else none else none
abbrev z34:=Bool->Int->(Bs×Bs)->Option (Bs)
abbrev z38:=Bs->Bs->Int->Int->(Bs×Bs)->Option (Bs)
abbrev z36:=Bs->Bs->Int->Int->Bs->(Bs×Bs)->Option (Bs)
abbrev z35:=Bs->Bs->Int->Int->Bs->(Bs×Bs)->Option (Bs)
abbrev qdd:=Bs->Bs->Int->Int->(Bs×Bs)->Option (Bs)
abbrev qpj:=Bool->Int->(Bs×Bs)->Option (Bs)
def qd5(fu:Nat)(c:qpj):z34:=fun b d a=>c b (af (d+1)) a
def qji(fu:Nat)(f:qdd):z38:=fun b c d e a=>f b c d (af (e+1)) a
def qd7(g:qdd):z36:=fun d b e f c a=>bif decide (b.length+c.length<=aq) then qji fu g d (b++c) e f a else none
def qd6(g:qdd):z35:=fun b c f h e a=>bif decide (60<(af ((c.length:Int)+(e.length:Int)))) then bif decide (b.length+List.length ([59,32]:Bs)<=aq) then bif decide (List.length (b++([59,32]:Bs))+a.1.length<=aq) then bif decide (List.length ((b++([59,32]:Bs))++a.1)+List.length ([42]:Bs)<=aq) then(tl fu f).bind fun d=>bif decide (List.length (((b++([59,32]:Bs))++a.1)++([42]:Bs))+d.length<=aq) then bif decide (List.length ((((b++([59,32]:Bs))++a.1)++([42]:Bs))++d)+List.length ([42,61]:Bs)<=aq) then bif decide (List.length (((((b++([59,32]:Bs))++a.1)++([42]:Bs))++d)++([42,61]:Bs))+c.length<=aq) then qd7 fu g ((((((b++([59,32]:Bs))++a.1)++([42]:Bs))++d)++([42,61]:Bs))++c) ([]:Bs) (af (f+1)) h e a else none else none else none else none else none else none else qd7 fu g b c f h e a
def qqm(h:qdd):qdd:=fun c d f b a=>bif decide (b<(a.2.length:Int)) then(am a.2 b).bind fun j=>(qeg j).bind fun g=>bif decide (List.length ([37]:Bs)+g.length<=aq) then(am a.2 b).bind fun i=>(zq fu i).bind fun k=>bif k then bif decide (0<=b/\b<=af (b+1)/\af (b+1)<=(a.2.length:Int)) then qd6 fu h c d f b (List.take ((af (b+1)).toNat-b.toNat) (List.drop b.toNat a.2)) a else none else qd6 fu h c d f b (([37]:Bs)++g) a else none else bif decide (c.length+List.length ([59,32]:Bs)<=aq) then bif decide (List.length (c++([59,32]:Bs))+a.1.length<=aq) then bif decide (List.length ((c++([59,32]:Bs))++a.1)+List.length ([42]:Bs)<=aq) then(tl fu f).bind fun e=>bif decide (List.length (((c++([59,32]:Bs))++a.1)++([42]:Bs))+e.length<=aq) then bif decide (List.length ((((c++([59,32]:Bs))++a.1)++([42]:Bs))++e)+List.length ([42,61]:Bs)<=aq) then bif decide (List.length (((((c++([59,32]:Bs))++a.1)++([42]:Bs))++e)++([42,61]:Bs))+d.length<=aq) then some ((((((c++([59,32]:Bs))++a.1)++([42]:Bs))++e)++([42,61]:Bs))++d) else none else none else none else none else none else none
def zp(fu:Nat):Nat->qdd|0=>fun _ _ _ _ _=>none|n+1=>qqm fu (zp fu n)
def qql(d:qpj):qpj:=fun c b a=>bif decide (b<(a.2.length:Int)) then bif c then(am a.2 b).bind fun f=>(fa (f.toNat:Int) 32 126).bind fun g=>qd5 fu d g b a else qd5 fu d false b a else bif c then bif decide (List.length ([59,32]:Bs)+a.1.length<=aq) then bif decide (List.length (([59,32]:Bs)++a.1)+List.length ([61]:Bs)<=aq) then(qjj fu a.2).bind fun e=>bif decide (List.length ((([59,32]:Bs)++a.1)++([61]:Bs))+e.length<=aq) then some (((([59,32]:Bs)++a.1)++([61]:Bs))++e) else none else none else none else zp fu fu ([]:Bs) ([117,116,102,56,39,39]:Bs) 0 0 a
def qd4(fu:Nat):Nat->qpj|0=>fun _ _ _=>none|n+1=>qql fu (qd4 fu n)
def qjh(a:Bs×Bs):Option (Bs):=(vz fu a.2).bind fun b=>bif b then bif decide (List.length ([59,32]:Bs)+a.1.length<=aq) then bif decide (List.length (([59,32]:Bs)++a.1)+List.length ([61]:Bs)<=aq) then bif decide (List.length ((([59,32]:Bs)++a.1)++([61]:Bs))+a.2.length<=aq) then some (((([59,32]:Bs)++a.1)++([61]:Bs))++a.2) else none else none else none else qd4 fu fu (decide ((a.2.length:Int)<=60)) 0 a
abbrev q1l:=Bs->Int->(Bs×Bs×wV)->Option (Bs)
def qqj(e:q1l):q1l:=fun b c a=>bif decide (c<(a.2.2.length:Int)) then(am a.2.2 c).bind fun f=>(qjh fu f).bind fun d=>bif decide (b.length+d.length<=aq) then e (b++d) (af (c+1)) a else none else some b
def qd2(fu:Nat):Nat->q1l|0=>fun _ _ _=>none|n+1=>qqj fu (qd2 fu n)
def qjf(a:Bs×Bs×wV):Option (Bs):=bif decide (a.1.length+List.length ([47]:Bs)<=aq) then bif decide (List.length (a.1++([47]:Bs))+a.2.1.length<=aq) then qd2 fu fu ((a.1++([47]:Bs))++a.2.1) 0 a else none else none
abbrev z4m:=Option Int
abbrev z4l:=Bool->Option Int
abbrev z4k:=wU->(Bs×Bs×wV)->Option Int
abbrev z4j:=Bool->wU->(Bs×Bs×wV)->Option Int
def q2q(fu:Nat):z4m:=some 0
def qez:z4l:=fun a=>bif a then some 5 else q2q fu
def qrk:z4k:=fun a b=>(qjf fu b).bind fun d=>bif decide (2000<(d.length:Int)) then qez fu true else(qej fu a.val.1 ([99,111,110,116,101,110,116,45,116,121,112,101]:Bs)).bind fun c=>bif decide (0<=(0:Int)/\(0:Int).toNat<c.length) then(c[(0:Int).toNat]?).bind fun e=>qez fu (!(e==d)) else none
def np:z4j:=fun c a b=>bif c then some 5 else qrk fu (Tree.node a.val a.kids) b
def qjv(a:Tree (wV×Bs))(f:Int):Option Int:=(qi3 fu a.val.1).bind fun e=>bif e.1 != 0 then some e.1 else bif decide (0<(a.kids.length:Int)) then(qab fu a.val.1).bind fun b=>(vv fu b.1 ([98,111,117,110,100,97,114,121]:Bs)).bind fun h=>bif !b.2 then np fu true (Tree.node a.val a.kids) b.1 else bif h.2 then np fu true (Tree.node a.val a.kids) b.1 else(jf fu b.1.1 ([109,117,108,116,105,112,97,114,116]:Bs)).bind fun i=>bif !i then np fu true (Tree.node a.val a.kids) b.1 else bif decide (0<(a.val.2.length:Int)) then np fu true (Tree.node a.val a.kids) b.1 else np fu (decide (60<=(b.1.2.2.length:Int))) (Tree.node a.val a.kids) b.1 else bif decide (12000<(a.val.2.length:Int)) then some 1 else(qq8 fu a.val.2).bind fun c=>bif c.1 != 0 then some c.1 else(qjp fu a.val.1).bind fun d=>bif d.2 then bif decide (f<8) then(qra fu a.val.2 d.1).bind fun g=>bif decide (0<(g.length:Int)) then some 5 else some 0 else some 0 else some 0
abbrev q1o:=(List wU)->(List Int)->Int->(Int×Int)->Option ((Int×Int))
abbrev q1n:=(List wU)->(List Int)->Int->(Int×Int)->Option ((Int×Int))
def qrm(i:q1o):q1o:=fun b e a c=>bif decide (a<(b.length:Int)) then(am b a).bind fun f=>(am e a).bind fun h=>(qjv fu (Tree.node f.val f.kids) h).bind fun d=>bif d != 0 then(gp d a).bind fun g=>some g else i b e (af (a+1)) c else some (0,0)
def qe1(fu:Nat):Nat->q1o|0=>fun _ _ _ _=>none|n+1=>qrm fu (qe1 fu n)
def qrl(e:q1n):q1n:=fun c d b a=>bif decide (b<(c.length:Int)) then(am d b).bind fun g=>bif decide (8<g) then(gp 2 (-2)).bind fun f=>some f else e c d (af (b+1)) a else qe1 fu fu c d 0 a
def qe0(fu:Nat):Nat->q1n|0=>fun _ _ _ _=>none|n+1=>qrl fu (qe0 fu n)
def qjw(b:Tree (wV×Bs)):Option ((Int×Int)):=(qjt fu (Tree.node b.val b.kids) 0).bind fun a=>bif decide (40<(a.1.length:Int)) then(gp 2 (-1)).bind fun c=>some c else qe0 fu fu a.1 a.2 0 (0,0)
abbrev z42:=(List wU)->Int->Bs->Bool->Int->(List Bs)->(List Bs)->Option ((List Bs))
abbrev z41:=(List wU)->Int->Bs->Bool->Int->Bool->(List Bs)->(List Bs)->(Bs×Bs×wV)->Option ((List Bs))
abbrev z40:=(List wU)->Int->Bs->Bool->Int->(List Bs)->(List Bs)->Option ((List Bs))
abbrev z4z:=(List wU)->Int->Bs->Bool->Int->Bool->(List Bs)->(List Bs)->Option ((List Bs))
abbrev y6:=(List wU)->Int->Bs->Bool->Int->(List Bs)->(List Bs)->Option ((List Bs))
abbrev tg:=(List wU)->Int->(List Bs)->Option ((List Bs))
def z6(fu:Nat)(i:tg)(h:y6):z42:=fun d e g f a b c=>h d e g f (af (a+1)) c b
def wd(i:tg)(h:y6):z41:=fun f g l k a d b c e=>bif d then(vv fu e ([102,105,108,101,110,97,109,101]:Bs)).bind fun j=>z6 fu i h f g j.1 j.2 a b c else z6 fu i h f g l k a b c
def qrf(j:tg)(i:y6):z40:=fun e f h g a b c=>bif decide (0<=a/\a.toNat<b.length) then(b[a.toNat]?).bind fun k=>bif decide (List.length ([120,47]:Bs)+k.length<=aq) then(zh fu (([120,47]:Bs)++k)).bind fun d=>bif d.2 then bif decide (0<=a/\a.toNat<b.length) then(b[a.toNat]?).bind fun l=>bif decide ((l.length:Int)<=3998) then(qds fu d.1).bind fun m=>wd fu j i e f h g a (m.1==0) c b d.1 else wd fu j i e f h g a false c b d.1 else none else wd fu j i e f h g a false c b d.1 else none else none
def tu(d:tg)(k:y6):z4z:=fun b c i g e f h a=>bif f then qrf fu d k b c i g e h a else bif !g then(am b c).bind fun m=>(qab fu m.val.1).bind fun l=>(vv fu l.1 ([110,97,109,101]:Bs)).bind fun j=>bif j.2 then bif decide (List.length (a++([j.1]:List Bs))<=bg) then d b (af (c+1)) (a++([j.1]:List Bs)) else none else d b (af (c+1)) a else bif g then bif decide (List.length (a++([i]:List Bs))<=bg) then d b (af (c+1)) (a++([i]:List Bs)) else none else d b (af (c+1)) a
def qjs(i:tg)(h:y6):y6:=fun e f g d a b c=>bif decide (a<(b.length:Int)) then tu fu i h e f g d a (!d) b c else tu fu i h e f g d a false b c
def tr(fu:Nat)(a:tg):Nat->y6|0=>fun _ _ _ _ _ _ _=>none|n+1=>qjs fu a (tr fu a n)
def qre(d:tg):tg:=fun b c a=>bif decide (c<(b.length:Int)) then(am b c).bind fun g=>bif decide (0<(g.kids.length:Int)) then d b (af (c+1)) a else(am b c).bind fun f=>(qej fu f.val.1 ([99,111,110,116,101,110,116,45,100,105,115,112,111,115,105,116,105,111,110]:Bs)).bind fun e=>tr fu d fu b c ([]:Bs) false 0 e a else some a
def zz(fu:Nat):Nat->tg|0=>fun _ _ _=>none|n+1=>qre fu (zz fu n)
def qjr(a:Tree (wV×Bs)):Option ((List Bs)):=(qjt fu (Tree.node a.val a.kids) 0).bind fun b=>zz fu fu b.1 0 []
def qac(a:Tree (wV×Bs)):Option Bool:=(qro fu).bind fun e=>bif !e then some false else(qgb fu (Tree.node a.val a.kids)).bind fun b=>(qjw fu (Tree.node a.val a.kids)).bind fun c=>bif c.1 != 0 then bif((b.1.1==c.1)&&((b.1.2==c.2)&&true)) then some ((b.2.length:Int)==0) else some false else bif b.1.1==0 then(qjr fu (Tree.node a.val a.kids)).bind fun f=>(qea fu b.2 f).bind fun d=>some d else some false
end
end Go.Sym

