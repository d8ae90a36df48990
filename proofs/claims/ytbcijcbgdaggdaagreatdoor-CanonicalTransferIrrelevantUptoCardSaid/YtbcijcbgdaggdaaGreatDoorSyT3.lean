/- What the claim rests on, part 3: gathered texts. -/
import Derived.RangeFuncRecord
import Derived.Lib.ItoaNum
import Derived.Lib.Index
import Derived.Lib.AtoiAll
import Derived.Shelf.SlSortCmp.Insertion
import Derived.Lib.Replace
import Derived.Lib.Repeat
import Derived.Lib.MapLaws
import Derived.Lib.ValidLaws
import Derived.Lib.BytesEntry
import Derived.Laws.Externs
import Derived.WalkKit
import Derived.ProofKit
import Derived.OpenShut
import Derived.ShutString
import Derived.ChangeOld
import Derived.Carry
import Derived.Handed
import Derived.Deep.DeepHandedRow
import Derived.LaidMore
import Derived.Lay
import Derived.LaidHandle
import Derived.MakeChecks
import Derived.LaidLaws
import Derived.Test.YtbcijcbgdaggdaaGreatDoorSyT2
set_option linter.defProp false
set_option linter.unusedSimpArgs false
set_option linter.unusedVariables false
namespace Go.Sym
open Go.RowKit
variable[LC]
def gh(i:Nat)(c:Code):Code:=match c with
 |.seq a b=>match i with|0=>a|_=>b
 |.cond _ a b=>match i with|0=>a|_=>b
 |.block _ a=>a|.loop a=>a|.scope a=>a|.rangeFunc _ _ a b=>match i with|0=>a|_=>b
 |c=>c
def sub(body:Code):List Nat->Code|[]=>body|i::p=>gh i (sub body p)
structure dj where
 kd:Nat
 path:List Nat
 it:Item
def vo(body:Code)(kd:Nat)(p:List Nat):Item:=match kd with
 |0 => .code (sub body p)|1=>match sub body p with|.block id _ => .inBlock id|c => .code c
 |2=>match sub body p with|.loop x => .inLoop x|c => .code c
 |3=>match sub body p with|.scope x => .inScope x|c => .code c
 |_ => .beginRound
def dj.Ok(body:Code)(i:dj):Prop:=i.it=vo body i.kd i.path
abbrev yn:=List (Nat×List Nat)
def ni(body:Code):yn->List dj|[]=>[]|(kd,p)::r=>⟨kd,p,vo body kd p⟩::ni body r
def dx:List dj->List Item|[]=>[]|i::r=>i.it::dx r
def qcp:yn->List dj->Bool|[],[]=>true|(kd,p)::r,i::k=>Nat.beq kd i.kd&&pf p i.path&&qcp r k|_,_=>false
def q61{body:Code}:∀{key:yn}{k:List dj},qcp key k=true->(∀i∈k,i.Ok body)->dx (ni body key)=dx k
 |[],[],_,_=>rfl|(kd,p)::r,⟨kd',p',it⟩::k,h,hk=>by
  simp only[qcp,qA]at h;obtain⟨⟨h1,h2⟩,h3⟩:=h;have h1:=qN h1;have h2:=qni h2;subst h1 h2;have ho:it=vo body kd p:=hk _ qH;simp only[ni,dx];rw[q61 h3 (fun i hi=>hk i (qE _ hi)),ho]
 |[],_::_,h,_=>by cases h
 |_::_,[],h,_=>by cases h
def qxo{body:Code}:∀{key:yn},∀i∈ni body key,i.Ok body
 |[],i,h=>by cases h
 |(kd,p)::r,i,h=>by
  rcases List.mem_cons.1 h with rfl|h
  ·rfl
  ·exact qxo i h
def znc{body:Code}{kd:Nat}{p:List Nat}{c:Code}(h:Item.code c=vo body kd p):sub body p=c:=by
 unfold vo at h;split at h
 ·injection h with h;exact h.symm
 ·split at h
  ·cases h
  ·injection h with h;exact h.symm
 ·split at h
  ·cases h
  ·injection h with h;exact h.symm
 ·split at h
  ·cases h
  ·injection h with h;exact h.symm
 ·cases h
def znd{body:Code}{kd:Nat}{p:List Nat}{c:Code}(h:Item.inLoop c=vo body kd p):sub body p = .loop c:=by
 unfold vo at h;split at h
 ·cases h
 ·split at h<;>cases h
 ·split at h
  ·rename_i e;injection h with h;subst h;exact e
  ·cases h
 ·split at h<;>cases h
 ·cases h
def pg(id:Nat):List dj->Option (List dj)
 |[]=>none|i::k=>match i.it with|.inBlock id'=>if id'==id then some k else pg id k|_=>pg id k
def qw6{id:Nat}:∀{k k':List dj},pg id k=some k'->exitTo id (dx k)=some (dx k')/\∀i∈k',i∈k
 |[],_,h=>by cases h
 |⟨kd,p,it⟩::k,k',h=>by
  simp only[pg]at h;split at h
  ·rename_i id';split at h
   ·rename_i he;simp only[qI]at h;subst h;exact⟨by simp only[dx,exitTo];rw[qX he],fun i hi=>qE _ hi⟩
   ·rename_i he;obtain⟨h1,h2⟩:=qw6 h;exact⟨by simp only[dx,exitTo];rw[qW he];exact h1,fun i hi=>qE _ (h2 i hi)⟩
  ·rename_i hne;obtain⟨h1,h2⟩:=qw6 h;refine⟨?_,fun i hi=>qE _ (h2 i hi)⟩
   (try simp only at hne)
   simp only[dx];cases it<;>first
    |(exfalso;exact hne _ rfl)
    |(simp only[exitTo];exact h1)
def qvs(P:Program)(s:St):ResultVar->Option AV
 |.tmp t=>ae s.fr t|.cell t T=>match ae s.fr t with
  |some (.ptr b off)=>match ae s.hp b with|some (.cells cs _)=>ob P T cs off|_=>none
  |some (.oel k sz 0 0)=>match ae s.hp k,wq P T,dv P T with|some (.row τ l _),some true,some _=>bif τ.is1&&Nat.beq sz 1 then some (.arr τ l) else none|_,_,_=>none
  |_=>none
def qy6(P:Program)(s:St):ResultVar->Bool
 |.tmp _=>true|.cell t T=>match ae s.fr t with
  |some (.oel k _ 0 0)=>match ae s.hp k,dv P T with|some (.row _ l _),some n=>decide (l.length=n)|_,_=>true
  |_=>true
def qie(P:Program)(s:St):List ResultVar->Bool|[]=>true|x::xs=>qy6 P s x&&qie P s xs
def qb5(P:Program)(s:St):List ResultVar->Option (List AV)
 |[]=>some []|x::xs=>match qvs P s x with
  |some v=>match qb5 P s xs with|some vs=>some (v::vs)|none=>none
  |none=>none
def qvt(P:Program)(fn:Func)(s:St):Option AV:=
 match qb5 P s fn.results.toList with
 |some vs=>match vs with|[v]=>some v|vs=>some (.tup vs)
 |none=>none
def frzC(p:Pt)(b off:Nat)(s:St):St:=match ae s.hp b with|some (.cells cs _)=>frzL (qnz p (.agg (cs.drop off))) s|_=>s
def coR(bs:List (Nat×be)):List ResultVar->List Pt->St->St
 |[],_,s=>s|x::xs,ps,s=>match ps with
  |[]=>s|p::ps=>match x with
   |.tmp t=>coR bs xs ps (coF bs [(t,p)] s)|.cell t _=>match ae s.fr t with|some (.ptr b off)=>coR bs xs ps (frzC p b off (coB1 bs b [p] off s))|_=>coR bs xs ps s
def qox:Pt->List Pt|.tup ps=>ps|p=>[p]
def qnq(v:AV)(ids:NM)(p:Pt)(hp:List (Nat×be))(s:St):Option (p.den×fm hp):=
 match p.get v ids with
 |some (d,nm)=>match ql s.hp hp nm with|some (d',nm')=>bif dm nm'&&tc nm' hp then some (d,d') else none|none=>none
 |none=>none
def qw9(P:Program)(fn:Func)(ids:NM)(rv:Option AV)(p:Pt)(hp:List (Nat×be))(s:St):Option (p.den×fm hp):=
 match rv with
 |some v=>qnq v ids p hp (coB hp ids hp s)|none=>match qvt P fn (coR hp fn.results.toList (qox p) (coB hp ids hp s)) with|some v=>qnq v ids p hp (coR hp fn.results.toList (qox p) (coB hp ids hp s))|none=>none
def qxa(P:Program)(fn:Func)(ids:NM)(rv:Option AV)(p:Pt)(hp:List (Nat×be))(s:St):Bool:=
 match rv with|some _=>true|none=>qie P (coR hp fn.results.toList (qox p) (coB hp ids hp s)) fn.results.toList
def RS.fin(P:Program)(fn:Func)(ids:NM)(rv:Option AV)(s:St):{α:Type}->RS α->Option α
 | _,.one p hp _ fro _=>bif qxa P fn ids rv p hp s then(match qw9 P fn ids rv p hp s with
  |some y=>some (fro y)| none=>none) else none
 |_,.two l r=>match l.fin P fn ids rv s with
  |some a=>some (.inl a)|none=>match r.fin P fn ids rv s with|some b=>some (.inr b)|none=>none
structure ew(R:Type) where
 key:yn
 ls:LS
 F:ls.den->Option R
def zw{R:Type}(ids:NM)(s:St)(k:List dj):List (ew R)->Option (ew R)
 |[]=>none| l::ls=>bif qcp l.key k then(match zw ids s k ls with
   |none=>some l|some l'=>match l.ls.get ids (l.ls.co ids s) with
    |some _=>some l| none=>some l') else zw ids s k ls
structure Cx:Type 1 where
 P:Program
 tb:Tb
 fn:Func
 f:FuncId
 ids:NM
 rd:Option Nat
 tags:List (List Nat×Nat)
def St.noDf(s:St):Bool:=match s.df with|[]=>true|_=>false
def qg4:List Nat->St->Option St
 |[],s=>some { s with df:=[] }|n::ns,s=>match ae s.hp n with|some .dfr=>qg4 ns { s with hp:=(n,.dead)::s.hp,df:=ns }|_=>none
def tv:Option dd->Bool|none=>true|some _=>false
def og(cx:Cx){R:Type}(enc:RS R)(j:Option dd)(s:St):Option R:=
 match cx.rd with
 |none=>match qg4 s.df s with|some s'=>enc.fin cx.P cx.fn cx.ids none s'|none=>none
 |some m=>bif s.noDf then
   (match ae s.hp m with
   |some (.loop _ _ f n fr ps tag D)=>enc.fin cx.P cx.fn cx.ids (some (.val (.bool (tv j)))) { s with hp:=(m,.loop (bif tv j then .ready else .done) j f n fr ps tag D)::s.hp }| _=>none)
  else none
def St.enterRF(s:St)(f:FuncId)(ps:List Tmp)(tag:Nat)(around:Option Nat):Option St:=
 bif a6 s.nx s.hp then
  (match around with
  |none=>some { s with hp:=(s.nx,.loop .ready none f s.n s.fr ps tag (s.nx+1))::(s.nx+1,.dfr)::s.hp,df:=(s.nx+1)::s.df,nx:=s.nx+32 }|some m=>match ae s.hp m with
   |some (.loop _ _ _ _ _ _ _ D)=>some { s with hp:=(s.nx,.loop .ready none f s.n s.fr ps tag D)::s.hp,nx:=s.nx+32 }| _=>none)
 else none
def zbf(s:St)(ys:List AV)(d:D):Option St:=match d with
 |.mem names xs hp _ hp'=>
  bif dm names&&qt names&&a6 s.nx s.hp then
   (match ie (aw names) s.hp names,bg false [] (AV.rens (aw names) ys) xs with
   |some hpv,some _=>match jz hpv hp with|some _=>some { s with hp:=lr (ke names hp' s.nx) hp'++(mv names++s.hp),nx:=s.nx+32 }|none=>none
   | _,_=>none)
  else none
 |_=>none
def ra(p:List Nat):List (List Nat×Nat)->Option Nat|[]=>none|(q,t)::r=>bif pf q p then some t else ra p r
def q9r:LoopState->Bool|.busy=>false|_=>true
def qo1(cx:Cx)(p:List Nat)(g:Operand)(ps:List Tmp)(s:St):Option (Rq×St×List AV):=
 match ra p cx.tags,s.ev g with
 |some tag,some (.fn (.func h) [] cap)=>match s.enterRF cx.f ps tag cx.rd with
  |some s1=>match zb (qg3 s1 h (.yld s.nx::cap)) cx.tb.ents with|some q=>some (q,s1,.yld s.nx::cap)|none=>none
  |none=>none
 |_,_=>none
def zbh(cx:Cx)(p:List Nat)(g:Operand)(ps:List Tmp)(s:St):Option St:=
 match ra p cx.tags,s.ev g with
 |some tag,some (.fn (.func h) [] cap)=>match s.enterRF cx.f ps tag cx.rd with
  |some s1=>match qng (fun e=>qx h e.key) cx.tb.ents with|some e=>some (coB e.hp (t7 s1 e.hp (vz e.args (.yld s.nx::cap))) e.hp (frzL (ze e.args (.yld s.nx::cap)) s))|none=>none
  |none=>none
 |_,_=>none
def qo2{R:Type}(nl:Nat)(a:Rq×St×List AV)(K:Option dd->St->Option R):Option R:=
 a.1.K fun d=>match zbf a.2.1 a.2.2 d with
  |some s3=>match ae s3.hp nl with|some (.loop st pe _ _ _ _ _ _)=>bif q9r st then K pe { s3 with hp:=(nl,.dead)::s3.hp } else none|_=>none
  |none=>none
def rfR(cx:Cx){R:Type}(p:List Nat)(g:Operand)(ps:List Tmp)(s:St)(K:Option dd->St->Option R):Option R:=
 match qo1 cx p g ps s with
 |some a=>qo2 s.nx a K|none=>match zbh cx p g ps s with
  |some s'=>match qo1 cx p g ps s' with|some a=>qo2 s'.nx a K|none=>none
  |none=>none
def run(cx:Cx){R:Type}(enc:RS R)(labs:List (ew R)):Nat->Bool->List dj->St->Option R
 |0,_,_,_=>none|n+1,chk,k,s=>match(bif chk then zw cx.ids s k labs else none) with
  |some lab=>match lab.ls.get cx.ids (lab.ls.co cx.ids s) with|some d=>lab.F d|none=>none
  |none=>match k with
   |[]=>og cx enc none s|⟨_,p,it⟩::k'=>match it with
    |.code c=>match c with
     |.skip=>run cx enc labs n true k' s|.label _=>run cx enc labs n true k' s|.seq x y=>run cx enc labs n true (⟨0,0::p,.code x⟩::⟨0,1::p,.code y⟩::k') s|.cond c x y=>match s.ev c with|some (.bool b)=>bif b then run cx enc labs n true (⟨0,0::p,.code x⟩::k') (s.know c true) else run cx enc labs n true (⟨0,1::p,.code y⟩::k') (s.know c false)|some (.val (.bool b))=>bif b then run cx enc labs n true (⟨0,0::p,.code x⟩::k') s else run cx enc labs n true (⟨0,1::p,.code y⟩::k') s|_=>none
     |.block id x=>run cx enc labs n true (⟨0,0::p,.code x⟩::⟨1,p,.inBlock id⟩::k') s|.loop x=>run cx enc labs n true (⟨0,0::p,.code x⟩::⟨2,p,.inLoop x⟩::k') s|.scope x=>run cx enc labs n true (⟨0,0::p,.code x⟩::⟨3,p,.inScope x⟩::k') s|.exit id=>match pg id k' with
      |some k''=>run cx enc labs n true k'' s|none=>match cx.rd with|some _=>og cx enc (some (.exit id)) s|none=>none
     |.region _ ops d=>bif d then qwy cx.P cx.tb ops s (fun s'=>run cx enc labs n true k' s'.bump) else zt cx.P cx.tb ops ops.toList s (fun s'=>run cx enc labs n true k' s'.bump)
     |.ret=>og cx enc (some .ret) s|.rangeFunc g ps _ _=>rfR cx p g ps.toList s fun j s'=>match j with
      |none=>run cx enc labs n true k' s'|some .ret=>og cx enc (some .ret) s'|some (.exit id)=>match pg id k' with
       |some k''=>run cx enc labs n true k'' s'|none=>match cx.rd with|some _=>og cx enc (some (.exit id)) s'|none=>none
     |_=>none
    |.inBlock _=>run cx enc labs n true k' s|.inScope _=>run cx enc labs n true k' s|.inLoop x=>run cx enc labs n true (⟨0,0::p,.code x⟩::⟨2,p,.inLoop x⟩::k') s|.beginRound=>match cx.rd with
     |some m=>match ae s.hp m with|some (.loop .ready pe f n' fr ps tag D)=>run cx enc labs n true k' { s with hp:=(m,.loop .busy pe f n' fr ps tag D)::s.hp }|_=>none
     |none=>none
    |_=>none
def xe(P:Program)(ro:Option Nat)(f:FuncId)(x:Machine)(cs:List Frame)(Q:Value->World->Prop):Prop:=
 match ro with|none=>∃v w' fr,Q v w'/\Steps P x (lone fr cs w')/\fr.fn=f/\fr.leaving P w' (.returned v)|some _=>∀c cs',cs=c::cs'->∃v w',Q v w'/\Steps P x (lone (c.finish v) cs' w')
def xe.head{P:Program}{ro:Option Nat}{f:FuncId}{x y:Machine}{cs:List Frame}{Q:Value->World->Prop}(h:Steps P x y)(k:xe P ro f y cs Q):xe P ro f x cs Q:=by
 cases ro with
 |none=>obtain⟨v,w',fr,h1,h2,h3⟩:=k;exact⟨v,w',fr,h1,h.trans h2,h3⟩
 |some l=>exact fun c cs' e=>by obtain⟨v,w',h1,h2⟩:=k c cs' e;exact⟨v,w',h1,h.trans h2⟩
section
variable{P:Program}{vek:World}{vef:Gh}{veh:List (Nat×ah)}{G:Gh}{s:St}{a:Act}{w:World}
def qc5(tmps:Array Value)(x:ResultVar):Sem Value:=match x with|.tmp t=>pure (tmps.getD t undef)|.cell a t=>do loadVar t (← asAddr (tmps.getD a undef))
def zri(fn:Func)(tmps:Array Value):results fn tmps=(do let vs ← fn.results.mapM (qc5 tmps);pure (if h:vs.size=1 then vs[0] else .tuple vs)):=rfl
def zij(hr:ai vek vef veh G s a w){x:ResultVar}{v:AV}(hq:qy6 P s x=true)(h:qvs P s x=some v):∃u,(qc5 a.tmps x).run P w = .ok u w/\aj v G u:=by
 cases x with
 |tmp t=>
  obtain⟨u,h1,h2⟩:=hr.frame t v h;exact⟨u,by simp[qc5,Array.getD_eq_getD_getElem?,h1],h2⟩
 |cell t T=>
  simp only[qvs]at h;split at h
  ·rename_i b off hb;split at h
   ·rename_i cs T' hc;obtain⟨u,h1,B,hB,rfl⟩:=hr.frame _ _ hb;obtain⟨B',vs,k1,k2,k3,_⟩:=hr.fin.mem.holds _ _ hc;rw[k1]at hB;injection hB with hB;subst hB
    obtain⟨z,hz,hrz⟩:=qc8 (P:=P) (w:=w) h (o:=0) k3 (fun j u hu=>by rw[wO];exact cell_of_heap k2 hu)
    rw[wO]at hz;exact⟨z,by simp[qc5,Array.getD_eq_getD_getElem?,h1,asAddr,hz],hrz⟩
   ·cases h
  ·rename_i k sz hb;split at h
   ·rename_i τ l E n hl hagg hn;simp only[qy6,hb,hl,hn,decide_eq_true_eq]at hq;cases hbb:τ.is1&&Nat.beq sz 1<;>rw[hbb]at h<;>simp only[qT,qF,reduceCtorEq,qI]at h
    subst h;simp only[qA]at hbb;have hsz:τ.sz=1:=qcw hbb.1;obtain⟨u,h1,B,n0,c0,ho,rfl⟩:=hr.frame _ _ hb;obtain⟨ad,c',q1,q2⟩:=hr.fin.mem.holds _ _ hl;rw[ho]at q1;simp only[qI,qP]at q1;obtain⟨rfl,rfl,rfl⟩:=q1;rcases q2 with⟨q2,_⟩|⟨g,vs,fz,k1,k2,k3,k4,k5,k6,k7,k8,k9⟩
    ·cases q2
    ·simp only[qI,Addr.mk.injEq,and_true]at k1;subst k1;have hfl:(l.flatMap τ.enc).length=n:=by rw[nd,hsz,hq,Nat.mul_one]
     have hload:ob P T (l.flatMap τ.enc) 0=some (.agg (l.flatMap τ.enc)):=by
      unfold ob;rw[hagg,hn];have:Nat.ble (0+n) (l.flatMap τ.enc).length=true:=by rw[hfl,wO];simp
      simp only[this,qT,List.drop_zero];rw[List.take_of_length_le (by rw[hfl];exact wF _)]
     obtain⟨u,hu,us,rfl,hru⟩:=qc8 (P:=P) (w:=w) hload (B:=B) (o:=0) k7 (fun j u hu=>by
      rw[List.getElem?_take]at hu;split at hu
      ·rw[wO];exact cell_of_heap k2 hu
      ·cases hu)
     simp only[Nat.add_zero]at hu;refine⟨.agg us,by simp[qc5,Array.getD_eq_getD_getElem?,h1,asAddr,hu],?_⟩
     have:=qy2 (G:=G) hbb.1 hru;simpa using this
   ·cases h
  ·cases h
def q43(hr:ai vek vef veh G s a w):∀{xs:List ResultVar}{vs:List AV},qie P s xs=true->qb5 P s xs=some vs ->
  ∃us:List Value,(xs.mapM (qc5 a.tmps)).run P w = .ok us w/\ak vs G us
 |[],vs,_,h=>by simp only[qb5,qI]at h;subst h;exact⟨[],by simp,trivial⟩|x::xs,vs,hq,h=>by
  simp only[qie,qA]at hq;simp only[qb5]at h;split at h
  ·rename_i v hv;split at h
   ·rename_i us hus;simp only[qI]at h;subst h;obtain⟨u,hu,hru⟩:=zij hr hq.1 hv;obtain⟨us',hu',hru'⟩:=q43 hr hq.2 hus;refine⟨u::us',?_,hru,hru'⟩;rw[List.mapM_cons];simp only[Sem.run_bind,hu,Result.andThen_ok,hu',Sem.run_pure]
   ·cases h
  ·cases h
def zik(hr:ai vek vef veh G s a w){fn:Func}{v:AV}(hq:qie P s fn.results.toList=true)(h:qvt P fn s=some v):∃u,(results fn a.tmps).run P w = .ok u w/\aj v G u:=by
 unfold qvt at h;have key:∀vs,qb5 P s fn.results.toList=some vs->∃us:List Value,(results fn a.tmps).run P w = .ok (if h:us.toArray.size=1 then us.toArray[0] else .tuple us.toArray) w/\ak vs G us:=fun vs hv=>by
  obtain⟨us,h1,h2⟩:=q43 hr hq hv;refine⟨us,?_,h2⟩;rw[zri,Array.mapM_eq_mapM_toList];simp only[Sem.run_bind,Sem.run_map,h1,Result.andThen_ok,Sem.run_pure]
 split at h
 ·rename_i vs hv;obtain⟨us,h1,h2⟩:=key _ hv;split at h
  ·simp only[qI]at h;subst h
   match us,h2 with|[u],h2=>exact⟨u,by rw[h1];rfl,h2.1⟩|[],h2=>exact h2.elim|_::_::_,h2=>exact h2.2.elim
  ·rename_i hne;simp only[qI]at h;subst h;refine⟨.tuple us.toArray,?_,us.toArray,rfl,by simpa using h2⟩
   rw[h1,dif_neg];intro he;have hl:=h2.length;simp at he;rw[he]at hl
   match vs,hl,hne with|[x],_,hne=>exact hne x rfl
 ·cases h
def ai.frzC{p:Pt}{b off:Nat}{s:St}{G:Gh}(hr:ai vek vef veh G s a w):∃G',ai vek vef veh G' (frzC p b off s) a w:=by
 unfold Sym.frzC;split
 ·exact hr.frzL
 ·exact⟨G,hr⟩
def ai.coR{bs:List (Nat×be)}:∀{xs:List ResultVar}{ps:List Pt}{s:St}{G:Gh},ai vek vef veh G s a w->∃G',ai vek vef veh G' (coR bs xs ps s) a w
 |[],_,s,G,hr=>⟨G,hr⟩|x::xs,ps,s,G,hr=>by
  unfold Sym.coR;split
  ·exact⟨G,hr⟩
  ·split
   ·obtain⟨G',hr'⟩:=hr.coF (bs:=bs) (l:=[(_,_)]);exact ai.coR hr'
   ·split
    ·obtain⟨G',hr'⟩:=hr.coB1 (bs:=bs);obtain⟨G2,hr2⟩:=hr'.frzC;exact ai.coR hr2
    ·exact ai.coR hr
def qnr(hr:ai vek vef veh G s a w){ids:NM}(hid:∀n bx,ae veh n=some bx->az ids n=some n){v:AV}{p:Pt}{hp:List (Nat×be)}{y:p.den×fm hp}(h:qnq v ids p hp s=some y) :
  ∃G',Fin vek vef veh G' (ce hp y.2) w/\∀u,aj v G u->aj (p.put y.1) G' u:=by
 unfold qnq at h;split at h
 ·rename_i d nm h1;split at h
  ·rename_i d' nm' h2;cases hq:dm nm'&&tc nm' hp<;>rw[hq]at h<;>simp only[qT,qF,reduceCtorEq]at h
   have h:=qJ h;subst h;simp only[qA]at hq;obtain⟨g1,g2⟩:=Pt.get_seen h1;obtain⟨b1,b2⟩:=yy h2;obtain⟨b3,_⟩:=b2 nm' hq.1 (cn.refl _);exact⟨G.view nm',hr.fin.fit hq.1 (fun n bx hb=>b1 _ _ (g1 _ _ (hid n bx hb))) b3,fun u hu=>(g2 nm' hq.1 b1).rep hu⟩
  ·cases h
 ·cases h
def qgm(P:Program)(fn:Func)(rv:Option AV)(a:Act)(w:World)(Q:Value->Prop):Prop:=
 match rv with|none=>∃u,(results fn a.tmps).run P w = .ok u w/\Q u|some x=>∀b,x = .val (.bool b)->Q (.bool b)
def zlz(hr:ai vek vef veh G s a w){ids:NM}(hid:∀n bx,ae veh n=some bx->az ids n=some n){fn:Func}{rv:Option AV}{p:Pt}{hp:List (Nat×be)}{y:p.den×fm hp}(hq:qxa P fn ids rv p hp s=true)(h:qw9 P fn ids rv p hp s=some y) :
  qgm P fn rv a w fun u=>∃G',Fin vek vef veh G' (ce hp y.2) w/\aj (p.put y.1) G' u:=by
 unfold qw9 at h;split at h
 ·rename_i x;obtain⟨G1,hr1⟩:=hr.coB (bs:=hp) (nm:=ids) (l:=hp);obtain⟨G',h1,h2⟩:=qnr hr1 hid h;exact fun b e=>⟨G',h1,h2 _ (by subst e;rfl)⟩
 ·split at h
  ·rename_i v hv;obtain⟨G1,hr1⟩:=hr.coB (bs:=hp) (nm:=ids) (l:=hp);obtain⟨G2,hr2⟩:=hr1.coR (bs:=hp) (xs:=fn.results.toList) (ps:=qox p);obtain⟨G',h1,h2⟩:=qnr hr2 hid h;obtain⟨u,hu,hru⟩:=zik hr2 hq hv;exact⟨u,hu,G',h1,h2 _ hru⟩
  ·cases h
def qgm.mono{fn:Func}{rv:Option AV}{Q Q':Value->Prop}(h:qgm P fn rv a w Q)(k:∀v,Q v->Q' v):qgm P fn rv a w Q':=by
 cases rv with
 |none=>obtain⟨u,h1,h2⟩:=h;exact⟨u,h1,k _ h2⟩
 |some x=>exact fun b e=>k _ (h b e)
def qns(hr:ai vek vef veh G s a w){ids:NM}(hid:∀n bx,ae veh n=some bx->az ids n=some n){fn:Func}{rv:Option AV}:∀{α:Type}{enc:RS α}{x:α},enc.fin P fn ids rv s=some x ->
  qgm P fn rv a w fun u=>∃G',Fin vek vef veh G' (enc.res x).2 w/\aj (enc.res x).1 G' u
 |_,.one p hp tq fro ok,x,h=>by
  simp only[RS.fin]at h;cases hq:qxa P fn ids rv p hp s<;>rw[hq]at h<;>simp only[qT,qF,reduceCtorEq]at h
  split at h
  ·rename_i y hy;have h:=qJ h;subst h;have:=zlz (P:=P) hr hid hq hy;simp only[RS.res,ok];exact this
  ·cases h
 |_,.two l r,x,h=>by
  simp only[RS.fin]at h;split at h
  ·rename_i y hy;have h:=qJ h;subst h;have:=qns (enc:=l) hr hid hy;exact this
  ·split at h
   ·rename_i y hy;have h:=qJ h;subst h;have:=qns (enc:=r) hr hid hy;exact this
   ·cases h
def q54:∀{ns:List Nat}{s s':St}{G:Gh}{a:Act}{w:World},s.df=ns->qg4 ns s=some s'->ai vek vef veh G s a w->∀(fr:Frame)(cs:List Frame),fr.mode = .returning->fr.defers=a.defers ->
  ∃w',ai vek vef veh G s' { a with defers:=[] } w'/\Steps P (lone fr cs w) (lone { fr with defers:=[] } cs w')
 |[],s,s',G,a,w,hd,h,hr,fr,cs,hm,hfd=>by
  simp only[qg4,qI]at h;subst h;obtain⟨bs,h1,h2⟩:=hr.defers;rw[hd]at h2;have:bs=[]:=by cases bs with|nil=>rfl|cons _ _=>simp at h2
  subst this;refine⟨w,⟨⟨[],rfl,rfl⟩,hr.size,hr.frame,hr.fresh,hr.fin⟩,?_⟩;have e:({ fr with defers:=[] }:Frame)=fr:=by rw[← show fr.defers=[] by rw[hfd,h1];rfl]
  rw[e];exact .refl _ _
 |n::ns,s,s',G,a,w,hd,h,hr,fr,cs,hm,hfd=>by
  simp only[qg4]at h;split at h
  ·rename_i hl;obtain⟨bs,h1,h2⟩:=hr.defers;rw[hd]at h2
   cases bs with
   |nil=>simp at h2|cons b bs=>
    simp only[List.map_cons,List.cons.injEq]at h2;obtain⟨B,k1,k2,k3⟩:=hr.fin.mem.holds n _ hl;rw[k1]at h2;obtain⟨e,h2⟩:=h2;injection e with e;subst e
    have hr1:=hr.setBox (bx' := .dead) (o := .deferred none) hl (show G.at n .dfr=some b from k1) (fun c hc=>by cases hc) trivial k3
    have hr2:ai vek vef veh G { s with hp:=(n,.dead)::s.hp,df:=ns } { a with defers:=bs.map (fun b=>{ target := .collected b,args:=#[] }) } (w.putObj b (.deferred none)):=
     ⟨⟨bs,rfl,h2⟩,hr1.size,hr1.frame,hr1.fresh,hr1.fin⟩
    have hs:=step_collected (P:=P) (cs:=cs) (fr:=fr) (by rw[hm];simp) (by rw[hfd,h1];rfl) rfl (run_takeDeferred k2)
    obtain⟨w',i1,i2⟩:=q54 (a:={ a with defers:=bs.map (fun b=>{ target := .collected b,args:=#[] }) }) rfl h hr2 { fr with defers:=[]++bs.map (fun b=>{ target := .collected b,args:=#[] }) } cs hm rfl
    exact⟨w',i1,(Steps.one hs).trans i2⟩
  ·cases h
end
structure Cx.Ok(cx:Cx)(body:Code):Prop where
 ents:∀e∈cx.tb.ents,e.Sound cx.P
 mixed:cx.P.follows .mixedOrders=true
 func:cx.P.funcs[cx.f]? = some cx.fn
 tags:∀p t,ra p cx.tags=some t->∀g ps x y,sub body p = .rangeFunc g ps x y->LC.lc t=some (x,y)
def qg(cx:Cx)(vef:Gh)(veh:List (Nat×ah))(b:Frame):Prop:=match cx.rd with|none=>b.roundOf=none|some m=>∃B bx,vef.box m=some B/\ae veh m=some bx/\b.roundOf=some B
section
variable{vek:World}{vef:Gh}{veh:List (Nat×ah)}{G:Gh}{s:St}{a:Act}{w:World}
def zrx{P:Program}(fn:FuncId)(tmps:Array Value)(ps:Array Tmp)(asn bo:Code){l:Nat}{r:Loop}(h:w.heap[l]? = some (.loop r)) :
  (Instr.enterLoop fn tmps ps asn bo (some l)).run P w = .ok (w.heap.size,[]) (w.alloc (.loop { state := .ready,pending:=none,fn,tmps,params:=ps,assign:=asn,body:=bo,defers:=r.defers })):=by
 unfold Instr.enterLoop;simp only[Sem.run_bind,run_getLoop h,run_newObj_alloc,Result.andThen,Sem.run_pure]
def q83(hr:ai vek vef veh G s a w){k D DB:Nat}{f:FuncId}{ps:Array Tmp}{tag:Nat}{asn bo:Code}(htag:LC.lc tag=some (asn,bo))(hk:ae s.hp k=none)(hkx:s.nx<=k)(hD:G.box D=some DB)(hne:D≠k) :
  ai vek vef veh (G.addBox k w.heap.size) { s with hp:=(k,.loop .ready none f s.n s.fr ps.toList tag D)::s.hp } a (w.alloc (.loop { state := .ready,pending:=none,fn:=f,tmps:=a.tmps,params:=ps,assign:=asn,body:=bo,defers:=DB })):=by
 have hle:G.le (G.addBox k w.heap.size):=Gh.addBox_le (hr.fresh k hkx hk).1;refine hr.newBox hk hkx (fun b hb => ?_) ⟨w.heap.size,a.tmps,DB,Gh.addBox_self,by rw[Gh.addBox_ne hne];exact hD,⟨asn,bo,htag,?_⟩,hr.size,fun i x hx => ?_,fun o => ?_⟩
 ·have hb:(G.addBox k w.heap.size).box k=some b:=hb;rw[Gh.addBox_self]at hb;injection hb with hb;exact hb.symm
 ·rw[pm];simp
 ·obtain⟨v,h1,h2⟩:=hr.frame i x hx;exact⟨v,h1,h2.le hle⟩
 ·cases hq:(G.addBox k w.heap.size).imm w.heap.size o with
  |none=>rfl|some v=>
   have:=World.block_lt_of_cell? _ _ (hr.fin.mem.agree _ _ _ hq);simp at this
def ai.nx(hr:ai vek vef veh G s a w){k:Nat}(h:s.nx<=k):ai vek vef veh G { s with nx:=k } a w:=⟨hr.defers,hr.size,hr.frame,fun m hm hl=>hr.fresh m (Nat.le_trans h hm) hl,hr.fin⟩
def zls(hr:ai vek vef veh G s a w){cx:Cx}{ps:Array Tmp}{tag:Nat}{asn bo:Code}(htag:LC.lc tag=some (asn,bo)){s1:St}(h:s.enterRF cx.f ps.toList tag cx.rd=some s1){b:Frame}(hb:b.fn=cx.f)(hrd:qg cx vef veh b) :
  ∃G1 l mark w1,(Instr.enterLoop b.fn a.tmps ps asn bo b.roundOf).run cx.P w = .ok (l,mark) w1/\G1.box s.nx=some l/\G.le G1/\ai vek vef veh G1 s1 { a with defers:=mark++a.defers } w1/\s1.nx=s.nx+32:=by
 unfold St.enterRF at h;cases hn:a6 s.nx s.hp<;>rw[hn]at h<;>simp only[qT,qF,reduceCtorEq]at h
 have hk0:=lx hn s.nx (wF _) (by omega)
 have hk1:=lx hn (s.nx+1) (by omega) (by omega)
 unfold qg at hrd;split at h
 ·rename_i hc;rw[hc]at hrd;simp only at hrd;simp only[qI]at h;subst h;have hr1:=hr.newBox (k:=s.nx+1) (bx := .dfr) (o := .deferred (some [])) hk1 (by omega) (fun b hb=>by
   have hb:(G.addBox (s.nx+1) w.heap.size).box (s.nx+1)=some b:=hb;rw[Gh.addBox_self]at hb;injection hb with hb;exact hb.symm)
   ⟨w.heap.size,Gh.addBox_self,pm _ _,fun o=>by
    cases hq:(G.addBox (s.nx+1) w.heap.size).imm w.heap.size o with
    |none=>rfl|some v=>
     have:=World.block_lt_of_cell? _ _ (hr.fin.mem.agree _ _ _ hq);simp at this⟩
  have hk0':ae ((s.nx+1,ah.dfr)::s.hp) s.nx=none:=by
   simp only[ae];have:Nat.beq (s.nx+1) s.nx=false:=by
    cases hq:Nat.beq (s.nx+1) s.nx
    ·rfl
    ·have:=qN hq;omega
   rw[this];exact hk0
  have hr2:=q83 hr1 (k:=s.nx) (D:=s.nx+1) (f:=cx.f) (ps:=ps) htag hk0' (wF _) Gh.addBox_self (by omega)
  have hle1:G.le (G.addBox (s.nx+1) w.heap.size):=Gh.addBox_le (hr.fresh (s.nx+1) (by omega) hk1).1
  have hle2:(G.addBox (s.nx+1) w.heap.size).le ((G.addBox (s.nx+1) w.heap.size).addBox s.nx (w.alloc (.deferred (some []))).heap.size):=Gh.addBox_le (hr1.fresh s.nx (wF _) hk0').1;refine⟨_,w.heap.size+1,[{ target := .collected w.heap.size,args:=#[] }],_,by rw[hrd,hb];exact run_enterLoop_outer _ _ _ _ _,?_,hle1.trans hle2,?_,rfl⟩
  ·rw[Gh.addBox_self,World.size_alloc]
  ·have hr3:=hr2.nx (k:=s.nx+32) (by show s.nx<=_;omega)
   refine⟨?_,hr3.size,hr3.frame,hr3.fresh,hr3.fin⟩;obtain⟨bs,h1,h2⟩:=hr3.defers;refine⟨w.heap.size::bs,by rw[h1];rfl,?_⟩
   simp only[List.map_cons,List.cons.injEq];refine⟨?_,h2⟩;rw[Gh.addBox_ne (by omega),Gh.addBox_self]
 ·rename_i m hc;rw[hc]at hrd;simp only at hrd;obtain⟨B,bx0,e1,e2,e3⟩:=hrd;split at h
  ·rename_i D hm;simp only[qI]at h;subst h;obtain⟨B',tmps,DB,k1,k2,⟨asn',bo',_,k3⟩,_⟩:=hr.fin.mem.holds _ _ hm;have:=hr.fin.keep m bx0 B e2 e1;rw[this]at k1;injection k1 with k1;subst k1
   have hne:D≠s.nx:=fun e=>by subst e;rw[(hr.fresh _ (wF _) hk0).1]at k2;cases k2
   have hr2:=q83 hr (k:=s.nx) (D:=D) (f:=cx.f) (ps:=ps) htag hk0 (wF _) k2 hne;have hle2:G.le (G.addBox s.nx w.heap.size):=Gh.addBox_le (hr.fresh s.nx (wF _) hk0).1;refine⟨_,w.heap.size,[],_,by rw[e3,hb];exact zrx _ _ _ _ _ k3,Gh.addBox_self,hle2,?_,rfl⟩
   exact hr2.nx (k:=s.nx+32) (by show s.nx<=_;omega)
  ·cases h
end
def qxs:Option dd->List Item|none=>[]|some j=>[.code j.code]
section
variable{vek:World}{vef:Gh}{veh:List (Nat×ah)}{G:Gh}{s:St}{a:Act}{w:World}{cx:Cx}{body:Code}{R:Type}
def zbg(ok:cx.Ok body)(hr:ai vek vef veh G s a w){p:List Nat}{g:Operand}{ps:Array Tmp}{asn bo:Code}(hsub:sub body p = .rangeFunc g ps asn bo){q:Rq×St×List AV}(hq:qo1 cx p g ps.toList s=some q)
  {K:Option dd->St->Option R} {x:R} (h:qo2 s.nx q K=some x) {b:Frame} (cs:List Frame) (hb:b.fn=cx.f) (_hkind:b.kind = .normal) (hrd:qg cx vef veh b) (k:List Item) :
  ∃j s' G' a' w',K j s'=some x/\ai vek vef veh G' s' a' w'/\Steps cx.P (lone (b.atR a (.code (.rangeFunc g ps asn bo)::k)) cs w) (lone (b.atR a' (qxs j++k)) cs w'):=by
 unfold qo1 at hq;split at hq
 ·rename_i tag h0 cap ht hg;split at hq
  ·rename_i s1 hs1;split at hq
   ·rename_i q1 hq1;have hq:=qJ hq;subst hq;obtain⟨G1,l,mark,w1,he,hl,hle,hr1,hnx⟩:=zls hr (ok.tags p tag ht g ps asn bo hsub) hs1 hb hrd;unfold qo2 at h;obtain⟨d,hd,h⟩:=Rq.K_some h;simp only at h hd;obtain⟨e,hemem,hc⟩:=zd hq1;unfold qg3 at hc;cases hkk:qx h0 e.key<;>rw[hkk]at hc<;>simp only[qT,qF,reduceCtorEq]at hc
    obtain⟨N,x1,x1',y,k1,k2,k3,k4,k5,k6⟩:=qoh hc hd;subst k2;have hs:=ok.ents e hemem x1 x1' y k1;rw[qxu hkk]at hs;obtain⟨hpl,hct⟩:=hs;unfold zbf at h;simp only at h;cases hbb:dm N&&qt N&&a6 s1.nx s1.hp<;>rw[hbb]at h<;>simp only[qT,qF,reduceCtorEq]at h
    simp only[qA]at hbb;obtain⟨⟨hb1,_⟩,hb2⟩:=hbb
    cases hv:ie (aw N) s1.hp N with
    |none=>rw[hv]at h;simp only[reduceCtorEq]at h|some hpv=>
    cases hvs:bg false [] (AV.rens (aw N) (.yld s.nx::cap)) (Pts.put e.args x1) with
    |none=>rw[hv,hvs]at h;simp only[reduceCtorEq]at h|some ps1=>
    rw[hv,hvs]at h;simp only at h
    cases hvw:jz hpv (ce e.hp x1') with
    |none=>rw[hvw]at h;simp only[reduceCtorEq]at h|some ps2=>
    rw[hvw]at h;simp only at h;have p1:=k5 _ hvs;have p2:=k6 _ _ hv hvw;obtain⟨fs,cps,hge,hfs,hcs⟩:=bi hr hg;have hfs0:fs=#[]:=Array.eq_empty_of_size_eq_zero (by simpa using hfs.length.symm)
    subst hfs0;have hge':({ a with defers:=mark++a.defers }:Act).eval g = .func (.func h0) #[] cps:=hge
    have hres:(resolve a.eval (rangeCall g l) 0).run cx.P w1 = .ok { target := .fn (.func h0) cps,args:=#[.func (.yield l) #[] #[]] } w1:=by
     have hy:a.eval (.const (.func (.yield l) #[] #[])) = .func (.yield l) #[] #[]:=rfl;simp[resolve,hge,Deferred.ofValue,hy]
    have hinv:(invoke (.fn (.func h0) cps) #[.func (.yield l) #[] #[]]).run cx.P w1 = .ok (.enter h0 (#[.func (.yield l) #[] #[]]++cps)) w1:=by
     simp[invoke,hpl _ w1]
    have henter:=stepR_rangeFunc (P:=cx.P) (b:=b) (a:=a) (k:=k) (cs:=cs) he hres hinv;have hreps:ak (.yld s.nx::cap) G1 (.func (.yield l) #[] #[]::cps.toList):=⟨⟨l,hl,rfl⟩,hcs.le hle⟩;have hm:cg (G1.view N) (ce e.hp x1') w1:=(hr1.fin.mem.view hv (qcn hb1)).vw hvw p2;have hreps2:=lf (Gh.le.refl _) (fun e=>by cases e) hvs p1 (ak.ren (G:=G1) (G':=G1.view N) (fun _ _ _ h=>h) (rx N) (ug N) hreps)
    have hcalls:=hct w1 (G1.view N) _ hm hreps2;have e1:(Value.func (.yield l) #[] #[]::cps.toList).toArray=#[.func (.yield l) #[] #[]]++cps:=by simp
    rw[e1]at hcalls;obtain⟨en,w2,fr,hpost,hcomes,hfrfn,hleave⟩:=hcalls (b.atR { a with defers:=mark++a.defers } (.inRangeFunc l::k)::cs)
    obtain⟨G2,v,rfl,_,hle2,hr2⟩:=q9e hr1 hb1 hb2 (wF _) hv hvw p2 hpost;have hsteps:Steps cx.P (lone (b.atR a (.code (.rangeFunc g ps asn bo)::k)) cs w) (lone (b.atR { a with defers:=mark++a.defers } (.endRangeFunc l::k)) cs w2):=by
     refine(Steps.one henter).trans (Steps.trans hcomes (.one ?_));rw[← finish_atR_inRangeFunc l v];exact step_leave_returned hleave
    split at h
    ·rename_i st pe f' n' fr' ps' tag' D' hlk;cases hnb:q9r st<;>rw[hnb]at h<;>simp only[qT,qF,reduceCtorEq]at h
     obtain⟨B,tmps,DB,i1,i2,⟨asn',bo',_,i3⟩,i4,i5,i6⟩:=hr2.fin.mem.holds _ _ hlk;have:=hle2.box _ _ hl;rw[this]at i1;injection i1 with i1;subst i1
     have hend:=run_endLoop (P:=cx.P) i3 (by intro e;simp only at e;subst e;cases hnb)
     have hst:=stepR_endRangeFunc (b:=b) (a:={ a with defers:=mark++a.defers }) (k:=k) (cs:=cs) hend
     have e2:(Option.map Item.code (Option.map dd.code pe)).toList=qxs pe:=by cases pe<;>rfl
     rw[e2]at hst;exact⟨pe,_,G2,{ a with defers:=mark++a.defers },_,h,(hr2.nx (k:=s1.nx+32) (Nat.le_add_right _ _)).setBox (bx' := .dead) hlk (show G2.at s.nx (.loop st pe f' n' fr' ps' tag' D')=some l from this) (fun c hc=>by cases hc) trivial i6,hsteps.trans (.one hst)⟩
    ·cases h
   ·cases hq
  ·cases hq
 ·cases hq
def zrm(ok:cx.Ok body)(hr:ai vek vef veh G s a w){p:List Nat}{g:Operand}{ps:Array Tmp}{asn bo:Code}(hsub:sub body p = .rangeFunc g ps asn bo)
  {K:Option dd->St->Option R} {x:R} (h:rfR cx p g ps.toList s K=some x) {b:Frame} (cs:List Frame) (hb:b.fn=cx.f) (hkind:b.kind = .normal) (hrd:qg cx vef veh b) (k:List Item) :
  ∃j s' G' a' w',K j s'=some x/\ai vek vef veh G' s' a' w'/\Steps cx.P (lone (b.atR a (.code (.rangeFunc g ps asn bo)::k)) cs w) (lone (b.atR a' (qxs j++k)) cs w'):=by
 unfold rfR at h;split at h
 ·rename_i q hq;exact zbg ok hr hsub hq h cs hb hkind hrd k
 ·split at h
  ·rename_i s' hs';have:∃G',ai vek vef veh G' s' a w:=by
    unfold zbh at hs';split at hs'
    ·split at hs'
     ·split at hs'
      ·have hs':=qJ hs';subst hs';obtain⟨G1,hr1⟩:=hr.frzL;exact hr1.coB
      ·cases hs'
     ·cases hs'
    ·cases hs'
   obtain⟨G',hr'⟩:=this;split at h
   ·rename_i q hq;exact zbg ok hr' hsub hq h cs hb hkind hrd k
   ·cases h
  ·cases h
def jl(cx:Cx)(veh:List (Nat×ah)){R:Type}(enc:RS R)(k:List Item)(s:St)(r:R):Prop:=
 ∀(vek:World)(vef G:Gh)(a:Act)(w:World),ai vek vef veh G s a w->∀(b:Frame)(cs:List Frame),b.fn=cx.f->b.kind = .normal->qg cx vef veh b ->
  xe cx.P b.roundOf cx.f (lone (b.atR a k) cs w) cs fun v w'=>∃G',Fin vek vef veh G' (enc.res r).2 w'/\aj (enc.res r).1 G' v
def qqk(cx:Cx)(j:Option dd)(k:List Item):Prop:=match j with|none=>k=[]|some .ret=>∃k',k = .code .ret::k'|some (.exit id)=>cx.rd≠none/\∃k',k = .code (.exit id)::k'/\exitTo id k'=none
def qnf(ok:cx.Ok body)(hid:∀n bx,ae veh n=some bx->az cx.ids n=some n){enc:RS R}{j:Option dd}{r:R}{k:List Item}(hk:qqk cx j k)(h:og cx enc j s=some r):jl cx veh enc k s r:=by
 intro vek vef G a w hr b cs hb hkind hrd;unfold og at h;unfold qg at hrd;split at h
 ·rename_i hrdn;rw[hrdn]at hrd;simp only at hrd;split at h
  ·rename_i s' hs';have h1:Steps cx.P (lone (b.atR a k) cs w) (lone { b.atR a k with mode := .returning } cs w):=by
    cases j with
    |none=>simp only[qqk]at hk;subst hk;exact .one (stepR_end hrd)|some j=>cases j with
     |ret=>obtain⟨k',rfl⟩:=hk;exact .one (stepR_ret hrd)
     |exit id=>exact absurd hrdn hk.1
   obtain⟨w',i1,i2⟩:=q54 (P:=cx.P) rfl hs' hr { b.atR a k with mode := .returning } cs rfl rfl
   obtain⟨u,u1,u2⟩:=qns (P:=cx.P) i1 hid h;rw[hrd];exact⟨u,w',_,u2,h1.trans i2,hb,rfl,rfl,hkind,cx.fn,by rw[← ok.func,← hb];rfl,u1⟩
  ·cases h
 ·rename_i m hrdm;rw[hrdm]at hrd;simp only at hrd;obtain⟨B,bx0,e1,e2,e3⟩:=hrd;cases hd:s.noDf<;>rw[hd]at h<;>simp only[qT,qF,reduceCtorEq]at h
  split at h
  ·rename_i st pe f n fr ps tag D hl;obtain⟨B',tmps,DB,i1,i2,⟨asn,bo,i3,i4⟩,i5,i6,i7⟩:=hr.fin.mem.holds _ _ hl;have:=hr.fin.keep m bx0 B e2 e1;rw[this]at i1;injection i1 with i1;subst i1
   have hend:=run_endRound (P:=cx.P) (j.map dd.code) i4;have hiso:(j.map dd.code).isNone=tv j:=by cases j<;>rfl
   rw[hiso]at hend;have hst:(if tv j=true then LoopState.ready else LoopState.done)=(bif tv j then LoopState.ready else LoopState.done):=by cases tv j<;>rfl
   rw[hst]at hend;have hr2:=hr.setBox (bx' := .loop (bif tv j then .ready else .done) j f n fr ps tag D) (o := .loop { state:=bif tv j then .ready else .done,pending:=j.map dd.code,fn:=f,tmps:=tmps,params:=ps.toArray,assign:=asn,body:=bo,defers:=DB }) hl (show G.box m=some B from this)
    (fun c hc=>by have hc:G.box m=some c:=hc;rw[this]at hc;injection hc with hc;exact hc.symm)
    ⟨B,tmps,DB,this,i2,⟨asn,bo,i3,by rw[World.putObj_heap_same (Array.getElem?_eq_some_iff.1 i4).1]⟩,i5,i6,i7⟩ i7
   have hfin:=qns (P:=cx.P) hr2 hid h;rw[e3];intro c cs' hcs;subst hcs;refine⟨.bool (tv j),_,hfin _ rfl,.one ?_⟩
   cases j with
   |none=>simp only[qqk]at hk;subst hk;exact stepR_round_end e3 hkind hend|some j=>cases j with
    |ret=>obtain⟨k',rfl⟩:=hk;exact stepR_round_ret e3 hkind hend
    |exit id=>obtain⟨_,k',rfl,hx⟩:=hk;exact stepR_round_exit e3 hkind hx hend
  ·cases h
end
section
variable{veh:List (Nat×ah)}{s:St}{cx:Cx}{body:Code}{R:Type}{enc:RS R}
def jl.via{k k':List Item}{s':St}{r:R}(h:jl cx veh enc k' s' r)(hs:∀vek vef G a w,ai vek vef veh G s a w->∀(b:Frame)(cs:List Frame),b.fn=cx.f->b.kind = .normal->qg cx vef veh b ->
  ∃G' a' w',ai vek vef veh G' s' a' w'/\Steps cx.P (lone (b.atR a k) cs w) (lone (b.atR a' k') cs w')):jl cx veh enc k s r:=by
 intro vek vef G a w hr b cs hb hk hrd;obtain⟨G',a',w',h1,h2⟩:=hs vek vef G a w hr b cs hb hk hrd;exact(h vek vef G' a' w' h1 b cs hb hk hrd).head h2
def jl.one{k k':List Item}{r:R}(h:jl cx veh enc k' s r)(hs:∀(a:Act)(w:World)(b:Frame)(cs:List Frame),step cx.P (lone (b.atR a k) cs w) = .next (lone (b.atR a k') cs w)):jl cx veh enc k s r:=
 h.via fun _ _ G a w hr b cs _ _ _=>⟨G,a,w,hr,.one (hs a w b cs)⟩
def qf(cx:Cx)(veh:List (Nat×ah)){R:Type}(enc:RS R)(body:Code)(l:ew R):Prop:=∀d r,l.F d=some r->jl cx veh enc (dx (ni body l.key)) (l.ls.st d) r
def qyq{ids:NM}{s:St}{k:List dj}:∀{ls:List (ew R)}{l:ew R},zw ids s k ls=some l->l∈ls/\qcp l.key k=true
 |[],_,h=>by cases h
 |x::xs,l,h=>by
  simp only[zw]at h;cases hb:qcp x.key k<;>rw[hb]at h<;>simp only[qT,qF]at h
  ·obtain⟨h1,h2⟩:=qyq h;exact⟨qE _ h1,h2⟩
  ·split at h
   ·simp only[qI]at h;subst h;exact⟨qH,hb⟩
   ·rename_i l' hl;split at h
    ·simp only[qI]at h;subst h;exact⟨qH,hb⟩
    ·simp only[qI]at h;subst h;obtain⟨h1,h2⟩:=qyq hl;exact⟨qE _ h1,h2⟩
def q9y{i:dj}{k:List dj}(h:∀x∈i::k,x.Ok body):i.Ok body/\∀x∈k,x.Ok body:=⟨h _ qH,fun x hx=>h x (qE _ hx)⟩
def lu{i:dj}{k:List dj}(h:i.Ok body)(k':∀x∈k,x.Ok body):∀x∈i::k,x.Ok body:=fun x hx=>by
 rcases List.mem_cons.1 hx with rfl|hx
 ·exact h
 ·exact k' x hx
def zkg{kd:Nat}{p:List Nat}{c:Code}(h:(dj.mk kd p (.code c)).Ok body):sub body p=c:=znc h
def qn{p:List Nat}{c:Code}(i:Nat){x:Code}(h:sub body p=c)(hc:gh i c=x):(dj.mk 0 (i::p) (.code x)).Ok body:=by
 show Item.code x = .code (gh i (sub body p));rw[h,hc]
def zjl{p:List Nat}{id:Nat}{x:Code}(h:sub body p = .block id x):(dj.mk 1 p (.inBlock id)).Ok body:=by
 show Item.inBlock id=(match sub body p with | .block id _ => .inBlock id|c => .code c)
 rw[h]
def q82{p:List Nat}{x:Code}(h:sub body p = .loop x):(dj.mk 2 p (.inLoop x)).Ok body:=by
 show Item.inLoop x=(match sub body p with | .loop x => .inLoop x|c => .code c)
 rw[h]
def zsv{P:Program}{b:Frame}{a:Act}{k:List Item}{cs:List Frame}{w:World}{x:Code}:step P (lone (b.atR a (.inScope x::k)) cs w) = .next (lone (b.atR a k) cs w):=
 step_lone_go (by simp[stepG,stepG.exec,Frame.atR])
def zsw{P:Program}{b:Frame}{a:Act}{k:List Item}{cs:List Frame}{w:World}{c:Code} :
  step P (lone (b.atR a (.code (.scope c)::k)) cs w) = .next (lone (b.atR a (.code c :: .inScope c::k)) cs w):=
 step_lone_go (by simp[stepG,stepG.exec,Frame.atR])
def zr6{p:List Nat}{x:Code}(h:sub body p = .scope x):(dj.mk 3 p (.inScope x)).Ok body:=by
 show Item.inScope x=(match sub body p with | .scope x => .inScope x|c => .code c)
 rw[h]
def qw5{id:Nat}:∀{k:List dj},pg id k=none->(∀i∈k,i.Ok body)->exitTo id (dx k)=none
 |[],_,_=>rfl|⟨kd,p,it⟩::k,h,hk=>by
  simp only[pg]at h;have hk':=(q9y hk).2;split at h
  ·rename_i id';split at h
   ·cases h
   ·rename_i he;simp only[dx,exitTo];rw[qW he];exact qw5 h hk'
  ·rename_i hne;have:=qw5 h hk';simp only[dx];cases it<;>first
    |(exfalso;exact hne _ rfl)
    |(simp only[exitTo];exact this)
abbrev IH(cx:Cx)(veh:List (Nat×ah)){R:Type}(enc:RS R)(body:Code)(labs:List (ew R))(n:Nat):Prop:=
 ∀(chk:Bool)(k:List dj)(s:St)(r:R),(∀i∈k,i.Ok body)->run cx enc labs n chk k s=some r->jl cx veh enc (dx k) s r
def zz(cx:Cx){R:Type}(enc:RS R)(labs:List (ew R))(n:Nat)(p:List Nat)(k':List dj)(s:St)(c:Code):Option R:=match c with
 |.skip=>run cx enc labs n true k' s|.label _=>run cx enc labs n true k' s|.seq x y=>run cx enc labs n true (⟨0,0::p,.code x⟩::⟨0,1::p,.code y⟩::k') s|.cond c x y=>match s.ev c with|some (.bool b)=>bif b then run cx enc labs n true (⟨0,0::p,.code x⟩::k') (s.know c true) else run cx enc labs n true (⟨0,1::p,.code y⟩::k') (s.know c false)|some (.val (.bool b))=>bif b then run cx enc labs n true (⟨0,0::p,.code x⟩::k') s else run cx enc labs n true (⟨0,1::p,.code y⟩::k') s|_=>none
 |.block id x=>run cx enc labs n true (⟨0,0::p,.code x⟩::⟨1,p,.inBlock id⟩::k') s|.loop x=>run cx enc labs n true (⟨0,0::p,.code x⟩::⟨2,p,.inLoop x⟩::k') s|.scope x=>run cx enc labs n true (⟨0,0::p,.code x⟩::⟨3,p,.inScope x⟩::k') s|.exit id=>match pg id k' with
  |some k''=>run cx enc labs n true k'' s|none=>match cx.rd with|some _=>og cx enc (some (.exit id)) s|none=>none
 |.region _ ops d=>bif d then qwy cx.P cx.tb ops s (fun s'=>run cx enc labs n true k' s'.bump) else zt cx.P cx.tb ops ops.toList s (fun s'=>run cx enc labs n true k' s'.bump)
 |.ret=>og cx enc (some .ret) s|.rangeFunc g ps _ _=>rfR cx p g ps.toList s fun j s'=>match j with
  |none=>run cx enc labs n true k' s'|some .ret=>og cx enc (some .ret) s'|some (.exit id)=>match pg id k' with
   |some k''=>run cx enc labs n true k'' s'|none=>match cx.rd with|some _=>og cx enc (some (.exit id)) s'|none=>none
 |_=>none
def zrw{labs:List (ew R)}{n:Nat}(ih:IH cx veh enc body labs n){p:List Nat}{k':List dj}{c:Operand}{x y:Code}{r:R}(hsub:sub body p = .cond c x y)(hk':∀i∈k',i.Ok body)(h:zz cx enc labs n p k' s (.cond c x y)=some r):jl cx veh enc (.code (.cond c x y)::dx k') s r:=by
 unfold zz at h;simp only at h;split at h
 ·rename_i t ht;cases t<;>simp only[qT,qF]at h
  ·refine(ih true _ _ r (lu (qn 1 hsub rfl) hk') h).via fun vek vef G a w hr b cs _ _ _ => ?_
   have he:a.eval c = .bool false:=bi hr ht;exact⟨G,a,w,hr.know he,.one (stepR_cond he)⟩
  ·refine(ih true _ _ r (lu (qn 0 hsub rfl) hk') h).via fun vek vef G a w hr b cs _ _ _ => ?_
   have he:a.eval c = .bool true:=bi hr ht;exact⟨G,a,w,hr.know he,.one (stepR_cond he)⟩
 ·rename_i t ht;cases t<;>simp only[qT,qF]at h
  ·refine(ih true _ _ r (lu (qn 1 hsub rfl) hk') h).via fun vek vef G a w hr b cs _ _ _ => ?_
   have he:a.eval c = .bool false:=bi hr ht;exact⟨G,a,w,hr,.one (stepR_cond he)⟩
  ·refine(ih true _ _ r (lu (qn 0 hsub rfl) hk') h).via fun vek vef G a w hr b cs _ _ _ => ?_
   have he:a.eval c = .bool true:=bi hr ht;exact⟨G,a,w,hr,.one (stepR_cond he)⟩
 ·cases h
def zr1(ok:cx.Ok body){labs:List (ew R)}{n:Nat}(ih:IH cx veh enc body labs n){p:List Nat}{k':List dj}{id:Nat}{ops:Array Oper}{d:Bool}{r:R}(hk':∀i∈k',i.Ok body)(h:zz cx enc labs n p k' s (.region id ops d)=some r):jl cx veh enc (.code (.region id ops d)::dx k') s r:=by
 unfold zz at h;simp only at h;cases d<;>simp only[qT,qF]at h
 ·intro vek vef G a w hr b cs hb hkd hrd;have hops:=q92 (P:=cx.P) (ops:=ops) ok.ents (N:=fun a' w'=>xe cx.P b.roundOf cx.f (lone (b.atR a' (dx k')) cs w') cs fun v w'=>∃G',Fin vek vef veh G' (enc.res r).2 w'/\aj (enc.res r).1 G' v)
   (fun s' h' G' a' w' hr'=>ih true k' s'.bump r hk' h' vek vef G' a' w' hr'.bump b cs hb hkd hrd) ops.toList 0 s G a w (fun j hj=>by simp) h hr
  have e:List.range' 0 ops.toList.length=List.range ops.size:=by simp[List.range_eq_range']
  rw[e]at hops;obtain⟨a',w',h1,h2⟩:=zkz (id:=id) hops b (dx k') cs hkd;exact h1.head h2
 ·intro vek vef G a w hr b cs hb hkd hrd;obtain⟨a',w',h1,h2⟩:=zlg (P:=cx.P) ok.ents ok.mixed h (N:=fun a' w'=>xe cx.P b.roundOf cx.f (lone (b.atR a' (dx k')) cs w') cs fun v w'=>∃G',Fin vek vef veh G' (enc.res r).2 w'/\aj (enc.res r).1 G' v)
   (fun s' h' G' a' w' hr'=>ih true k' s'.bump r hk' h' vek vef G' a' w' hr'.bump b cs hb hkd hrd) hr id b (dx k') cs hkd
  exact h1.head h2
def zbz(ok:cx.Ok body)(hid:∀n bx,ae veh n=some bx->az cx.ids n=some n){labs:List (ew R)}{n:Nat}(ih:IH cx veh enc body labs n){k':List dj}{id:Nat}{r:R}(hk':∀i∈k',i.Ok body)
  (h:(match pg id k' with
   |some k''=>run cx enc labs n true k'' s|none=>match cx.rd with
    |some _=>og cx enc (some (.exit id)) s| none=>none)=some r):jl cx veh enc (.code (.exit id)::dx k') s r:=by
 split at h
 ·rename_i k'' hx;obtain⟨h1,h2⟩:=qw6 hx;exact(ih true k'' s r (fun i hi=>hk' i (h2 i hi)) h).one fun a w b cs=>stepR_exit h1
 ·rename_i hx;split at h
  ·rename_i m hm;exact qnf ok hid (j:=some (.exit id)) ⟨by rw[hm];simp,_,rfl,qw5 hx hk'⟩ h
  ·cases h
def zr0(ok:cx.Ok body)(hid:∀n bx,ae veh n=some bx->az cx.ids n=some n){labs:List (ew R)}{n:Nat}(ih:IH cx veh enc body labs n){p:List Nat}{k':List dj}{g:Operand}{ps:Array Tmp}{asn bo:Code}{r:R}(hsub:sub body p = .rangeFunc g ps asn bo)(hk':∀i∈k',i.Ok body)
  (h:zz cx enc labs n p k' s (.rangeFunc g ps asn bo)=some r):jl cx veh enc (.code (.rangeFunc g ps asn bo)::dx k') s r:=by
 unfold zz at h;simp only at h;intro vek vef G a w hr b cs hb hkd hrd;obtain⟨j,s',G',a',w',h1,h2,h3⟩:=zrm ok hr hsub h cs hb hkd hrd (dx k');refine xe.head h3 ?_
 cases j with
 |none=>exact ih true k' s' r hk' h1 vek vef G' a' w' h2 b cs hb hkd hrd|some j=>cases j with|ret=>exact qnf ok hid (j:=some .ret) (k := .code .ret::dx k') ⟨_,rfl⟩ h1 vek vef G' a' w' h2 b cs hb hkd hrd|exit id=>exact zbz ok hid ih hk' h1 vek vef G' a' w' h2 b cs hb hkd hrd
def zrv(ok:cx.Ok body)(hid:∀n bx,ae veh n=some bx->az cx.ids n=some n){labs:List (ew R)}{n:Nat}(ih:IH cx veh enc body labs n){kd:Nat}{p:List Nat}{k':List dj}{c:Code}{r:R}(hi:(dj.mk kd p (.code c)).Ok body)(hk':∀i∈k',i.Ok body)
  (h:zz cx enc labs n p k' s c=some r):jl cx veh enc (.code c::dx k') s r:=by
 have hsub:=zkg hi
 cases c with
 |skip=>exact(ih true k' s r hk' h).one fun a w b cs=>stepR_skip
 |label l=>exact(ih true k' s r hk' h).one fun a w b cs=>stepR_label
 |seq x y=>exact(ih true _ s r (lu (qn 0 hsub rfl) (lu (qn 1 hsub rfl) hk')) h).one fun a w b cs=>stepR_seq
 |cond c x y=>exact zrw ih hsub hk' h|block id x=>exact(ih true _ s r (lu (qn 0 hsub rfl) (lu (zjl hsub) hk')) h).one fun a w b cs=>stepR_block
 |loop x=>exact(ih true _ s r (lu (qn 0 hsub rfl) (lu (q82 hsub) hk')) h).one fun a w b cs=>stepR_loop
 |scope x=>exact(ih true _ s r (lu (qn 0 hsub rfl) (lu (zr6 hsub) hk')) h).one fun a w b cs=>zsw
 |exit id=>exact zbz ok hid ih hk' h|region id ops d=>exact zr1 ok ih hk' h|ret=>exact qnf ok hid (j:=some .ret) ⟨_,rfl⟩ h|rangeFunc g ps asn bo=>exact zr0 ok hid ih hsub hk' h|_=>cases h
def zru{labs:List (ew R)}{n:Nat}(ih:IH cx veh enc body labs n){k':List dj}{r:R}(hk':∀i∈k',i.Ok body)
  (h:(match cx.rd with
   |some m=>match ae s.hp m with|some (.loop .ready pe f n' fr ps tag D)=>run cx enc labs n true k' { s with hp:=(m,.loop .busy pe f n' fr ps tag D)::s.hp }|_=>none
   | none=>none)=some r):jl cx veh enc (.beginRound::dx k') s r:=by
 split at h
 ·rename_i m hm;split at h
  ·rename_i pe f n' fr ps tag D hl;refine(ih true k' _ r hk' h).via fun vek vef G a w hr b cs _ _ hrd => ?_
   unfold qg at hrd;rw[hm]at hrd;simp only at hrd;obtain⟨B,bx0,e1,e2,e3⟩:=hrd;obtain⟨B',tmps,DB,i1,i2,⟨asn,bo,i3,i4⟩,i5,i6,i7⟩:=hr.fin.mem.holds _ _ hl;have:=hr.fin.keep m bx0 B e2 e1;rw[this]at i1;injection i1 with i1;subst i1
   have hbr:=run_beginRound (P:=cx.P) i4 rfl;exact⟨G,a,_,hr.setBox (bx' := .loop .busy pe f n' fr ps tag D) hl (show G.box m=some B from this)
    (fun c hc=>by have hc:G.box m=some c:=hc;rw[this]at hc;injection hc with hc;exact hc.symm)
    ⟨B,tmps,DB,this,i2,⟨asn,bo,i3,by rw[World.putObj_heap_same (Array.getElem?_eq_some_iff.1 i4).1]⟩,i5,i6,i7⟩ i7,.one (stepR_beginRound e3 hbr)⟩
  ·cases h
 ·cases h
def qzc(ok:cx.Ok body)(hid:∀n bx,ae veh n=some bx->az cx.ids n=some n){labs:List (ew R)}(hlab:∀l∈labs,qf cx veh enc body l) :
  ∀(n:Nat)(chk:Bool)(k:List dj)(s:St)(r:R),(∀i∈k,i.Ok body)->run cx enc labs n chk k s=some r->jl cx veh enc (dx k) s r:=by
 intro n
 induction n with
 |zero=>intro chk k s r _ h;cases h
 |succ n ih=>
  intro chk k s r hk h;unfold run at h
  cases hl:(bif chk then zw cx.ids s k labs else none) with
  |some lab=>
   rw[hl]at h;have hl:zw cx.ids s k labs=some lab:=by cases chk<;>simp only[qT,qF,reduceCtorEq]at hl;exact hl
   obtain⟨hm,hkey⟩:=qyq hl;simp only at h;split at h
   ·rename_i d hd;have hg:=hlab lab hm d r h;rw[q61 hkey hk]at hg;refine hg.via fun vek vef G a w hr b cs _ _ _ => ?_
    obtain⟨G1,hr1⟩:=hr.co lab.ls cx.ids;obtain⟨G2,hr2⟩:=hr1.fit hid hd;exact⟨G2,a,w,hr2,.refl _ _⟩
   ·cases h
  |none=>
   rw[hl]at h;simp only at h;clear hl
   cases k with
   |nil=>exact qnf ok hid (by rfl) h|cons i k'=>
    obtain⟨kd,p,it⟩:=i;obtain⟨hi,hk'⟩:=q9y hk;clear hk
    cases it with
    |code c=>exact zrv ok hid ih hi hk' h|inBlock id=>exact(ih true k' s r hk' h).one fun a w b cs=>stepR_inBlock
    |inScope id=>exact(ih true k' s r hk' h).one fun a w b cs=>zsv
    |inLoop x=>
     have hsub:sub body p = .loop x:=znd hi;exact(ih true _ s r (lu (qn 0 hsub rfl) (lu (q82 hsub) hk')) h).one fun a w b cs=>stepR_inLoop
    |beginRound=>exact zru ih hk' h|_=>cases h
end
def St.reCell(s:St)(b off:Nat):St:=
 match ae s.hp b with
 |some (.cells cs T)=>match cs[off]? with
  |some (.own k)=>match ae s.hp k with|some (.row τ l E)=>bif a6 s.nx s.hp then{ s with hp:=(b,.cells (cs.set off (.own s.nx)) T)::(s.nx,.row τ l E)::(k,.dead)::s.hp,nx:=s.nx+32 } else s|_=>s
  |_=>s
 |_=>s
def qoa:Pt->Bool|.own _=>true|_=>false
def reB1(b:Nat):List Pt->Nat->St->St|[],_,s=>s|p::ps,off,s=>reB1 b ps (off+1) (bif qoa p then s.reCell b off else s)
def reB:List (Nat×be)->St->St
 |[],s=>s|(n,p)::r,s=>match p with|.cells ps _=>reB r (reB1 n ps 0 s)|_=>reB r s
def St.reSlot(s:St)(i:Nat):St:=
 match ae s.fr i with
 |some (.own k)=>match ae s.hp k with|some (.row τ l E)=>bif a6 s.nx s.hp&&Nat.blt i s.n then{ s with fr:=(i,.own s.nx)::s.fr,hp:=(s.nx,.row τ l E)::(k,.dead)::s.hp,nx:=s.nx+32 } else s|_=>s
 |_=>s
def reA:List Pt->Nat->St->St|[],_,s=>s|p::ps,i,s=>reA ps (i+1) (bif qoa p then s.reSlot i else s)
section
variable{vek:World}{vef:Gh}{veh:List (Nat×ah)}{G:Gh}{s:St}{a:Act}{w:World}
def Fin.rename{hp:List (Nat×ah)}(hf:Fin vek vef veh G hp w){k k':Nat}{τ:Ty}{l:List τ.den}{E:TypeId}{v:Option Addr×Nat×Nat}(hk:ae hp k=some (.row τ l E))(hk':ae hp k'=none)(hfr:G.own k'=none)(ho:G.own k=some v) :
  Fin vek vef veh (G.addOwn k' v) ((k',.row τ l E)::(k,.dead)::hp) w:=by
 have hle:G.le (G.addOwn k' v):=Gh.addOwn_le hfr;have hlk:∀m b,ae ((k',ah.row τ l E)::(k,.dead)::hp) m=some b->(m=k'/\b = .row τ l E)\/b = .dead\/(m≠k/\ae hp m=some b):=fun m b h=>by
  simp only[ae]at h;cases hb:Nat.beq k' m
  ·rw[hb]at h;cases hb2:Nat.beq k m
   ·rw[hb2]at h;exact .inr (.inr ⟨fun e=>by subst e;simp at hb2,h⟩)
   ·rw[hb2]at h;simp only[qT,qF,qI]at h;exact .inr (.inl h.symm)
  ·rw[hb]at h;simp only[qT,qI]at h;exact .inl ⟨(qN hb).symm,h.symm⟩
 have hat:(G.addOwn k' v).at k' (.row τ l E)=G.at k (.row τ l E):=by simp only[Gh.at,Gh.addOwn_self,ho]
 refine⟨⟨hf.mem.agree,hf.mem.one,?_,?_,hf.mem.tab⟩,hf.bel,hf.imm_le,hf.imm_new,?_,fun n bx B h1 h2=>hle.box _ _ (hf.keep n bx B h1 h2),fun n bx B h1 h2=>hle.own _ _ (hf.keepOwn n bx B h1 h2)⟩
 ·intro m b h;rcases hlk m b h with⟨rfl,rfl⟩|rfl|⟨_,h⟩
  ·obtain⟨ad,c,i1,i2⟩:=hf.mem.holds k _ hk;rw[ho]at i1;injection i1 with i1;subst i1
   exact⟨ad,c,Gh.addOwn_self,i2⟩
  ·trivial
  ·exact(hf.mem.holds m b h).mono hle (fun _ _=>rfl) (fun _ _ _ h => .inl h)
 ·intro m m' b b' c h1 h2 h3 h4;rcases hlk m b h1 with⟨rfl,rfl⟩|rfl|⟨n1,g1⟩<;>rcases hlk m' b' h2 with⟨e2,rfl⟩|rfl|⟨n2,g2⟩
  ·exact e2.symm
  ·cases h4
  ·rw[hat]at h3;rw[(hf.mem.holds m' b' g2).at_le hle]at h4;exact absurd (hf.mem.apart m' k b' _ c g2 hk h4 h3) n2
  ·cases h3
  ·cases h3
  ·cases h3
  ·subst e2;rw[hat]at h4;rw[(hf.mem.holds m b g1).at_le hle]at h3;exact absurd (hf.mem.apart m k b _ c g1 hk h3 h4) n1
  ·cases h4
  ·rw[(hf.mem.holds m b g1).at_le hle]at h3;rw[(hf.mem.holds m' b' g2).at_le hle]at h4;exact hf.mem.apart m m' b b' c g1 g2 h3 h4
 ·intro m b c h1 h2;rcases hlk m b h1 with⟨rfl,rfl⟩|rfl|⟨n1,h1⟩
  ·rw[hat]at h2;exact hf.base k _ c hk h2
  ·cases h2
  ·rw[(hf.mem.holds m b h1).at_le hle]at h2;exact hf.base m b c h1 h2
def ai.reCell(hr:ai vek vef veh G s a w)(b off:Nat):∃G',ai vek vef veh G' (s.reCell b off) a w:=by
 unfold St.reCell;split
 ·rename_i cs T hb0;split
  ·rename_i k hx0;split
   ·rename_i τ l E hk0;cases hn:a6 s.nx s.hp
    ·exact⟨G,hr⟩
    ·simp only[qT];have hk:=lx hn s.nx (wF _) (by omega)
     obtain⟨ad,c,i1,_⟩:=hr.fin.mem.holds k _ hk0;have hfresh:=hr.fresh s.nx (wF _) hk;have hle:G.le (G.addOwn s.nx (ad,l.length,c)):=Gh.addOwn_le hfresh.2;have hf:=hr.fin.rename hk0 hk hfresh.2 i1;have hne:s.nx≠b:=fun e=>by rw[e,hb0]at hk;cases hk
     have hne2:k≠b:=fun e=>by rw[e,hb0]at hk0;cases hk0
     have hb1:ae ((s.nx,ah.row τ l E)::(k,.dead)::s.hp) b=some (.cells cs T):=by
      simp only[ae];cases hq:Nat.beq s.nx b
      ·cases hq2:Nat.beq k b
       ·exact hb0
       ·exact absurd (qN hq2) hne2
      ·exact absurd (qN hq) hne
     obtain⟨B,vs,k1,k2,k3,k4,k5⟩:=hf.mem.holds _ _ hb1;have hv:vs.toList[off]? = some (.slice ad l.length c):=by
      obtain⟨v,h1,h2⟩:=kz k3 hx0;obtain⟨a',n',c',q1,q2⟩:=h2;rw[hle.own _ _ i1]at q1;simp only[qI,qP]at q1;obtain⟨rfl,rfl,rfl⟩:=q1;subst q2;exact h1
     have hset:vs.toList.set off (.slice ad l.length c)=vs.toList:=by
      obtain⟨hlt,he⟩:=List.getElem?_eq_some_iff.1 hv;rw[← he,List.set_getElem_self]
     refine⟨G.addOwn s.nx (ad,l.length,c),⟨by obtain⟨bs,q1,q2⟩:=hr.defers;exact⟨bs,q1,qr hle.box q2⟩,hr.size,fun j x hx=>by obtain⟨v,h1,h2⟩:=hr.frame j x hx;exact⟨v,h1,h2.le hle⟩,fun m hm hl => ?_,?_⟩⟩
     ·simp only at hm;have hmn:s.nx≠m:=by omega
      simp only[ae]at hl;cases hq:Nat.beq b m<;>rw[hq]at hl<;>simp only[qT,qF,reduceCtorEq]at hl
      cases hq1:Nat.beq s.nx m<;>rw[hq1]at hl<;>simp only[qT,qF,reduceCtorEq]at hl
      cases hq2:Nat.beq k m<;>rw[hq2]at hl<;>simp only[qT,qF,reduceCtorEq]at hl
      obtain⟨h1,h2⟩:=hr.fresh m (by omega) hl
      refine⟨h1,?_⟩;show(bif Nat.beq m s.nx then some _ else G.own m)=none
      cases hbm:Nat.beq m s.nx
      ·exact h2
      ·exact absurd (qN hbm).symm hmn
     ·refine hf.update (bx := .cells cs T) (bx' := .cells (cs.set off (.own s.nx)) T) hb1 (B:=B) k1 k1 ⟨rfl,rfl,rfl,wF _,fun _ _ _=>rfl⟩ ⟨B,vs,k1,k2,?_,k4,k5⟩ k5
      have:=qid off k3 (x := .own s.nx) (v := .slice ad l.length c) ⟨ad,l.length,c,Gh.addOwn_self,rfl⟩
      rwa [hset]at this
   ·exact⟨G,hr⟩
  ·exact⟨G,hr⟩
 ·exact⟨G,hr⟩
def ai.reSlot(hr:ai vek vef veh G s a w)(i:Nat):∃G',ai vek vef veh G' (s.reSlot i) a w:=by
 unfold St.reSlot;split
 ·rename_i k hx0;split
  ·rename_i τ l E hk0;cases hn:a6 s.nx s.hp&&Nat.blt i s.n
   ·exact⟨G,hr⟩
   ·simp only[qT];simp only[qA]at hn;have hk:=lx hn.1 s.nx (wF _) (by omega)
    obtain⟨ad,c,i1,_⟩:=hr.fin.mem.holds k _ hk0;have hfresh:=hr.fresh s.nx (wF _) hk;have hle:G.le (G.addOwn s.nx (ad,l.length,c)):=Gh.addOwn_le hfresh.2;refine⟨G.addOwn s.nx (ad,l.length,c),⟨by obtain⟨bs,q1,q2⟩:=hr.defers;exact⟨bs,q1,qr hle.box q2⟩,hr.size,fun j x hx => ?_,fun m hm hl => ?_,hr.fin.rename hk0 hk hfresh.2 i1⟩⟩
    ·simp only[ae]at hx;cases hq:Nat.beq i j
     ·rw[hq]at hx;obtain⟨v,h1,h2⟩:=hr.frame j x hx;exact⟨v,h1,h2.le hle⟩
     ·rw[hq]at hx;simp only[qT,qI]at hx;subst hx;have:=qN hq;subst this;obtain⟨v,h1,a',n',c',q1,q2⟩:=hr.frame i _ hx0;rw[i1]at q1;simp only[qI,qP]at q1;obtain⟨rfl,rfl,rfl⟩:=q1;exact⟨v,h1,ad,l.length,c,Gh.addOwn_self,q2⟩
    ·simp only at hm;have hmn:s.nx≠m:=by omega
     simp only[ae]at hl;cases hq1:Nat.beq s.nx m<;>rw[hq1]at hl<;>simp only[qT,qF,reduceCtorEq]at hl
     cases hq2:Nat.beq k m<;>rw[hq2]at hl<;>simp only[qT,qF,reduceCtorEq]at hl
     obtain⟨h1,h2⟩:=hr.fresh m (by omega) hl
     refine⟨h1,?_⟩;show(bif Nat.beq m s.nx then some _ else G.own m)=none
     cases hbm:Nat.beq m s.nx
     ·exact h2
     ·exact absurd (qN hbm).symm hmn
  ·exact⟨G,hr⟩
 ·exact⟨G,hr⟩
def ai.reA:∀{ps:List Pt}{i:Nat}{s:St}{G:Gh},ai vek vef veh G s a w->∃G',ai vek vef veh G' (reA ps i s) a w
 |[],_,s,G,hr=>⟨G,hr⟩|p::ps,i,s,G,hr=>by
  unfold Sym.reA;cases qoa p
  ·exact ai.reA hr
  ·obtain⟨G',hr'⟩:=hr.reSlot i;exact ai.reA hr'
def ai.reB1{b:Nat}:∀{ps:List Pt}{off:Nat}{s:St}{G:Gh},ai vek vef veh G s a w->∃G',ai vek vef veh G' (reB1 b ps off s) a w
 |[],_,s,G,hr=>⟨G,hr⟩|p::ps,off,s,G,hr=>by
  unfold Sym.reB1;cases qoa p
  ·exact ai.reB1 hr
  ·obtain⟨G',hr'⟩:=hr.reCell b off;exact ai.reB1 hr'
def ai.reB:∀{l:List (Nat×be)}{s:St}{G:Gh},ai vek vef veh G s a w->∃G',ai vek vef veh G' (reB l s) a w
 |[],s,G,hr=>⟨G,hr⟩|(n,p)::r,s,G,hr=>by
  unfold Sym.reB;split
  ·obtain⟨G',hr'⟩:=hr.reB1;exact ai.reB hr'
  ·exact ai.reB hr
end
def eh:List (Nat×be)->NM|[]=>[]|(n,_)::r=>(n,n)::eh r
def ju(N:NM)(n:Nat):Bool:=match aw N n with|some m=>Nat.beq m n|none=>false
def vm{N:NM}{n:Nat}(h:ju N n=true):aw N n=some n:=by
 unfold ju at h;split at h
 ·rename_i m hm;have:=qN h;subst this;exact hm
 ·cases h
mutual
def qyx(N:NM):Pt->Bool|.agg ps=>rp N ps|.tup ps=>rp N ps|.ptr b _=>ju N b|.own k=>ju N k|.el k _=>ju N k|.iel _ k _=>ju N k|.yld k=>ju N k|.pn k=>ju N k|.fn _ ps=>rp N ps|_=>true
def rp(N:NM):List Pt->Bool|[]=>true|p::ps=>qyx N p&&rp N ps
end
def zi0{ρ:Nat->Option Nat}:∀{τ:Ty}{d:τ.den},(τ.av d).ren ρ=τ.av d|.int _,_=>rfl|.byte,_=>rfl|.bool,_=>rfl|.str,_=>rfl|.unit,_=>rfl|.list _,_=>rfl|.prod a b,d=>by show AV.agg (AV.rens ρ ((Ty.prod a b).enc d))=_;rw[Ty.enc_ren];rfl|.tree a,d=>by show AV.agg (AV.rens ρ ((Ty.tree a).enc d))=_;rw[Ty.enc_ren];rfl
mutual
def zal{N:NM}:∀{p:Pt}{d:p.den},qyx N p=true->(p.put d).ren (aw N)=p.put d|.h τ,d,_=>zi0|.c _,_,_=>rfl|.agg ps,d,h=>congrArg AV.agg (zy (ps:=ps) (d:=d) h)|.tup ps,d,h=>congrArg AV.tup (zy (ps:=ps) (d:=d) h)|.ptr b off,_,h=>by show AV.ren (aw N) (.ptr b off)=_;simp only[AV.ren,vm (show ju N b=true from h)];rfl|.own k,_,h=>by show AV.ren (aw N) (.own k)=_;simp only[AV.ren,vm (show ju N k=true from h)];rfl|.arr _,_,_=>rfl|.el k sz,_,h=>by show AV.ren (aw N) (.oel k sz 0 0)=_;simp only[AV.ren,vm (show ju N k=true from h)];rfl|.iel t k sz,_,h=>by show AV.ren (aw N) (.iface t (.oel k sz 0 0))=_;simp only[AV.ren,vm (show ju N k=true from h)];rfl|.yld k,_,h=>by show AV.ren (aw N) (.yld k)=_;simp only[AV.ren,vm (show ju N k=true from h)];rfl|.pn k,_,h=>by show AV.ren (aw N) (.pn k)=_;simp only[AV.ren,vm (show ju N k=true from h)];rfl|.fn f ps,d,h=>congrArg (AV.fn (.func f) []) (zy (ps:=ps) (d:=d) h)|.u,_,_=>rfl
def zy{N:NM}:∀{ps:List Pt}{d:Pts.den ps},rp N ps=true->AV.rens (aw N) (Pts.put ps d)=Pts.put ps d
 |[],_,_=>rfl|p::ps,d,h=>by
  simp only[rp,qA]at h;have h1:=zal (p:=p) (d:=d.1) h.1;have h2:=zy (ps:=ps) (d:=d.2) h.2;show AV.ren (aw N) (p.put d.1)::AV.rens (aw N) (Pts.put ps d.2)=p.put d.1::Pts.put ps d.2;rw[h1,h2]
end
def fIn(N:NM):List (Nat×Pt)->Bool|[]=>true|(_,p)::r=>qyx N p&&fIn N r
def q7z{N:NM}:∀{l:List (Nat×Pt)}{d:ph l},fIn N l=true->ot (aw N) (ki l d)=ki l d
 |[],_,_=>rfl|(i,p)::r,d,h=>by
  simp only[fIn,qA]at h;have h1:=zal (p:=p) (d:=d.1) h.1;have h2:=q7z (l:=r) (d:=d.2) h.2;show(i,AV.ren (aw N) (p.put d.1))::ot (aw N) (ki r d.2)=(i,p.put d.1)::ki r d.2;rw[h1,h2]
def qv9(N:NM):be->Bool|.cells ps _=>rp N ps|.loop _ _ _ _ fr _ _ D=>ju N D&&fIn N fr|_=>true
def bIn(N:NM):List (Nat×be)->Bool|[]=>true|(n,p)::r=>ju N n&&qv9 N p&&bIn N r
def zjr{N:NM}:∀{p:be}{d:p.den},qv9 N p=true->dh (aw N) (p.put d)=p.put d
 |.cells ps T,d,h=>congrArg (fun l=>ah.cells l T) (zy (ps:=ps) (d:=d) h)
 |.row _ _,_,_=>rfl|.loop st pe f n fr ps tag D,d,h=>by
  simp only[qv9,qA]at h;have h2:=q7z (l:=fr) (d:=d) h.2;have h3:dh (aw N) (.loop st pe f n (ki fr d) ps tag D) = .loop st pe f n (ot (aw N) (ki fr d)) ps tag D:=by simp only[dh,vm h.1]
  exact h3.trans (congrArg (fun l=>ah.loop st pe f n l ps tag D) h2)
 |.dfr,_,_=>rfl|.it,_,_=>rfl|.dead,_,_=>rfl|.dat τ T,d,_=>congrArg (fun l=>ah.cells l T) (Ty.enc_ren (aw N) τ d)
def qvx{N:NM}:∀{l:List (Nat×be)}{d:fm l},bIn N l=true->∀n b,ae (ce l d) n=some b->aw N n=some n/\dh (aw N) b=b
 |[],_,_,_,_,h=>by cases h
 |(m,p)::r,d,h,n,b,hl=>by
  simp only[bIn,qA]at h;have hl:(bif Nat.beq m n then some (p.put d.1) else ae (ce r d.2) n)=some b:=hl
  cases hb:Nat.beq m n
  ·rw[hb]at hl;exact qvx (d:=d.2) h.2 n b hl
  ·rw[hb]at hl;have:=qN hb;subst this;simp only[qT,qI]at hl;subst hl;exact⟨vm h.1.1,zjr h.1.2⟩
def cg.only{G:Gh}{hp:List (Nat×ah)}{w:World}{N:NM}(hm:cg G hp w)(h:∀n b,ae hp n=some b->aw N n=some n/\dh (aw N) b=b):cg (G.view N) hp w:=by
 have hb:∀n b,ae hp n=some b->(G.view N).box n=G.box n/\(G.view N).own n=G.own n:=fun n b hl=>by
  have:=rr (h n b hl).1;exact⟨by simp[Gh.view,this],by simp[Gh.view,this]⟩
 have hat:∀n b c,ae hp n=some b->(G.view N).at n b=some c->G.at n b=some c:=fun n b c hl hc=>by
  have:=(h n b hl).2;exact qk (G:=G) (G':=G.view N) (ρ:=aw N) (hb n b hl).1 (hb n b hl).2 (by rw[this];exact hc)
 refine⟨hm.agree,hm.one,fun n b hl => ?_,fun n m b b' c h1 h2 h3 h4=>hm.apart n m b b' c h1 h2 (hat _ _ _ h1 h3) (hat _ _ _ h2 h4),hm.tab⟩
 have:=cz.ren (G:=G) (G':=G.view N) (ρ:=aw N) (n:=n) (m:=n) (fun _ _ _ h=>h) (fun _ _ _ h=>h) (rx N) (ug N) (fun B hB=>by rw[(hb n b hl).1];exact hB) (fun B hB=>by rw[(hb n b hl).2];exact hB) (hm.holds n b hl)
 rw[(h n b hl).2]at this;exact this
def Fin.only{G G':Gh}{hp hp':List (Nat×ah)}{w w':World}{N:NM}(h:∀n b,ae hp n=some b->aw N n=some n/\dh (aw N) b=b)(hf:Fin w (G.view N) hp G' hp' w'):Fin w G hp G' hp' w':=by
 have hb:∀n b,ae hp n=some b->(G.view N).box n=G.box n/\(G.view N).own n=G.own n:=fun n b hl=>by
  have:=rr (h n b hl).1;exact⟨by simp[Gh.view,this],by simp[Gh.view,this]⟩
 have hblk:∀c,pb (G.view N) hp c->pb G hp c:=fun c⟨n,b,h1,h2⟩=>⟨n,b,h1,qk (G:=G) (G':=G.view N) (ρ:=aw N) (hb n b h1).1 (hb n b h1).2 (by rw[(h n b h1).2];exact h2)⟩
 refine⟨hf.mem,⟨hf.bel.os,hf.bel.tape,hf.bel.output,hf.bel.size,fun k hk hS=>hf.bel.block k hk fun hx=>hS (hblk k hx)⟩,hf.imm_le,fun b o v hv => ?_,fun n b c h1 h2 => ?_,fun n b B h1 h2=>hf.keep n b B h1 (by rw[(hb n b h1).1];exact h2),fun n b B h1 h2=>hf.keepOwn n b B h1 (by rw[(hb n b h1).2];exact h2)⟩
 ·rcases hf.imm_new b o v hv with h|h|h
  ·exact .inl h
  ·exact .inr (.inl h)
  ·exact .inr (.inr (hblk _ h))
 ·rcases hf.base n b c h1 h2 with h|h
  ·exact .inl h
  ·exact .inr (hblk _ h)
def qhq:List AV->Nat->List (Nat×AV)|[],_=>[]|x::xs,i=>(i,x)::qhq xs (i+1)
def q8f:∀{xs:List AV}{G:Gh}{vs:List Value}(i:Nat),ak xs G vs->∀j x,ae (qhq xs i) j=some x->i<=j/\∃v,vs[j-i]? = some v/\aj x G v
 |[],_,[],_,_,j,x,h=>by cases h
 |x::xs,G,v::vs,i,hr,j,y,h=>by
  simp only[qhq,ae]at h;cases hb:Nat.beq i j
  ·rw[hb]at h;obtain⟨h1,u,h2,h3⟩:=q8f (i+1) hr.2 j y h;refine⟨by omega,u,?_,h3⟩
   rw[show j-i=(j-(i+1))+1 by omega];simpa using h2
  ·rw[hb]at h;have:=qN hb;subst this;simp only[qT,qI]at h;subst h;exact⟨wF _,v,by simp,hr.1⟩
 |[],_,_::_,_,h,_,_,_=>h.elim|_::_,_,[],_,h,_,_,_=>h.elim
def qcb{G:Gh}{w:World}{hp:List (Nat×ah)}(hm:cg G hp w):Fin w G hp G hp w:=
 ⟨hm,⟨rfl,rfl,rfl,wF _,fun _ _ _=>rfl⟩,fun _ _ _ h=>h,fun _ _ _ h => .inl h,fun n bx _b h1 h2 => .inr ⟨n,bx,h1,h2⟩,fun _ _ _ _ h=>h,fun _ _ _ _ h=>h⟩
def NX:Nat:=64
def qza(cx:Cx)(body:Code){R:Type}(enc:RS R)(labs:List (ew R))(asn:List Pt)(pts:List (Nat×be))(xs:List AV)(hp:List (Nat×ah)):Option R:=
 run cx enc labs 1000000 true [⟨0,[],.code body⟩] (reB pts (reA (bif cx.tb.sub then asn else[]) 0 { n:=cx.fn.ntmps,fr:=qhq xs 0,hp:=hp,nx:=NX,df:=[] }))
def qnw(cx:Cx)(args:List Pt)(hp:List (Nat×be)):Bool:=rp (eh hp) args&&bIn (eh hp) hp&&Nat.ble args.length cx.fn.ntmps
def qn7:∀{l:List (Nat×be)}{d:fm l}{n:Nat}{b:ah},ae (ce l d) n=some b->az (eh l) n=some n
 |[],_,_,_,h=>by cases h
 |(m,p)::r,d,n,b,h=>by
  have h:(bif Nat.beq m n then some (p.put d.1) else ae (ce r d.2) n)=some b:=h
  simp only[eh,az];cases hb:Nat.beq m n
  ·rw[hb]at h;exact qn7 (d:=d.2) h
  ·have:=qN hb;subst this;rfl
def qyc{m:Nat}:∀{l:List (Nat×be)}{d:fm l},ae (ce l d) m=none->az (eh l) m=none
 |[],_,_=>rfl|(n,p)::r,d,h=>by
  have h:(bif Nat.beq n m then some (p.put d.1) else ae (ce r d.2) m)=none:=h
  simp only[eh,az];cases hb:Nat.beq n m
  ·rw[hb]at h;exact qyc (d:=d.2) h
  ·rw[hb]at h;cases h
def zam:∀{ps:List Pt}{d:Pts.den ps},(Pts.put ps d).length=ps.length|[],_=>rfl|p::ps,d=>by show(p.put d.1::Pts.put ps d.2).length=_;simp[zam]
def di.sound_fn{e:di}{cx:Cx}{body:Code}{labs:List (ew e.R)}(ok:cx.Ok body)(hkey:e.key = .fn cx.f)(hbody:cx.fn.body=some body)(hrd:cx.rd=none)(hids:cx.ids=eh e.hp)(hpl:su cx.P cx.f)
  (hfine:qnw cx e.args e.hp=true) (hlab:∀d',∀l∈labs,qf cx (ce e.hp d') e.out body l) (hF:∀d d',qza cx body e.out labs e.args e.hp (Pts.put e.args d) (ce e.hp d')=e.F d d'):e.Sound cx.P:=by
 intro d d' r hr;rw[hkey];refine⟨hpl,fun w G vs hm hreps => ?_⟩
 simp only[qnw,qA]at hfine;obtain⟨⟨f1,f2⟩,f3⟩:=hfine;have f3:=Nat.le_of_ble_eq_true f3;have hin:=qvx (d:=d') f2;have hm':=hm.only hin;have hreps':ak (Pts.put e.args d) (G.view (eh e.hp)) vs:=by
  have:=ak.ren (ρ:=aw (eh e.hp)) (G:=G) (G':=G.view (eh e.hp)) (fun _ _ _ h=>h) (rx _) (ug _) hreps
  rwa [zy f1]at this
 have hlv:=hreps.length;rw[zam]at hlv;have hrun:=hF d d';rw[hr]at hrun;have hg:=qzc (enc:=e.out) ok (veh:=ce e.hp d') (fun n bx h=>by rw[hids];exact qn7 h) (hlab d') _ _ _ _ _ (fun i hi=>by
  rcases List.mem_cons.1 hi with rfl|hi
  ·rfl
  ·cases hi) hrun
 have hr0:ai w (G.view (eh e.hp)) (ce e.hp d') (G.view (eh e.hp)) { n:=cx.fn.ntmps,fr:=qhq (Pts.put e.args d) 0,hp:=ce e.hp d',nx:=NX,df:=[] } { tmps:=vs.toArray++Array.replicate (cx.fn.ntmps-vs.toArray.size) undef,defers:=[] } w:=by
  refine⟨⟨[],rfl,rfl⟩,by simp;omega,fun i x hx => ?_,fun m _ hl => ?_,qcb hm'⟩
  ·obtain⟨_,v,h2,h3⟩:=q8f 0 hreps' i x hx;refine⟨v,?_,h3⟩;have hlt:i<vs.length:=by have:=(List.getElem?_eq_some_iff.1 h2).1;simpa using this
   rw[Array.getElem?_append_left (by simpa using hlt)]
   simpa using h2
  ·have:az (eh e.hp) m=none:=qyc hl;simp[Gh.view,this]
 obtain⟨G0,hr0'⟩:=hr0.reA (ps:=bif cx.tb.sub then e.args else[]) (i:=0)
 obtain⟨G1,hr1⟩:=hr0'.reB (l:=e.hp);intro cs
 let b:Frame:={ (default:Frame) with fn:=cx.f,kind := .normal }
 have henter:Frame.enter cx.P cx.f vs.toArray .normal=b.atR { tmps:=vs.toArray++Array.replicate (cx.fn.ntmps-vs.toArray.size) undef,defers:=[] } [.code body]:=by
  simp[Frame.enter,Frame.atR,ok.func,hbody,b];rfl
 have:=hg w _ _ _ w hr1 b cs rfl rfl (by unfold qg;rw[hrd];rfl)
 obtain⟨v,w',fr,⟨G',h1,h2⟩,h3,h4,h5⟩:=this;exact⟨.returned v,w',fr,⟨v,G',rfl,h1.only hin,h2⟩,by rw[henter];exact h3,h4,h5⟩
def qia:List Tmp->List AV->List (Nat×AV)->List (Nat×AV)|p::ps,x::xs,fr=>qia ps xs ((p,x)::fr)|_,_,fr=>fr
def qgv(n:Nat):List Nat->Bool|[]=>true|p::ps=>Nat.blt p n&&qgv n ps
def zao{G:Gh}{n:Nat}:∀{ps:List Tmp}{xs:List AV}{vs:List Value}{fr:List (Nat×AV)}{tmps:Array Value},qgv n ps=true->tmps.size=n->ps.length=xs.length->ak xs G vs->(∀i x,ae fr i=some x->∃v,tmps[i]? = some v/\aj x G v) ->
  ((ps.zip vs).foldl (fun(tmps:Array Value)(q:Tmp×Value)=>tmps.setIfInBounds q.1 q.2) tmps).size=n/\∀i x,ae (qia ps xs fr) i=some x->∃v,((ps.zip vs).foldl (fun(tmps:Array Value)(q:Tmp×Value)=>tmps.setIfInBounds q.1 q.2) tmps)[i]? = some v/\aj x G v
 |[],[],[],fr,tmps,_,hn,_,_,hfr=>⟨hn,hfr⟩|p::ps,x::xs,v::vs,fr,tmps,hlt,hn,hl,hr,hfr=>by
  simp only[qgv,qA]at hlt;have hp:p<n:=by have:=hlt.1;simpa using this
  simp only[List.zip_cons_cons,List.foldl_cons,qia];refine zao hlt.2 (by simp[hn]) (by simpa using hl) hr.2 (fun i y hy => ?_)
  simp only[ae]at hy;cases he:Nat.beq p i
  ·rw[he]at hy;simp only[qF]at hy;have hne:p≠i:=fun e=>by subst e;simp at he
   obtain⟨u,h1,h2⟩:=hfr i y hy;exact⟨u,by simp[hne,h1],h2⟩
  ·rw[he]at hy;simp only[qT,qI]at hy;subst hy;have:=qN he;subst this;exact⟨v,by simp[hn,hp],hr.1⟩
 |[],_::_,_,_,_,_,_,h,_,_=>by simp at h|_::_,[],_,_,_,_,_,h,_,_=>by simp at h|[],[],_::_,_,_,_,_,_,h,_=>h.elim|_::_,_::_,[],_,_,_,_,_,h,_=>h.elim
def z6(cx:Cx)(body:Code)(p:List Nat)(m:Nat){R:Type}(enc:RS R)(labs:List (ew R))(pts:List (Nat×be))(xs:List AV)(hp:List (Nat×ah)):Option R:=
 match ae hp m with
 |some (.loop .ready none f n fr ps tag _)=>bif Nat.beq f cx.f&&qgv n ps&&eqLen ps xs&&tagIs tag p cx.tags then
   run cx enc labs 1000000 true (ni body [(0,0::p),(4,[]),(0,1::p)]) (reB pts { n:=n,fr:=qia ps xs fr,hp:=hp,nx:=NX,df:=[] })
  else none
 |_=>none
where
 eqLen:List Tmp->List AV->Bool
  |[],[]=>true|_::ps,_::xs=>eqLen ps xs|_,_=>false
 tagIs (tag:Nat) (p:List Nat) (tags:List (List Nat×Nat)):Bool:=match ra p tags with|some t=>Nat.beq t tag|none=>false
def q62:∀{ps:List Tmp}{xs:List AV},z6.eqLen ps xs=true->ps.length=xs.length
 |[],[],_=>rfl|_::ps,_::xs,h=>by simp[q62 (ps:=ps) (xs:=xs) h]|[],_::_,h=>by cases h
 |_::_,[],h=>by cases h
def q8h:Code->Bool|.rangeFunc _ _ _ _=>true|_=>false
def di.sound_yld{e:di}{cx:Cx}{body:Code}{p:List Nat}{m:Nat}{labs:List (ew e.R)}(ok:cx.Ok body)(hkey:e.key = .yld m)(hrd:cx.rd=some m)(hids:cx.ids=eh e.hp)(hrf:q8h (sub body p)=true)
  (hfine:(rp (eh e.hp) e.args&&bIn (eh e.hp) e.hp)=true) (hlab:∀d',∀l∈labs,qf cx (ce e.hp d') e.out body l) (hF:∀d d',z6 cx body p m e.out labs e.hp (Pts.put e.args d) (ce e.hp d')=e.F d d'):e.Sound cx.P:=by
 intro d d' r hr;rw[hkey];intro w G vs B hm hreps hB;simp only[qA]at hfine;obtain⟨f1,f2⟩:=hfine;have hin:=qvx (d:=d') f2;have hm':=hm.only hin;have hreps':ak (Pts.put e.args d) (G.view (eh e.hp)) vs:=by
  have:=ak.ren (ρ:=aw (eh e.hp)) (G:=G) (G':=G.view (eh e.hp)) (fun _ _ _ h=>h) (rx _) (ug _) hreps
  rwa [zy f1]at this
 have hrun:=hF d d';rw[hr]at hrun;unfold z6 at hrun;split at hrun
 ·rename_i f n fr ps tag D hl;cases hb:Nat.beq f cx.f&&qgv n ps&&z6.eqLen ps (Pts.put e.args d)&&z6.tagIs tag p cx.tags<;>rw[hb]at hrun<;>simp only[qT,qF,reduceCtorEq]at hrun
  simp only[qA]at hb;obtain⟨⟨⟨b1,b2⟩,b3⟩,b4⟩:=hb;have b1:=qN b1;subst b1;have b3:=q62 b3;unfold z6.tagIs at b4;split at b4
  rotate_left
  ·cases b4
  rename_i t ht;have b4:=qN b4;subst b4;obtain⟨B',tmps,DB,i1,i2,⟨asn,bo,i3,i4⟩,i5,i6,i7⟩:=hm'.holds m _ hl;have hBv:(G.view (eh e.hp)).box m=some B:=by
   have:=rr (hin m _ hl).1;simp[Gh.view,this,hB]
  rw[hBv]at i1;injection i1 with i1;subst i1
  obtain⟨g,ps0,x,y,hs⟩:∃g ps x y,sub body p = .rangeFunc g ps x y:=by
   cases hc:sub body p<;>rw[hc]at hrf<;>first|exact⟨_,_,_,_,rfl⟩|cases hrf
  have hcode:=ok.tags p t ht g ps0 x y hs;rw[i3]at hcode;simp only[qI,qP]at hcode;obtain⟨rfl,rfl⟩:=hcode;have hg:=qzc (enc:=e.out) ok (veh:=ce e.hp d') (fun n bx h=>by rw[hids];exact qn7 h) (hlab d') _ _ _ _ _ qxo hrun
  have hlv:=hreps.length;obtain⟨j1,j2⟩:=zao (n:=n) b2 i5 b3 hreps' i6;have hr0:ai w (G.view (eh e.hp)) (ce e.hp d') (G.view (eh e.hp)) { n:=n,fr:=qia ps (Pts.put e.args d) fr,hp:=ce e.hp d',nx:=NX,df:=[] } { tmps:=(ps.zip vs).foldl (fun(tmps:Array Value)(q:Tmp×Value)=>tmps.setIfInBounds q.1 q.2) tmps,defers:=[] } w:=
   ⟨⟨[],rfl,rfl⟩,j1,j2,fun k _ hk=>by simp[Gh.view,qyc hk],qcb hm'⟩
  obtain⟨G1,hr1⟩:=hr0.reB (l:=e.hp);refine⟨_,i4,fun c cs=>⟨by simp;omega,?_⟩⟩
  let b:Frame:={ (default:Frame) with fn:=cx.f,kind := .normal,roundOf:=some B }
  have:=hg w _ _ _ w hr1 b (c::cs) rfl rfl (by unfold qg;rw[hrd];exact⟨B,_,hBv,hl,rfl⟩)
  obtain⟨v,w',⟨G',h1,h2⟩,h3⟩:=this c cs rfl;refine⟨v,w',⟨v,G',rfl,h1.only hin,h2⟩,?_⟩;have e1:Frame.round B cx.f ((ps.toArray.zip vs.toArray).foldl (fun tmps(t,a)=>tmps.setIfInBounds t a) tmps) asn bo .normal=b.atR { tmps:=(ps.zip vs).foldl (fun(tmps:Array Value)(q:Tmp×Value)=>tmps.setIfInBounds q.1 q.2) tmps,defers:=[] } (dx (ni body [(0,0::p),(4,[]),(0,1::p)])):=by
   simp[Frame.round,Frame.atR,b,dx,ni,vo,sub,hs,gh,List.zip_toArray]
  simp only at e1 ⊢;rw[e1];exact h3
 ·cases hrun
def qf.of_run{cx:Cx}{body:Code}{veh:List (Nat×ah)}{R:Type}{enc:RS R}{labs:List (ew R)}(ok:cx.Ok body)(hid:∀n bx,ae veh n=some bx->az cx.ids n=some n)(hlab:∀l∈labs,qf cx veh enc body l){l:ew R}
  (h:∀d,run cx enc labs 1000000 false (ni body l.key) (l.ls.st d)=l.F d):qf cx veh enc body l:=fun d r hr=>by
 have:=h d;rw[hr]at this;exact qzc ok hid hlab _ _ _ _ _ qxo this
end Go.Sym
namespace Go.Sym
open Go.RowKit
def jr(f:Func):Code:=match f.body with|some c=>c|none => .skip
def af(n:Int):Int:=IntKind.i64.wrap n
section
variable[LC]{cx:Cx}{veh:List (Nat×ah)}{R:Type}{enc:RS R}{body:Code}{P:Program}
def ap:∀p t,ra p []=some t->∀g ps x y,sub body p = .rangeFunc g ps x y->LC.lc t=some (x,y):=fun _ _ h=>by cases h
def mc{p:List Nat}{t:Nat}{tags:List (List Nat×Nat)}(h:LC.lc t=some (gh 0 (sub body p),gh 1 (sub body p)))(k:∀p t,ra p tags=some t->∀g ps x y,sub body p = .rangeFunc g ps x y->LC.lc t=some (x,y)) :
  ∀q u,ra q ((p,t)::tags)=some u->∀g ps x y,sub body q = .rangeFunc g ps x y->LC.lc u=some (x,y):=fun q u hq g ps x y hs=>by
 simp only[ra]at hq;cases hb:pf p q
 ·rw[hb]at hq;exact k q u hq g ps x y hs
 ·rw[hb]at hq;simp only[qT,qI]at hq;subst hq;have:=qni hb;subst this;rw[h,hs];rfl
end
abbrev Bs:Type:=List UInt8
def q98:Nat->Nat->List Nat|0,_=>[]|f+1,n=>bif Nat.ble n 1 then[] else Nat.mod n 2::q98 f (Nat.div n 2)
def ao:List (Nat×Nat)->yn|[]=>[]|(k,n)::r=>(k,q98 200 n)::ao r
mutual
def Pt.ts:Pt->List Type->List Type|.h τ,a=>τ.den::a|.agg ps,a=>Pts.ts ps a|.tup ps,a=>Pts.ts ps a|.fn _ ps,a=>Pts.ts ps a|.arr τ,a=>List τ.den::a|_,a=>a
def Pts.ts:List Pt->List Type->List Type|[],a=>a|p::ps,a=>p.ts (Pts.ts ps a)
end
def HL:List Type->Type|[]=>Unit|t::l=>t×HL l
abbrev po:HL []:=()
mutual
def Pt.pk:(p:Pt)->{a:List Type}->p.den->HL a->HL (p.ts a)|.h _,_,d,x=>(d,x)|.agg ps,_,d,x=>Pts.pk ps d x|.tup ps,_,d,x=>Pts.pk ps d x|.fn _ ps,_,d,x=>Pts.pk ps d x|.arr _,_,d,x=>(d,x)|.c _,_,_,x=>x|.ptr _ _,_,_,x=>x|.own _,_,_,x=>x|.el _ _,_,_,x=>x|.iel _ _ _,_,_,x=>x|.yld _,_,_,x=>x|.pn _,_,_,x=>x|.u,_,_,x=>x
def Pts.pk:(ps:List Pt)->{a:List Type}->Pts.den ps->HL a->HL (Pts.ts ps a)|[],_,_,x=>x|p::ps,_,d,x=>p.pk d.1 (Pts.pk ps d.2 x)
end
mutual
def Pt.un:(p:Pt)->{a:List Type}->HL (p.ts a)->p.den×HL a|.h _,_,x=>x|.agg ps,_,x=>Pts.un ps x|.tup ps,_,x=>Pts.un ps x|.fn _ ps,_,x=>Pts.un ps x|.arr _,_,x=>x|.c _,_,x=>((),x)|.ptr _ _,_,x=>((),x)|.own _,_,x=>((),x)|.el _ _,_,x=>((),x)|.iel _ _ _,_,x=>((),x)|.yld _,_,x=>((),x)|.pn _,_,x=>((),x)|.u,_,x=>((),x)
def Pts.un:(ps:List Pt)->{a:List Type}->HL (Pts.ts ps a)->Pts.den ps×HL a|[],_,x=>((),x)|p::ps,_,x=>(((p.un x).1,(Pts.un ps (p.un x).2).1),(Pts.un ps (p.un x).2).2)
end
mutual
def Pt.un_pk:∀(p:Pt){a:List Type}(d:p.den)(x:HL a),p.un (p.pk d x)=(d,x)|.h _,_,_,_=>rfl|.agg ps,_,d,x=>Pts.un_pk ps d x|.tup ps,_,d,x=>Pts.un_pk ps d x|.fn _ ps,_,d,x=>Pts.un_pk ps d x|.arr _,_,_,_=>rfl|.c _,_,_,_=>rfl|.ptr _ _,_,_,_=>rfl|.own _,_,_,_=>rfl|.el _ _,_,_,_=>rfl|.iel _ _ _,_,_,_=>rfl|.yld _,_,_,_=>rfl|.pn _,_,_,_=>rfl|.u,_,_,_=>rfl
def Pts.un_pk:∀(ps:List Pt){a:List Type}(d:Pts.den ps)(x:HL a),Pts.un ps (Pts.pk ps d x)=(d,x)
 |[],_,_,_=>rfl|p::ps,_,d,x=>by
  show(((p.un (p.pk d.1 (Pts.pk ps d.2 x))).1,(Pts.un ps (p.un (p.pk d.1 (Pts.pk ps d.2 x))).2).1),(Pts.un ps (p.un (p.pk d.1 (Pts.pk ps d.2 x))).2).2)=(d,x);rw[Pt.un_pk p,Pts.un_pk ps];rfl
end
def fts:List (Nat×Pt)->List Type->List Type|[],a=>a|(_,p)::r,a=>p.ts (fts r a)
def nf:(l:List (Nat×Pt))->{a:List Type}->ph l->HL a->HL (fts l a)|[],_,_,x=>x|(_,p)::r,_,d,x=>p.pk d.1 (nf r d.2 x)
def qcs:(l:List (Nat×Pt))->{a:List Type}->HL (fts l a)->ph l×HL a|[],_,x=>((),x)|(_,p)::r,_,x=>(((p.un x).1,(qcs r (p.un x).2).1),(qcs r (p.un x).2).2)
def q72:∀(l:List (Nat×Pt)){a:List Type}(d:ph l)(x:HL a),qcs l (nf l d x)=(d,x)
 |[],_,_,_=>rfl|(_,p)::r,_,d,x=>by
  show(((p.un (p.pk d.1 (nf r d.2 x))).1,(qcs r (p.un (p.pk d.1 (nf r d.2 x))).2).1),(qcs r (p.un (p.pk d.1 (nf r d.2 x))).2).2)=(d,x);rw[Pt.un_pk p,q72 r];rfl
def be.ts:be->List Type->List Type|.cells ps _,a=>Pts.ts ps a|.row τ _,a=>List τ.den::a|.loop _ _ _ _ fr _ _ _,a=>fts fr a|.dfr,a=>a|.it,a=>List UInt8::Nat::a|.dead,a=>a|.dat τ _,a=>τ.den::a
def be.pk:(p:be)->{a:List Type}->p.den->HL a->HL (p.ts a)|.cells ps _,_,d,x=>Pts.pk ps d x|.row _ _,_,d,x=>(d,x)|.loop _ _ _ _ fr _ _ _,_,d,x=>nf fr d x|.dfr,_,_,x=>x|.it,_,d,x=>(d.1,(d.2,x))|.dead,_,_,x=>x|.dat _ _,_,d,x=>(d,x)
def be.un:(p:be)->{a:List Type}->HL (p.ts a)->p.den×HL a|.cells ps _,_,x=>Pts.un ps x|.row _ _,_,x=>x|.loop _ _ _ _ fr _ _ _,_,x=>qcs fr x|.dfr,_,x=>((),x)|.it,_,x=>((x.1,x.2.1),x.2.2)|.dead,_,x=>((),x)|.dat _ _,_,x=>x
def be.un_pk:∀(p:be){a:List Type}(d:p.den)(x:HL a),p.un (p.pk d x)=(d,x)|.cells ps _,_,d,x=>Pts.un_pk ps d x|.row _ _,_,_,_=>rfl|.loop _ _ _ _ fr _ _ _,_,d,x=>q72 fr d x|.dfr,_,_,_=>rfl|.it,_,_,_=>rfl|.dead,_,_,_=>rfl|.dat _ _,_,_,_=>rfl
def bts:List (Nat×be)->List Type->List Type|[],a=>a|(_,p)::r,a=>p.ts (bts r a)
def gf:(l:List (Nat×be))->{a:List Type}->fm l->HL a->HL (bts l a)|[],_,_,x=>x|(_,p)::r,_,d,x=>p.pk d.1 (gf r d.2 x)
def y6:(l:List (Nat×be))->{a:List Type}->HL (bts l a)->fm l×HL a|[],_,x=>((),x)|(_,p)::r,_,x=>(((p.un x).1,(y6 r (p.un x).2).1),(y6 r (p.un x).2).2)
def q5o:∀(l:List (Nat×be)){a:List Type}(d:fm l)(x:HL a),y6 l (gf l d x)=(d,x)
 |[],_,_,_=>rfl|(_,p)::r,_,d,x=>by
  show(((p.un (p.pk d.1 (gf r d.2 x))).1,(y6 r (p.un (p.pk d.1 (gf r d.2 x))).2).1),(y6 r (p.un (p.pk d.1 (gf r d.2 x))).2).2)=(d,x);rw[be.un_pk p,q5o r];rfl
abbrev Cur:List Type->Type->Type|[],R=>R|t::l,R=>t->Cur l R
def app{R:Type}:{l:List Type}->Cur l R->HL l->R|[],f,_=>f|_::_,f,x=>app (f x.1) x.2
abbrev Nc:List Type->Type|[]=>Unit|[t]=>t|t::u::l=>t×Nc (u::l)
def Nc.fro:(l:List Type)->HL l->Nc l|[],_=>()|[_],x=>x.1|_::u::l,x=>(x.1,Nc.fro (u::l) x.2)
def Nc.to:(l:List Type)->Nc l->HL l|[],_=>()|[_],x=>(x,())|_::u::l,x=>(x.1,Nc.to (u::l) x.2)
def Nc.to_fro:∀(l:List Type)(x:HL l),Nc.to l (Nc.fro l x)=x
 |[],_=>rfl|[_],_=>rfl|_::u::l,x=>by
  show(x.1,Nc.to (u::l) (Nc.fro (u::l) x.2))=x;rw[Nc.to_fro];rfl
def RS.mk(p:Pt)(hp:List (Nat×be)):RS (Nc (p.ts (bts hp []))):=
 .one p hp (fun x=>((p.un (Nc.to _ x)).1,(y6 hp (p.un (Nc.to _ x)).2).1)) (fun y=>Nc.fro _ (p.pk y.1 (gf hp y.2 po))) fun y=>by
  obtain⟨d,d'⟩:=y;show((p.un (Nc.to _ (Nc.fro _ (p.pk d (gf hp d' po))))).1,(y6 hp (p.un (Nc.to _ (Nc.fro _ (p.pk d (gf hp d' po))))).2).1)=(d,d');rw[Nc.to_fro,Pt.un_pk,q5o]
structure IF:Type 1 where
 key:ym
 args:List Pt
 hp:List (Nat×be)
 R:Type
 out:RS R
abbrev IF.T(i:IF):Type:=Cur (Pts.ts i.args (bts i.hp [])) (Option i.R)
def IF.e(i:IF)(r:i.T):di:=⟨i.key,i.args,i.hp,i.R,fun d d'=>app r (Pts.pk i.args d (gf i.hp d' po)),i.out⟩
abbrev KL:Type:=yn×LS
abbrev KL.T(l:KL)(R:Type):Type:=Cur (fts l.2.fr (bts l.2.hp [])) (Option R)
def KL.lab{R:Type}(l:KL)(r:l.T R):ew R:=⟨l.1,l.2,fun d=>app r (nf l.2.fr d.1 (gf l.2.hp d.2 po))⟩
def kl:Nat->List KL->KL|_,[]=>([],⟨0,[],[],0,[]⟩)|0,l::_=>l|n+1,_::r=>kl n r
def qy0:ym->Option Nat|.yld m=>some m|_=>none
section
variable[LC]{P:Program}{i:IF}
structure EP(P:Program):Type 1 where
 e:di
 h:e.Sound P
structure EI(P:Program)(i:IF) where
 f:i.T
 h:(i.e f).Sound P
def EI.p(s:EI P i):EP P:=⟨i.e s.f,s.h⟩
def EP.es{P:Program}:List (EP P)->List di|[]=>[]|x::l=>x.e::EP.es l
def EP.es_ok{P:Program}:∀{l:List (EP P)},∀e∈EP.es l,e.Sound P
 |[],_,h=>by cases h
 |x::_,e,h=>by
  rcases List.mem_cons.1 h with rfl|h
  ·exact x.h
  ·exact EP.es_ok e h
structure Fx(P:Program)(i:IF):Type 1 where
 etys:List (Nat×Ty)
 hm:P.follows .mixedOrders=true
 fn:Func
 f:FuncId
 hf:P.funcs[f]? = some fn
 calls:List (EP P)
 sub:Bool
 tags:List (List Nat×Nat)
 ht:∀p t,ra p tags=some t->∀g ps x y,Sym.sub (jr fn) p = .rangeFunc g ps x y->LC.lc t=some (x,y)
 ls:List KL
def Fx.body(x:Fx P i):Code:=jr x.fn
def Fx.cx(x:Fx P i):Cx:={ P,tb:=⟨EP.es x.calls,x.etys,x.sub⟩,fn:=x.fn,f:=x.f,ids:=eh i.hp,rd:=qy0 i.key,tags:=x.tags }
def Fx.ok(x:Fx P i):x.cx.Ok x.body:=⟨EP.es_ok,x.hm,x.hf,x.ht⟩
structure PL(x:Fx P i)(k:Nat) where
 f:(kl k x.ls).T i.R
 h:∀d',qf x.cx (ce i.hp d') i.out x.body ((kl k x.ls).lab f)
abbrev Fx.L(x:Fx P i)(k:Nat):=PL x k
structure SL(x:Fx P i) where
 q:ew i.R
 h:∀d',qf x.cx (ce i.hp d') i.out x.body q
def PL.s{x:Fx P i}{k:Nat}(p:PL x k):SL x:=⟨(kl k x.ls).lab p.f,p.h⟩
def SL.qs{x:Fx P i}:List (SL x)->List (ew i.R)|[]=>[]|s::l=>s.q::SL.qs l
def SL.qs_ok{x:Fx P i}{d':fm i.hp}:∀{l:List (SL x)},∀q∈SL.qs l,qf x.cx (ce i.hp d') i.out x.body q
 |[],_,h=>by cases h
 |s::_,q,h=>by
  rcases List.mem_cons.1 h with rfl|h
  ·exact s.h d'
  ·exact SL.qs_ok q h
def Fx.jn{x:Fx P i}{k:Nat}(f:(kl k x.ls).T i.R)(l:List (SL x))
  (h:∀d,run x.cx i.out (SL.qs l) 1000000 false (ni x.body (kl k x.ls).1) ((kl k x.ls).2.st d)=app f (nf (kl k x.ls).2.fr d.1 (gf (kl k x.ls).2.hp d.2 ()))):PL x k:=
 ⟨f,fun _=>qf.of_run x.ok (fun _ _ h=>qn7 h) (SL.qs_ok) h⟩
def Fx.lp{x:Fx P i}{k:Nat}(g:Nat->(kl k x.ls).T i.R)(b:(kl k x.ls).T i.R->(kl k x.ls).T i.R)(h0:∀d:(kl k x.ls).2.den,app (g 0) (nf (kl k x.ls).2.fr d.1 (gf (kl k x.ls).2.hp d.2 ()))=none)(hg:∀n,g (n+1)=b (g n))(l:PL x k->List (SL x))
  (h:∀r d,run x.cx i.out (SL.qs (l r)) 1000000 false (ni x.body (kl k x.ls).1) ((kl k x.ls).2.st d)=app (b r.f) (nf (kl k x.ls).2.fr d.1 (gf (kl k x.ls).2.hp d.2 ()))) (n:Nat):PL x k:=
 ⟨g n,by
  induction n with
  |zero=>intro d' d r hr;have:=h0 d;rw[show((kl k x.ls).lab (g 0)).F d=none from this]at hr;cases hr
  | succ n ih=>rw[hg];exact(Fx.jn (b (g n)) (l ⟨g n,ih⟩) (h ⟨g n,ih⟩)).h⟩
def Fx.fin(x:Fx P i)(f:i.T)(l:List (SL x))(hp:su P x.f)(hk:i.key = .fn x.f)(hb:x.fn.body=some x.body)(hfine:qnw x.cx i.args i.hp=true)
  (h:∀d d',qza x.cx x.body i.out (SL.qs l) i.args i.hp (Pts.put i.args d) (ce i.hp d')=app f (Pts.pk i.args d (gf i.hp d' po))):EI P i:=
 ⟨f,di.sound_fn (e:=i.e f) (cx:=x.cx) (labs:=SL.qs l) x.ok hk hb (show qy0 i.key=none by rw[hk];rfl) rfl hp hfine (fun _=>SL.qs_ok) h⟩
def Fx.fiy(x:Fx P i)(f:i.T)(l:List (SL x))(m:Nat)(hk:i.key = .yld m)(p:List Nat)(hb:q8h (Sym.sub x.body p)=true)(hfine:(rp (eh i.hp) i.args&&bIn (eh i.hp) i.hp)=true)
  (h:∀d d',z6 x.cx x.body p m i.out (SL.qs l) i.hp (Pts.put i.args d) (ce i.hp d')=app f (Pts.pk i.args d (gf i.hp d' po))):EI P i:=
 ⟨f,di.sound_yld (e:=i.e f) (cx:=x.cx) (labs:=SL.qs l) (p:=p) (m:=m) x.ok hk (show qy0 i.key=some m by rw[hk];rfl) rfl hb hfine (fun _=>SL.qs_ok) h⟩
def EI.rc(g:Nat->i.T)(b:i.T->i.T)(h0:∀d d',app (g 0) (Pts.pk i.args d (gf i.hp d' po))=none)(hg:∀n,g (n+1)=b (g n))(s:EI P i->EI P i)(hs:∀r,(s r).f=b r.f)(n:Nat):EI P i:=
 ⟨g n,by
  induction n with
  |zero=>intro d d' r hr;have:=h0 d d';rw[show(i.e (g 0)).F d d'=none from this]at hr;cases hr
  | succ n ih=>rw[hg,← hs ⟨g n,ih⟩];exact(s ⟨g n,ih⟩).h⟩
end
end Go.Sym
namespace Go.Sym
def mh(n:Int):Option Bs:=bif decide (-9223372036854775808<=n/\n<=9223372036854775807) then some (Lib.itoa n) else none
def qd(s sep:Bs):Option Int:=bif decide (2<=List.length sep/\List.length s<4294967281/\List.length sep<=maxLen) then some (Lib.index s sep) else none
def fa{α:Type}(l:List α):Option (List α):=bif decide (List.length l<=ax) then some l else none
def nn(s:Bs)(most:Int):Int×Bool:=match Lib.atoiAll s with|.ok v=>if Lib.itoa v=s/\0<=v/\v<=most then(v,true) else(0,false)|_=>(0,false)
def xj(s:Bs)(most:Int):Option (Int×Bool):=bif decide (List.length s<=281474976710656) then some (nn s most) else none
abbrev Pc:Type:=Bs×Int×Bool×Bs
abbrev Pq:Type:={ x:Pc // -1125899906842624<=x.2.1/\x.2.1<=1125899906842624 }
instance:Inhabited Pq:=⟨⟨([],0,false,[]),by decide⟩⟩
def iw(x y:Pq):Int:=af (x.1.2.1-y.1.2.1)
def g9(l:List Pq):List Pq:=(Go.Sort.pdq (Go.Proofs.ltOf iw) l.toArray 0 l.length (Lib.bitLen l.length) true true).toList
def p9:List Pc->Option (List Pq)|[]=>some []|x::l=>if h : -1125899906842624<=x.2.1/\x.2.1<=1125899906842624 then(match p9 l with|some r=>some (⟨x,h⟩::r)|none=>none) else none
def yh(l:List Pc):Option (List Pc):=bif decide (List.length l<=ax) then(match p9 l with|some q=>some ((g9 q).map (·.1))|none=>none) else none
def qbr(s:Bs)(n:Int):Option Bs:=bif decide (0<=n/\n<=9223372036854775807/\List.length s*n.toNat<=140737488355328) then some (Lib.repeatL s n.toNat) else none
def vu(rep:Bs):Nat->Bool->Bs->Bs
 |0,_,_=>[]|_+1,_,[]=>[]|n+1,inv,c::l=>if(Lib.decodeL (c::l)).1=65533/\(Lib.decodeL (c::l)).2=1 then(if inv then[] else rep)++vu rep n true l
  else(c::l).take (Lib.decodeL (c::l)).2++vu rep n false ((c::l).drop (Lib.decodeL (c::l)).2)
def yi(s rep:Bs):Option Bs:=bif decide (List.length s<=1000000/\List.length rep<=1000) then some (vu rep s.length false s) else none
def yj(s:Bs):Option Bool:=bif decide (List.length s<=9223372036854775807) then some (Lib.validD s) else none
def tl(a b:UInt8)(na nb:Bs)(c:UInt8):Bs:=if c=a then na else if c=b then nb else[c]
def ep(a b:UInt8)(na nb:Bs)(s:Bs):Bs:=s.flatMap (tl a b na nb)
def ix(a b:UInt8)(l:Bs):Nat:=l.count a+l.count b
def qnj(a b:UInt8)(na nb s t:Bs):ep a b na nb (s++t)=ep a b na nb s++ep a b na nb t:=List.flatMap_append
def qwj(a b:UInt8)(s t:Bs):ix a b (s++t)=ix a b s+ix a b t:=by unfold ix;rw[List.count_append,List.count_append];omega
def qwk{a b:UInt8}(hab:a≠b)(c:UInt8):ix a b [c]=if c=a then 1 else if c=b then 1 else 0:=by
 unfold ix;simp only[List.count_cons,List.count_nil,beq_iff_eq];by_cases h:c=a
 ·subst h;simp[hab]
 ·by_cases h2:c=b
  ·subst h2;simp[h]
  ·simp[h,h2]
def qnk{a b:UInt8}(hab:a≠b)(a1 a2 b1 b2:UInt8):∀l:Bs,(ep a b [a1,a2] [b1,b2] l).length=l.length+ix a b l
 |[]=>rfl|c::l=>by
  have h:=qnk hab a1 a2 b1 b2 l;rw[show c::l=[c]++l from rfl,qnj,qM,qM,qwj,h,qwk hab]
  have:(ep a b [a1,a2] [b1,b2] [c]).length=1+(if c=a then 1 else if c=b then 1 else 0):=by
   show(tl a b [a1,a2] [b1,b2] c++[]).length=_;unfold tl;split
   ·rfl
   ·split<;>rfl
  rw[this];simp only[qL,qZ];omega
def q63{a b:UInt8}(hab:a≠b)(na nb:Bs):∀l:Bs,ix a b l=0->ep a b na nb l=l
 |[],_=>rfl|c::l,h=>by
  rw[show c::l=[c]++l from rfl,qwj,qwk hab]at h
  rw[show c::l=[c]++l from rfl,qnj,q63 hab na nb l (by omega)]
  congr 1;show tl a b na nb c++[]=[c];unfold tl;by_cases h1:c=a
  ·rw[qX h1]at h;omega
  ·by_cases h2:c=b
   ·rw[qW h1,qX h2]at h;omega
   ·rw[qW h1,qW h2];rfl
def zc3{α:Type}(l:List α)(i:Nat)(h:i<l.length):l.take (i+1)=l.take i++[l[i]]:=by
 rw[List.take_add_one,List.getElem?_eq_getElem h];rfl
def uz(s:Bs)(p0 p1 _p2:Int)(on:List Bs):Option Bs:=
 match on with|[[a],[a1,a2],[b],[b1,b2]]=>bif decide (p0=0/\p1=0/\a≠b/\List.length s<=1000000) then some (ep a b [a1,a2] [b1,b2] s) else none|_=>none
def zrf{s r:Bs}{p0 p1 p2:Int}{on:List Bs}(h:uz s p0 p1 p2 on=some r) :
  ∃a a1 a2 b b1 b2,on=[[a],[a1,a2],[b],[b1,b2]]/\p0=0/\p1=0/\a≠b/\List.length s<=1000000/\r=ep a b [a1,a2] [b1,b2] s:=by
 unfold uz at h;split at h
 ·rename_i a a1 a2 b b1 b2;cases hd:decide (p0=0/\p1=0/\a≠b/\List.length s<=1000000)<;>rw[hd]at h<;>simp only[qT,qF,reduceCtorEq]at h
  obtain⟨h1,h2,h3,h4⟩:=of_decide_eq_true hd;exact⟨a,a1,a2,b,b1,b2,rfl,h1,h2,h3,h4,(qJ h).symm⟩
 ·cases h
open Go.RowKit
variable[LC]
def uo(b:List UInt8)(c:UInt8):Option Int:=some (Lib.indexByte b c)
def qrb(f:FuncId)(r:List UInt8->UInt8->Option Int):di:={ key := .ext f,args:=[.h (.list .byte),.h .byte],hp:=[],R:=Int,F:=fun d _=>r d.1 d.2.1,out := .one (α:=Int) (.h (.int .i64)) [] (fun r=>(r,())) (fun y=>y.1) (fun _=>rfl) }
def qra(f:FuncId)(r:List UInt8->UInt8->Option Int):di:={ key := .ext f,args:=[.h .str,.h .byte],hp:=[],R:=Int,F:=fun d _=>r d.1 d.2.1,out := .one (α:=Int) (.h (.int .i64)) [] (fun r=>(r,())) (fun y=>y.1) (fun _=>rfl) }
def q5u(c:UInt8):((c.toNat:Int)).toNat.toUInt8=c:=by simp
def zmz {P : Program} {f : FuncId} {fn : Func} (hf : P.funcs[f]? = some fn) (hname : (fn.name == "runtime.NumGoroutine") = false) (hb : fn.body.isNone = true) (hn : Extern.findNext fn = none) (he : Extern.find fn = some Extern.BytealgIndexByte.indexByte) (b : List UInt8) (c : UInt8) :
  qjn P f [.str b,.byte c] (.int .i64 (Lib.indexByte b c)):=fun w G vs _ hr=>by
 match vs,hr with
 |[v1,v2],⟨h1,h2,_⟩=>
  have h1:v1 = .string ⟨b.toArray⟩:=h1;have h2:v2 = .int .u8 c.toNat:=h2;subst h1 h2;refine⟨.int .i64 (Lib.indexByte b c),?_,rfl⟩;rw[run_callFunc_extern hf hname hb hn he,show([Value.string ⟨b.toArray⟩,.int .u8 c.toNat]:List Value).toArray=#[.string ⟨b.toArray⟩,.int .u8 c.toNat] from rfl,Lib.run_indexByteString,q5u]
  rfl
def zm0 {P : Program} {f : FuncId} {fn : Func} (hf : P.funcs[f]? = some fn) (hname : (fn.name == "runtime.NumGoroutine") = false) (hb : fn.body.isNone = true) (hn : Extern.findNext fn = none) (he : Extern.find fn = some Extern.BytealgIndexByte.indexByte) (b : List UInt8) (c : UInt8) :
  qjn P f [.sl .byte b,.byte c] (.int .i64 (Lib.indexByte b c)):=fun w G vs hm hr=>by
 match vs,hr with
 |[v1,v2],⟨h1,h2,_⟩=>
  have h2:v2 = .int .u8 c.toNat:=h2;subst h2;obtain⟨a,cp,rfl,hc,hl⟩:jo 1 (Ty.byte.At G.imm) b v1:=h1;refine⟨.int .i64 (Lib.indexByte b c),?_,rfl⟩;rw[run_callFunc_extern hf hname hb hn he];have key:∀k:Int,(Extern.BytealgIndexByte.indexByte #[.slice a b.length cp,.int .u8 c.toNat]).run P w = .ok (.int .i64 k) w->((Extern.BytealgIndexByte.indexByte ([Value.slice a b.length cp,.int .u8 c.toNat]:List Value).toArray).run P w).andThen (fun v w'=>Result.ok (Next.value v) w') = .ok (.value (.int .i64 k)) w:=by
   intro k hk;have e:([Value.slice a b.length cp,.int .u8 c.toNat]:List Value).toArray=#[.slice a b.length cp,.int .u8 c.toNat]:=rfl;rw[e,hk];rfl
  refine key _ ?_;have bb:Lib.bytesOf (b.map fun x=>(x.toNat:Int))=b:=by
   unfold Lib.bytesOf;rw[List.map_map];have:((fun n:Int=>UInt8.ofNat n.toNat) ∘ fun x:UInt8=>(x.toNat:Int))=id:=by funext x;simp
   rw[this,List.map_id]
  rcases hl with rfl|⟨g,o,rfl,hcells⟩
  ·have hs:=Lib.run_indexByteString (P:=P) .empty (c.toNat:Int) w
   cases a with|none=>exact hs|some ad=>exact hs
  ·have:=Lib.run_indexByteSlice (P:=P) (w:=w) g o b.length cp (b.map fun x=>(x.toNat:Int)) (by simp) (fun i hi=>by
    have hk:G.imm g (o+i*1)=some (.int .u8 b[i].toNat):=hcells i _ (List.getElem?_eq_getElem hi);have:=hm.agree _ _ _ hk;rw[Nat.mul_one]at this;rw[this];simp[List.getD_eq_getElem?_getD,hi]) (c.toNat:Int)
   rw[bb,q5u]at this;exact this
def zgr {P : Program} {f : FuncId} {fn : Func} (hf : P.funcs[f]? = some fn) (hname : (fn.name == "runtime.NumGoroutine") = false) (hb : fn.body.isNone = true) (hn : Extern.findNext fn = none) (he : Extern.find fn = some Extern.BytealgIndexByte.indexByte) :
  (qra f uo).Sound P:=fun d d' r h=>by
 have h:some (Lib.indexByte (show List UInt8 from d.1) (show UInt8 from d.2.1))=some r:=h
 have h:=qJ h;subst h;exact zmz hf hname hb hn he _ _
def zgt {P : Program} {f : FuncId} {fn : Func} (hf : P.funcs[f]? = some fn) (hname : (fn.name == "runtime.NumGoroutine") = false) (hb : fn.body.isNone = true) (hn : Extern.findNext fn = none) (he : Extern.find fn = some Extern.BytealgIndexByte.indexByte) :
  (qrb f uo).Sound P:=fun d d' r h=>by
 have h:some (Lib.indexByte (show List UInt8 from d.1) (show UInt8 from d.2.1))=some r:=h
 have h:=qJ h;subst h;exact zm0 hf hname hb hn he _ _
end Go.Sym
namespace Go.Sym
open Go.ChangeShapes Go.WideShapes Go.ChangeAt Go.RowKit
variable[LC]
def Gw(w:World):Gh:=⟨fun b o=>match w.cell? ⟨b,o,none⟩ with|some v=>if v.oneCell'=true then some v else none|none=>none,fun _=>none,fun _=>none⟩
def quy{w:World}{b o:Nat}{v:Value}(h:w.cell? ⟨b,o,none⟩=some v)(h1:v.oneCell'=true):(Gw w).imm b o=some v:=by
 simp only[Gw];rw[h];simp[h1]
def zg0(w:World)(ht:LC.tab (Gw w).imm w):cg (Gw w) [] w:=by
 have key:∀b o v,(Gw w).imm b o=some v->w.cell? ⟨b,o,none⟩=some v/\v.oneCell'=true:=by
  intro b o v h;simp only[Gw]at h;split at h
  ·rename_i u hu;split at h
   ·rename_i h1;cases h;exact⟨hu,h1⟩
   ·cases h
  ·cases h
 exact⟨fun b o v h=>(key b o v h).1,fun b o v h=>(key b o v h).2,fun n bx h=>(by cases h),fun n m bx bx' b h=>(by cases h),ht⟩
inductive qu6{α:Type}(p:α->Prop):Tree α->Prop
 |mk (a:α) (l:List (Tree α)):p a->l.length<=maxLen->(∀x∈l,qu6 p x)->qu6 p (.node a l)
def Ty.bd:(τ:Ty)->τ.den->Prop|.int k,n=>(Lit.int k n).wf=true|.str,s=>List.length s<=maxLen|.prod a b,x=>a.bd x.1/\b.bd x.2|.list a,l=>List.length l<=maxLen/\∀x∈(show List a.den from l),a.bd x|.tree a,t=>qu6 a.bd t|_,_=>True
def qcr(P:Program)(rec:Ty->TypeId->Bool):Ty->List Field->Nat->Bool|τ,[f],o=>f.offset==o&&(P.cellsOf f.type==τ.sz&&rec τ f.type)|.prod a b,f::fs,o=>f.offset==o&&(P.cellsOf f.type==a.sz&&(rec a f.type&&qcr P rec b fs (o+a.sz)))|_,_,_=>false
def qpc(P:Program)(t g:TypeId):Bool:=match P.underlying g with|some (.slice e)=>e==t|_=>false
def qad(P:Program)(rec:Ty->TypeId->Bool)(t:TypeId):Ty->List Field->Nat->Bool|τ,[f,g],o=>f.offset==o&&(P.cellsOf f.type==τ.sz&&(rec τ f.type&&(g.offset==o+τ.sz&&(P.cellsOf g.type==1&&qpc P t g.type))))|.prod a b,f::fs,o=>f.offset==o&&(P.cellsOf f.type==a.sz&&(rec a f.type&&qad P rec t b fs (o+a.sz)))|_,_,_=>false
def c8(P:Program):Nat->Ty->TypeId->Bool
 |0,_,_=>false|_+1,.int k,t=>match P.underlying t with|some (.int k')=>decide (k'=k)|_=>false
 |_+1,.byte,t=>match P.underlying t with|some (.int k')=>decide (k' = .u8)|_=>false
 |_+1,.bool,t=>match P.underlying t with|some .bool=>true|_=>false
 |_+1,.str,t=>match P.underlying t with|some .string=>true|_=>false
 |n+1,.list a,t=>match P.underlying t with|some (.slice e)=>P.cellsOf e==a.sz&&(decide (0<a.sz)&&c8 P n a e)|_=>false
 |n+1,.prod a b,t=>match P.underlying t with|some (.struct fs)=>P.cellsOf t==(Ty.prod a b).sz&&qcr P (c8 P n) (.prod a b) fs.toList 0|_=>false
 |n+1,.tree a,t=>match P.underlying t with|some (.struct fs)=>P.cellsOf t==(Ty.tree a).sz&&qad P (c8 P n) t a fs.toList 0|_=>false
 |_+1,_,_=>false
def zdf{P:Program}{n:Nat}{k:IntKind}{t:TypeId}(h:c8 P (n+1) (.int k) t=true):P.underlying t=some (.int k):=by
 unfold c8 at h;split at h
 ·rename_i k' e;rw[e,of_decide_eq_true h]
 ·cases h
def zde{P:Program}{n:Nat}{t:TypeId}(h:c8 P (n+1) .byte t=true):P.underlying t=some (.int .u8):=by
 unfold c8 at h;split at h
 ·rename_i k' e;rw[e,of_decide_eq_true h]
 ·cases h
def zdd{P:Program}{n:Nat}{t:TypeId}(h:c8 P (n+1) .bool t=true):P.underlying t=some .bool:=by
 unfold c8 at h;split at h
 ·rename_i e;exact e
 ·cases h
def zdg{P:Program}{n:Nat}{t:TypeId}(h:c8 P (n+1) .str t=true):P.underlying t=some .string:=by
 unfold c8 at h;split at h
 ·rename_i e;exact e
 ·cases h
def ak.app{G:Gh}:∀{xs ys:List AV}{us vs:List Value},ak xs G us->ak ys G vs->ak (xs++ys) G (us++vs)|[],_,[],_,_,h=>h|[],_,_::_,_,h,_=>by simp[ak]at h|_::_,_,[],_,h,_=>by simp[ak]at h|_::_,_,_::_,_,h,k=>⟨h.1,ak.app h.2 k⟩
def qnd{G:Gh}:∀(τ:Ty)(x:τ.den)(cs:List Value),ak (τ.enc x) G cs->∀v∈cs,v.oneCell'=true
 |.int k,n,[v],h,u,hu=>by
  rw[List.mem_singleton]at hu;subst hu;have h1:u = .int k n:=h.1;rw[h1];rfl
 |.byte,c,[v],h,u,hu=>by
  rw[List.mem_singleton]at hu;subst hu;have h1:u = .int .u8 (UInt8.toNat c):=h.1;rw[h1];rfl
 |.bool,c,[v],h,u,hu=>by
  rw[List.mem_singleton]at hu;subst hu;have h1:u = .bool c:=h.1;rw[h1];rfl
 |.str,s,[v],h,u,hu=>by
  rw[List.mem_singleton]at hu;subst hu;have h1:u = .string ⟨List.toArray s⟩:=h.1;rw[h1];rfl
 |.list a,l,[v],h,u,hu=>by
  rw[List.mem_singleton]at hu;subst hu;obtain⟨ad,c,rfl,_⟩:jo a.sz (a.At G.imm) l u:=h.1;rfl
 |.unit,_,[],_,u,hu=>by cases hu
 |.unit,_,_::_,h,_,_=>by simp[Ty.enc,ak]at h|.prod a b,x,cs,h,u,hu=>by
  have key:∀(xs ys:List AV)(cs:List Value),ak (xs++ys) G cs->∃us vs,cs=us++vs/\ak xs G us/\ak ys G vs:=by
   intro xs
   induction xs with
   |nil=>intro ys cs h;exact⟨[],cs,rfl,trivial,h⟩|cons x xs ih=>
    intro ys cs h
    cases cs with
    |nil=>simp[ak]at h|cons c cs=>
     obtain⟨us,vs,e,h1,h2⟩:=ih ys cs h.2;exact⟨c::us,vs,by rw[e];rfl,⟨h.1,h1⟩,h2⟩
  obtain⟨us,vs,rfl,h1,h2⟩:=key _ _ _ h;rcases List.mem_append.1 hu with q|q
  ·exact qnd a x.1 us h1 u q
  ·exact qnd b x.2 vs h2 u q
 |.tree a,x,cs,h,u,hu=>by
  have key:∀(xs ys:List AV)(cs:List Value),ak (xs++ys) G cs->∃us vs,cs=us++vs/\ak xs G us/\ak ys G vs:=by
   intro xs
   induction xs with
   |nil=>intro ys cs h;exact⟨[],cs,rfl,trivial,h⟩|cons x xs ih=>
    intro ys cs h
    cases cs with
    |nil=>simp[ak]at h|cons c cs=>
     obtain⟨us,vs,e,h1,h2⟩:=ih ys cs h.2;exact⟨c::us,vs,by rw[e];rfl,⟨h.1,h1⟩,h2⟩
  obtain⟨us,vs,rfl,h1,h2⟩:=key _ _ _ h;rcases List.mem_append.1 hu with q|q
  ·exact qnd a _ us h1 u q
  ·cases vs with
   |nil=>cases q
   |cons v vs=>
    cases vs with
    |cons v' vs=>simp[ak]at h2|nil=>
     rw[List.mem_singleton]at q;subst q;obtain⟨ad,c,rfl,_⟩:jo (Ty.tree a).sz ((Ty.tree a).At G.imm) (Tree.kids x) u:=h2.1;rfl
 |.int _,_,[],h,_,_=>by simp[Ty.enc,ak]at h|.int _,_,_::_::_,h,_,_=>by simp[Ty.enc,ak]at h|.byte,_,[],h,_,_=>by simp[Ty.enc,ak]at h|.byte,_,_::_::_,h,_,_=>by simp[Ty.enc,ak]at h|.bool,_,[],h,_,_=>by simp[Ty.enc,ak]at h|.bool,_,_::_::_,h,_,_=>by simp[Ty.enc,ak]at h|.str,_,[],h,_,_=>by simp[Ty.enc,ak]at h|.str,_,_::_::_,h,_,_=>by simp[Ty.enc,ak]at h|.list _,_,[],h,_,_=>by simp[Ty.enc,ak]at h|.list _,_,_::_::_,h,_,_=>by simp[Ty.enc,ak]at h
def ak.cells{w:World}{b:Nat}:∀(xs:List AV)(cs:List Value)(o:Nat),ak xs (Gw w) cs->(∀v∈cs,v.oneCell'=true)->(∀(j:Nat)(v:Value),cs[j]? = some v->w.cell? ⟨b,o+j,none⟩=some v)->bz xs (Gw w) b o
 |[],[],_,_,_,_=>trivial|[],_::_,_,h,_,_=>by simp[ak]at h|_::_,[],_,h,_,_=>by simp[ak]at h|x::xs,c::cs,o,h,h1,h2=>by
  refine⟨⟨c,quy (h2 0 c rfl) (h1 c qH),h.1⟩,ak.cells xs cs (o+1) h.2 (fun v hv=>h1 v (qE _ hv)) (fun j v hj => ?_)⟩
  have:=h2 (j+1) v hj;rw[show o+1+j=o+(j+1) by omega];exact this
structure qb(H:Type) where
 b:DataW H->Nat
 ba:List (DataW H)->Nat
 str:∀s,b (.lit (.string s))=s.length+1
 lit:∀l,1<=b (.lit l)
 nilb:b .nil=1
 sl:∀e r,b (.slice e r)=ba e+ba r+1
 agg:∀l,b (.agg l)=ba l+1
 nil:ba []=0
 cons:∀d r,ba (d::r)=b d+ba r
def qb.app{H:Type}(B:qb H):∀(l r:List (DataW H)),B.ba (l++r)=B.ba l+B.ba r|[],r=>by rw[List.nil_append,B.nil,wO]|d::l,r=>by rw[wK,B.cons,B.cons,B.app l r,Nat.add_assoc]
mutual
def qdd{α:Type}(f:α->Nat):Tree α->Nat|.node a l=>f a+qir f l+2
def qir{α:Type}(f:α->Nat):List (Tree α)->Nat|[]=>0|t::l=>qdd f t+qir f l
end
def zda{α:Type}(f:α->Nat):∀l:List (Tree α),qir f l=(l.map (qdd f)).sum|[]=>by simp[qir]|t::l=>by rw[qir,zda f l,List.map_cons,List.sum_cons]
def zc9{α:Type}(f:α->Nat)(a:α)(l:List (Tree α)):qdd f (.node a l)=f a+(l.map (qdd f)).sum+2:=by
 rw[← zda];simp only[qdd]
def Ty.bk:(τ:Ty)->τ.den->Nat|.str,s=>List.length s+1|.prod a b,x=>a.bk x.1+b.bk x.2|.list a,l=>((show List a.den from l).map a.bk).sum+1|.unit,_=>0|.tree a,t=>qdd a.bk t|_,_=>1
section
variable{H:Type}{enc:TypeId×Value->H}{P:Program}{w:World}{base:Nat}{spare:Nat->Bool}{held:Bool}
def q7q(B:qb H)(n m:Nat)(cs:List Value)
  (ih:∀(τ:Ty)(t:TypeId)(cs:List Value)(y:DataW H×List MemPlace),c8 P n τ t=true->DataW.trod enc P w base spare held m t cs=some y->∃x:τ.den,τ.bd x/\ak (τ.enc x) (Gw w) cs/\τ.bk x<=B.b y.1) :
  ∀(fs:List Field)(τ:Ty)(o:Nat)(xs:List (DataW H×List MemPlace)),qcr P (c8 P n) τ fs o=true->xs.length=fs.length->(∀(i:Nat)(f:Field),fs[i]? = some f->DataW.trod enc P w base spare held m f.type ((cs.drop f.offset).take (P.cellsOf f.type))=xs[i]?) ->
   ∃x:τ.den,τ.bd x/\ak (τ.enc x) (Gw w) ((cs.drop o).take τ.sz)/\τ.bk x<=B.ba (xs.map (·.1))
 |[],τ,o,xs,h,_,_=>by cases τ<;>simp[qcr]at h
 |[f],τ,o,xs,h,hl,hf=>by
  have h':(f.offset==o&&(P.cellsOf f.type==τ.sz&&c8 P n τ f.type))=true:=by cases τ<;>exact h
  simp only[qA,beq_iff_eq]at h'
  match xs,hl with
  |[y],_=>
   have hy:DataW.trod enc P w base spare held m f.type ((cs.drop f.offset).take (P.cellsOf f.type))=some y:=hf 0 f rfl;rw[h'.1,h'.2.1]at hy;obtain⟨x,x1,x2,x3⟩:=ih τ f.type _ y h'.2.2 hy;exact⟨x,x1,x2,by simp only[List.map_cons,List.map_nil,B.cons,B.nil];omega⟩
 |f::g::fs,τ,o,xs,h,hl,hf=>by
  cases τ with
  |prod a b=>
   have h':(f.offset==o&&(P.cellsOf f.type==a.sz&&(c8 P n a f.type&&qcr P (c8 P n) b (g::fs) (o+a.sz))))=true:=h;simp only[qA,beq_iff_eq]at h'
   match xs,hl with
   |y::ys,hl=>
    have hy:DataW.trod enc P w base spare held m f.type ((cs.drop f.offset).take (P.cellsOf f.type))=some y:=hf 0 f rfl;rw[h'.1,h'.2.1]at hy;obtain⟨x1,b1,r1,k1⟩:=ih a f.type _ y h'.2.2.1 hy;obtain⟨x2,b2,r2,k2⟩:=q7q B n m cs ih (g::fs) b (o+a.sz) ys h'.2.2.2 (by simpa using hl) (fun i f' hf'=>hf (i+1) f' hf')
    refine⟨(x1,x2),⟨b1,b2⟩,?_,?_⟩
    ·show ak (a.enc x1++b.enc x2) (Gw w) ((cs.drop o).take (a.sz+b.sz));rw[List.take_add,List.drop_drop];exact ak.app r1 r2
    ·show a.bk x1+b.bk x2<=_;rw[List.map_cons,B.cons];omega
  |_=>simp[qcr]at h
def zdc(B:qb H)(n m:Nat)(cs:List Value){veg:Ty}(t:TypeId)
  (ih:∀(τ:Ty)(t:TypeId)(cs:List Value)(y:DataW H×List MemPlace),c8 P n τ t=true->DataW.trod enc P w base spare held m t cs=some y->∃x:τ.den,τ.bd x/\ak (τ.enc x) (Gw w) cs/\τ.bk x<=B.b y.1)
  (ihk:∀(g:TypeId)(cs:List Value)(y:DataW H×List MemPlace),qpc P t g=true->DataW.trod enc P w base spare held m g cs=some y->∃l:List (Ty.tree veg).den,(Ty.list (.tree veg)).bd l/\ak [.sl (.tree veg) l] (Gw w) cs/\(l.map (Ty.tree veg).bk).sum+1<=B.b y.1) :
  ∀(fs:List Field)(τ:Ty)(o:Nat)(xs:List (DataW H×List MemPlace)),qad P (c8 P n) t τ fs o=true->xs.length=fs.length->(∀(i:Nat)(f:Field),fs[i]? = some f->DataW.trod enc P w base spare held m f.type ((cs.drop f.offset).take (P.cellsOf f.type))=xs[i]?) ->
   ∃(x:τ.den)(l:List (Ty.tree veg).den),τ.bd x/\(Ty.list (.tree veg)).bd l/\ak (τ.enc x++[.sl (.tree veg) l]) (Gw w) ((cs.drop o).take (τ.sz+1))/\τ.bk x+((l.map (Ty.tree veg).bk).sum+1)<=B.ba (xs.map (·.1))
 |[],τ,o,xs,h,_,_=>by cases τ<;>simp[qad]at h
 |[f],τ,o,xs,h,_,_=>by cases τ<;>simp[qad]at h
 |[f,g],τ,o,xs,h,hl,hf=>by
  have h':(f.offset==o&&(P.cellsOf f.type==τ.sz&&(c8 P n τ f.type&&(g.offset==o+τ.sz&&(P.cellsOf g.type==1&&qpc P t g.type)))))=true:=by cases τ<;>exact h
  simp only[qA,beq_iff_eq]at h'
  match xs,hl with
  |[y,z],_=>
   have hy:DataW.trod enc P w base spare held m f.type ((cs.drop f.offset).take (P.cellsOf f.type))=some y:=hf 0 f rfl;have hz:DataW.trod enc P w base spare held m g.type ((cs.drop g.offset).take (P.cellsOf g.type))=some z:=hf 1 g rfl;rw[h'.1,h'.2.1]at hy;rw[h'.2.2.2.1,h'.2.2.2.2.1]at hz;obtain⟨x,x1,x2,x3⟩:=ih τ f.type _ y h'.2.2.1 hy;obtain⟨l,l1,l2,l3⟩:=ihk g.type _ z h'.2.2.2.2.2 hz;refine⟨x,l,x1,l1,?_,by simp only[List.map_cons,List.map_nil,B.cons,B.nil];omega⟩
   rw[List.take_add,List.drop_drop];exact ak.app x2 l2
 |f::g::k::fs,τ,o,xs,h,hl,hf=>by
  cases τ with
  |prod a b=>
   have h':(f.offset==o&&(P.cellsOf f.type==a.sz&&(c8 P n a f.type&&qad P (c8 P n) t b (g::k::fs) (o+a.sz))))=true:=h;simp only[qA,beq_iff_eq]at h'
   match xs,hl with
   |y::ys,hl=>
    have hy:DataW.trod enc P w base spare held m f.type ((cs.drop f.offset).take (P.cellsOf f.type))=some y:=hf 0 f rfl;rw[h'.1,h'.2.1]at hy;obtain⟨x1,b1,r1,k1⟩:=ih a f.type _ y h'.2.2.1 hy;obtain⟨x2,l,b2,bl,r2,k2⟩:=zdc B n m cs t ih ihk (g::k::fs) b (o+a.sz) ys h'.2.2.2 (by simpa using hl) (fun i f' hf'=>hf (i+1) f' hf')
    refine⟨(x1,x2),l,⟨b1,b2⟩,bl,?_,?_⟩
    ·show ak ((a.enc x1++b.enc x2)++[.sl (.tree veg) l]) (Gw w) ((cs.drop o).take ((a.sz+b.sz)+1));rw[qS,Nat.add_assoc,List.take_add,List.drop_drop];exact ak.app r1 r2
    ·show(a.bk x1+b.bk x2)+_<=_;rw[List.map_cons,B.cons];omega
  |_=>simp[qad]at h
def zo3(B:qb H):∀(m n:Nat)(τ:Ty)(t:TypeId)(cs:List Value)(y:DataW H×List MemPlace),c8 P n τ t=true->DataW.trod enc P w base spare held m t cs=some y->∃x:τ.den,τ.bd x/\ak (τ.enc x) (Gw w) cs/\τ.bk x<=B.b y.1:=by
 intro m
 induction m with
 |zero=>intro n τ t cs y _ h;simp[DataW.trod]at h|succ m ih=>
  intro n τ t cs y ht h
  cases n with
  |zero=>simp[c8]at ht|succ n=>
   cases τ with
   |int k=>
    obtain⟨n,rfl,rfl,hw⟩:=DataW.trod_int (zdf ht) h;exact⟨n,hw,⟨rfl,trivial⟩,B.lit _⟩
   |byte=>
    obtain⟨n,rfl,rfl,hw⟩:=DataW.trod_int (zde ht) h;have hb:0<=n/\n<=255:=by simp only[Lit.wf,qA,decide_eq_true_eq]at hw;exact hw
    refine⟨UInt8.ofNat n.toNat,trivial,⟨?_,trivial⟩,B.lit _⟩;show Value.int .u8 n = .int .u8 ((UInt8.ofNat n.toNat).toNat:Int);rw[UInt8.toNat_ofNat',Nat.mod_eq_of_lt (by omega)]
    congr 1;omega
   |bool=>
    obtain⟨b,rfl,rfl⟩:=DataW.trod_bool (zdd ht) h;exact⟨b,trivial,⟨rfl,trivial⟩,B.lit _⟩
   |str=>
    obtain⟨s,rfl,rfl,hs⟩:=DataW.trod_string (zdg ht) h;refine⟨s.data.toList,?_,⟨?_,trivial⟩,Nat.le_of_eq (B.str _).symm⟩
    ·show s.data.toList.length<=maxLen;rw[Array.length_toList];exact hs
    ·show Value.string s = .string ⟨s.data.toList.toArray⟩;simp
   |unit=>simp[c8]at ht|tree a=>
    have ht0:=ht;unfold c8 at ht;split at ht
    ·rename_i fs hu;simp only[qA,beq_iff_eq]at ht;obtain⟨xs,n',e1,rfl,ac,hxl,hg⟩:=DataW.trod_struct hu h;cases e1
     obtain⟨x,l,hb,hbl,hr,hk⟩:=zdc B n m cs t (fun τ t cs y=>ih n τ t cs y) (fun g cs y hg hy=>by
      have hg':c8 P (n+2) (.list (.tree a)) g=true:=by
       unfold qpc at hg;unfold c8;split at hg
       ·rename_i e he;have:e=t:=by simpa using hg
        subst this;simp only[qA,beq_iff_eq,decide_eq_true_eq];exact⟨ht.1,by simp[Ty.sz],ht0⟩
       ·cases hg
      exact ih (n+2) (.list (.tree a)) g cs y hg' hy) fs.toList a 0 xs ht.2 (by rw[hxl,Array.length_toList]) (fun i f hf=>hg i f (by rw[← Array.getElem?_toList];exact hf))
     refine⟨.node x l,.mk x l hb hbl.1 hbl.2,?_,?_⟩
     ·rw[List.drop_zero,List.take_of_length_le (by rw[ac,ht.1];exact wF _)]at hr
      exact hr
     ·rw[B.agg];have e:(Ty.tree a).bk (.node x l)=a.bk x+(l.map (Ty.tree a).bk).sum+2:=zc9 a.bk x l;omega
    ·cases ht
   |prod a b=>
    unfold c8 at ht;split at ht
    ·rename_i fs hu;simp only[qA,beq_iff_eq]at ht;obtain⟨xs,n',e1,rfl,ac,hxl,hg⟩:=DataW.trod_struct hu h;cases e1
     obtain⟨x,hb,hr,hk⟩:=q7q B n m cs (fun τ t cs y=>ih n τ t cs y) fs.toList (.prod a b) 0 xs ht.2 (by rw[hxl,Array.length_toList]) (fun i f hf=>hg i f (by rw[← Array.getElem?_toList];exact hf))
     refine⟨x,hb,?_,by rw[B.agg];omega⟩
     rw[List.drop_zero,List.take_of_length_le (by rw[ac,ht.1];exact wF _)]at hr
     exact hr
    ·cases ht
   |list a=>
    unfold c8 at ht;split at ht
    ·rename_i e hu;simp only[qA,beq_iff_eq,decide_eq_true_eq]at ht;obtain⟨hsz,hpos,hte⟩:=ht;rcases DataW.trod_slice hu h with⟨rfl,rfl⟩|⟨ad,len,cap,elems,rest,n',e1,rfl,rfl,_,hlc,hcm,hel,hget,_⟩
     ·exact⟨[],⟨Nat.zero_le _,fun x hx=>by cases hx⟩,⟨⟨none,0,rfl,wF _,.inl rfl⟩,trivial⟩,Nat.le_of_eq (show 0+1=_ by rw[B.nilb])⟩
     ·cases e1
      have each:∀i,i<len->∃(x:a.den)(h:i<elems.length),a.bd x/\ad.spot=none/\a.At (Gw w).imm x ad.block (ad.off+i*a.sz)/\a.bk x<=B.b elems[i].1:=by
       intro i hi;have h1:=hget i hi;rw[List.getElem?_eq_getElem (by omega)]at h1
       obtain⟨cs,hc,hc2⟩:=Option.bind_eq_some_iff.1 h1;obtain⟨x,hb,hr,hk⟩:=ih n a e cs _ hte hc2;unfold World.cells? at hc;split at hc
       ·have hl:=mapM_some_length hc;rw[List.length_range,hsz]at hl;have hcell:∀(j:Nat)(v:Value),cs[j]? = some v->w.cell? ((ad.add (i*P.cellsOf e)).add j)=some v:=by
         intro j v hj;have hj':j<cs.length:=by
          by_cases q:j<cs.length
          ·exact q
          ·rw[List.getElem?_eq_none (by omega)]at hj;cases hj
         have:=mapM_some_get hc j j (by rw[List.getElem?_range (by omega)])
         rw[this,hj]
        have hspot:ad.spot=none:=by
         have g0:=hget 0 (by omega)
         rw[List.getElem?_eq_getElem (by omega)]at g0
         obtain⟨cs0,hc0,_⟩:=Option.bind_eq_some_iff.1 g0;unfold World.cells? at hc0;split at hc0
         ·have po:=mapM_some_length hc0;rw[List.length_range,hsz]at po;have:=mapM_some_get hc0 0 0 (by rw[List.getElem?_range (by omega)])
          rw[List.getElem?_eq_getElem (by omega)]at this
          simp only[Nat.zero_mul,Addr.add,if_true]at this;unfold World.cell? at this
          cases hs:ad.spot with
          |none=>rfl|some q=>
           rw[hs]at this;split at this
           ·simp at this
           ·cases this
         ·cases hc0
        refine⟨x,by omega,hb,hspot,?_,hk⟩
        refine r7.1 (ak.cells _ cs _ hr (qnd a x cs hr) (fun j v hj => ?_))
        have:=hcell j v hj;rw[hsz]at this;have ea:(ad.add (i*a.sz)).add j=⟨ad.block,ad.off+i*a.sz+j,none⟩:=by
         obtain⟨b,o,s⟩:=ad;simp only[]at hspot;subst hspot;unfold Addr.add;by_cases q1:i*a.sz=0
         ·by_cases q2:j=0
          ·simp[q1,q2]
          ·simp[q1,q2]
         ·by_cases q2:j=0
          ·simp[q1,q2]
          ·simp[q1,q2]
        rw[ea]at this;exact this
       ·cases hc
      have lst:∀k,k<=len->∃l:List a.den,l.length=k/\(∀x∈l,a.bd x)/\(∀(j:Nat)(x:a.den),l[j]? = some x->a.At (Gw w).imm x ad.block (ad.off+j*a.sz))/\(l.map a.bk).sum<=B.ba ((elems.take k).map (·.1)):=by
       intro k
       induction k with
       |zero=>intro _;exact⟨[],rfl,fun x hx=>(by cases hx),fun j x hj=>(by simp at hj),by simp⟩
       |succ k ihk=>
        intro hk;obtain⟨l,l1,l2,l3,l4⟩:=ihk (by omega)
        obtain⟨x,hx,x1,_,x2,x3⟩:=each k (by omega)
        refine⟨l++[x],by simp[l1],fun y hy => ?_,fun j y hj => ?_,?_⟩
        ·rcases List.mem_append.1 hy with q|q
         ·exact l2 y q
         ·rw[List.mem_singleton]at q;subst q;exact x1
        ·by_cases q:j<l.length
         ·rw[List.getElem?_append_left q]at hj;exact l3 j y hj
         ·rw[List.getElem?_append_right (by omega)]at hj
          have:j=k:=by
           by_cases q2:j-l.length=0
           ·omega
           ·rw[List.getElem?_eq_none (by simp;omega)]at hj;cases hj
          subst this;rw[l1,Nat.sub_self]at hj;cases hj
          exact x2
        ·rw[List.take_succ_eq_append_getElem hx,List.map_append,List.map_append,B.app,List.sum_append];simp only[List.map_cons,List.map_nil,B.cons,B.nil,List.sum_cons,List.sum_nil];omega
      obtain⟨l,l1,l2,l3,l4⟩:=lst len (wF _);refine⟨l,⟨by show l.length<=maxLen;omega,l2⟩,⟨⟨some ad,cap,by rw[← l1],by omega,?_⟩,trivial⟩,?_⟩
      rotate_left
      ·rw[List.take_of_length_le (by omega)]at l4
       rw[B.sl];show(l.map a.bk).sum+1<=_;omega
      by_cases q:l=[]
      ·exact .inl q
      ·obtain⟨_,_,_,hs,_⟩:=each 0 (by have:=List.length_pos_iff.2 q;omega)
       refine .inr ⟨ad.block,ad.off,?_,l3⟩;cases ad;simp only[]at hs;subst hs;rfl
    ·cases ht
def zo2(B:qb H){r:Reach}{bb n:Nat}{τ:Ty}{t:TypeId}{v:Value}{d:DataW H}{ps:List MemPlace}(ht:c8 P n τ t=true)(hv:Value.okWide P w r bb t v)(h:DataW.Trod enc P w base spare held t v d ps) :
  ∃x:τ.den,τ.bd x/\aj (τ.av x) (Gw w) v/\τ.bk x<=B.b d:=by
 obtain⟨m,hm⟩:=h;obtain⟨x,hb,hr,hk⟩:=zo3 B m n τ t _ _ ht hm;refine⟨x,hb,?_,hk⟩
 cases n with
 |zero=>simp[c8]at ht|succ n=>
  cases τ with
  |int k=>obtain⟨_,rfl⟩:=okWide_int (zdf ht) hv;exact hr.1
  |byte=>obtain⟨_,rfl⟩:=okWide_int (zde ht) hv;exact hr.1
  |bool=>obtain⟨_,rfl⟩:=okWide_bool (zdd ht) hv;exact hr.1
  |str=>obtain⟨_,rfl⟩:=okWide_string (zdg ht) hv;exact hr.1
  |unit=>simp[c8]at ht|tree a=>
   unfold c8 at ht;split at ht
   ·rename_i fs hu;obtain⟨cs,rfl,_⟩:=okWide_struct hu hv;exact⟨cs,rfl,hr⟩
   ·cases ht
  |prod a b=>
   unfold c8 at ht;split at ht
   ·rename_i fs hu;obtain⟨cs,rfl,_⟩:=okWide_struct hu hv;exact⟨cs,rfl,hr⟩
   ·cases ht
  |list a=>
   unfold c8 at ht;split at ht
   ·rename_i e hu;obtain⟨_,_,_,rfl⟩:=okWide_slice hu hv;exact hr.1
   ·cases ht
end
end Go.Sym
namespace Go.Sym
open Go.ChangeShapes Go.WideShapes Go.ChangeAt Go.RowKit
variable[LC]
def wz(P:Program)(n:Nat):List Ty->List TypeId->Bool|[],[]=>true|τ::τs,t::ts=>c8 P n τ t&&wz P n τs ts|_,_=>false
def bds:(τs:List Ty)->Pts.den (τs.map .h)->Prop|[],_=>True|τ::τs,x=>τ.bd x.1/\bds τs x.2
section
variable{H:Type}{enc:TypeId×Value->H}{P:Program}{w:World}{base:Nat}{spare:Nat->Bool}{held:Bool}
def bks:(τs:List Ty)->Pts.den (τs.map .h)->Nat|[],_=>0|τ::τs,x=>τ.bk x.1+bks τs x.2
def q91(B:qb H){r:Reach}{bb n:Nat}:∀(τs:List Ty)(ts:List TypeId)(vs:List Value)(ds:List (DataW H))(ps:List MemPlace),wz P n τs ts=true ->
  (∀(j:Nat) t v,ts[j]? = some t->vs[j]? = some v->Value.okWide P w r bb t v)->DataW.TrodAll enc P w base spare held ts vs ds ps ->
  ∃x:Pts.den (τs.map .h),bds τs x/\ak (Pts.put (τs.map .h) x) (Gw w) vs/\bks τs x<=B.ba ds
 |[],[],vs,ds,ps,_,_,h=>by
  obtain⟨rfl,rfl,_⟩:=trodAll_nil h;exact⟨(),trivial,trivial,Nat.zero_le _⟩
 |τ::τs,t::ts,vs,ds,ps,h1,h2,h=>by
  obtain⟨v,vs',d,ds',p,q,rfl,rfl,rfl,hd,hr⟩:=trodAll_cons h;simp only[wz,qA]at h1;obtain⟨x,xb,xr,xk⟩:=zo2 B h1.1 (h2 0 t v rfl rfl) hd;obtain⟨y,yb,yr,yk⟩:=q91 B τs ts vs' ds' q h1.2 (fun j t v ht hv=>h2 (j+1) t v ht hv) hr
  exact⟨(x,y),⟨xb,yb⟩,⟨xr,yr⟩,by rw[B.cons];show τ.bk x+bks τs y<=_;omega⟩
 |[],_::_,_,_,_,h,_,_=>by simp[wz]at h|_::_,[],_,_,_,h,_,_=>by simp[wz]at h
def zco{W W':World}(laid:laidOutB P=true)(hb:Below W.heap.size W W'):∀(ts:List TypeId)(vs:List Value)(ds:List (DataW H))(ps:List MemPlace),
  ts.all (fun t=>P.readableRec t&&decide (t<P.types.size))=true->DataW.TrodAll enc P W 0 (fun _=>true) true ts vs ds ps->DataW.TrodAll enc P W' 0 (fun b=>decide (b<W.heap.size)) true ts vs ds ps
 |[],vs,ds,ps,_,h=>by
  obtain⟨rfl,rfl,rfl⟩:=trodAll_nil h;exact trodAll_mk0
 |t::ts,vs,ds,ps,h1,h=>by
  obtain⟨v,vs',d,ds',p,q,rfl,rfl,rfl,hd,hr⟩:=trodAll_cons h;simp only[List.all_cons,qA,decide_eq_true_eq]at h1;have lt:∀x∈p,x.block<W.heap.size:=by obtain⟨m,hm⟩:=hd;exact DataW.trod_lt m _ _ _ hm
  exact trodAll_cons_mk (Below.trod laid h1.1.1 h1.1.2 hd hb lt) (zco laid hb ts vs' ds' q h1.2 hr)
end
def zug{P:Program}{f:FuncId}{xs:List AV}(h:cw P f xs [] (.bool true) [])(vs:List Value)(w:World)(ht:LC.tab (Gw w).imm w)(hr:ak xs (Gw w) vs) :
  Calls P f vs.toArray w fun e w'=>e = .returned (.bool true)/\Below w.heap.size w w':=by
 refine(h w (Gw w) vs (zg0 w ht) hr).mono ?_;rintro e w' ⟨v,G,rfl,hfin,hrep⟩
 have hv:v = .bool true:=hrep;subst hv;refine⟨rfl,hfin.bel.os,hfin.bel.tape,hfin.bel.output,hfin.bel.size,fun k hk=>hfin.bel.block k hk ?_⟩
 rintro⟨n,bx,hl,_⟩
 cases hl
def q8u{H:Type}{enc:TypeId×Value->H}{C:Checked}{os:Os}{f:FuncId}{fn:Func}{s:ChangeSpec}{so:OpenSpec}{F:Stop.Interp}{conds:List PathCond}{t:TypeId}{n:Nat}(τs:List Ty)(l:List (String×DataW Unit))(B:qb H)(M:Nat)
  (small:(H:Type)->List (DataW H)->Bool) (hso:so={ OpenSpec.ofChange s with cond:=some small }) (hsm:∀ds:List (DataW H),small H ds=true->B.ba ds<=M)
  (own:ownKnob C.prog.godebug=none) (laid:laidOutB C.prog=true) (started:os.Started) (noInit:C.prog.inits.idxOf? f=none) (hfn:C.prog.funcs[f]? = some fn)
  (witness:∃(w:World)(tape:Tape)(i:Input),w.os=os/\(w.forCall tape i).Shaped C.prog/\i.vars=[]/\Input.okWide C.prog (w.forCall tape i) .any w.heap.size f i /\
   so.preRow enc C.prog fn conds false l (w.forCall tape i).memory i.args/\({}:Assume).holds C.prog (lone (Frame.enter C.prog f i.args .normal) [] (w.forCall tape i)))
  (hvars:s.vars=[]) (hspec:∀ds:List (DataW H),ds.length=fn.params.size->s.fn H ds={ results:=[.lit (.bool true)],args:=ds })
  (htys:wz C.prog n τs fn.params.toList=true) (hread:fn.params.toList.all (fun t=>C.prog.readableRec t&&decide (t<C.prog.types.size))=true)
  (hres:fn.resultTypes=#[t]) (hbool:C.prog.underlying t=some .bool)
  (htab:∀W:World,laidMetH C.prog l W->W.ShapedOpen C.prog->LC.tab (Gw W).imm W)
  (hcall:∀x:Pts.den (τs.map .h),bds τs x->bks τs x<=M->cw C.prog f (Pts.put (τs.map .h) x) [] (.bool true) []) :
  ReturnsInHanded {} C os f .any (so.preRow enc C.prog fn conds false l) ((so.at F).post enc C.prog fn false true false false):=by
 subst hso;refine returnsInHanded_of_row own started noInit hfn witness ?_;intro W base args ds gs before hval hW _ hcond _ hlaid hsh _;have hW':=hW;obtain⟨p,q,hA,hV,rfl,_,_⟩:=hW;rw[show({ OpenSpec.ofChange s with cond:=some small }:OpenSpec).vars=[] from hvars]at hV
 obtain⟨rfl,rfl⟩:=trodVars_none hV;have hk:=hsm _ (hcond small rfl);rw[List.append_nil]at hk;have hl:ds.length=fn.params.size:=by
  have key:∀(ts:List TypeId)(vs:List Value)(ds:List (DataW H))(ps:List MemPlace),DataW.TrodAll enc C.prog W 0 (fun _=>true) true ts vs ds ps->ds.length=ts.length:=by
   intro ts
   induction ts with
   |nil=>intro vs ds ps h;obtain⟨_,rfl,_⟩:=trodAll_nil h;rfl
   |cons t ts ih=>
    intro vs ds ps h;obtain⟨v,vs',d,ds',p,q,_,rfl,_,_,hr⟩:=trodAll_cons h;rw[qL,qL,ih _ _ _ hr]
  rw[key _ _ _ _ hA,Array.length_toList]
 obtain⟨x,xb,xr,xk⟩:=q91 B τs fn.params.toList args.toList ds p htys (fun j t v ht hv=>hval j t v (by rw[← Array.getElem?_toList];exact ht) (by rw[← Array.getElem?_toList];exact hv)) hA
 have hc:=zug (hcall x xb (Nat.le_trans xk hk)) args.toList W (htab W hlaid hsh) xr;rw[Array.toArray_toList]at hc;refine hc.mono fun e W'⟨he,bel⟩ => ?_
 subst he;refine⟨_,rfl,ds,[],p++[],[],p,[],hW',?_⟩;show DataW.TrodAll _ _ _ _ _ _ _ _ _ _/\_;rw[List.append_nil,show((OpenSpec.at { OpenSpec.ofChange s with cond:=some small } F).fn H ds)=s.fn H ds from rfl,hspec ds hl,hres]
 exact⟨trodAll_mk1 (shut_bool hbool _),zco laid bel _ _ _ _ hread hA,(by rw[show((OpenSpec.at { OpenSpec.ofChange s with cond:=some small } F).vars)=[] from hvars];rfl),bel.frame _,fun h=>by cases h⟩
def zi(a b:Int):Bool:=decide (a=b)
def qci:(τ:Ty)->τ.den->DataW Unit->Bool|.int k,x,.lit (.int k' n)=>decide (k'=k)&&zi n x|.byte,x,.lit (.int k' n)=>decide (k' = .u8)&&zi n x.toNat|.prod .byte .byte,x,.agg [.lit (.int _ a),.lit (.int _ b)]=>zi a x.1.toNat&&zi b x.2.toNat|_,_,_=>false
def qcj(τ:Ty):List τ.den->List (DataW Unit)->Bool|[],[]=>true|x::l,d::ds=>qci τ x d&&qcj τ l ds|_,_=>false
def qob(P:Program)(t:TypeId):Bool:=match P.underlying t with|some (.int .u8)=>Nat.beq (P.cellsOf t) 1|_=>false
def qnb(P:Program)(t:TypeId):Ty->Bool
 |.int k=>match P.underlying t with|some (.int k')=>decide (k'=k)|_=>false
 |.byte=>match P.underlying t with|some (.int .u8)=>true|_=>false
 |.prod .byte .byte=>match P.underlying t with
  |some (.struct fs)=>match fs.toList with|[f,g]=>Nat.beq f.offset 0&&Nat.beq g.offset 1&&qob P f.type&&qob P g.type&&Nat.beq (P.cellsOf t) 2|_=>false
  |_=>false
 |_=>false
section
variable{P:Program}{w:World}{base:Nat}{sp:Nat->Bool}
def zln{m:Nat}{τ:Ty}{t:TypeId}{cs:List Value}{y:DataW Unit×List MemPlace}{x:τ.den}(ht:qnb P t τ=true)(h:DataW.trod (fun _=>()) P w base sp false m t cs=some y)(hx:qci τ x y.1=true):ak (τ.enc x) (Gw w) cs/\∀v∈cs,v.oneCell'=true:=by
 unfold qnb at ht;split at ht
 ·rename_i k;split at ht
  ·rename_i k' hu;have hk:k'=k:=of_decide_eq_true ht;subst hk;obtain⟨n,rfl,rfl,_⟩:=DataW.trod_int hu h;simp only[qci,zi,qA,decide_eq_true_eq]at hx;obtain⟨_,rfl⟩:=hx;exact⟨⟨rfl,trivial⟩,fun v hv=>by rw[List.mem_singleton]at hv;subst hv;rfl⟩
  ·cases ht
 ·split at ht
  ·rename_i hu;obtain⟨n,rfl,rfl,_⟩:=DataW.trod_int hu h;simp only[qci,zi,qA,decide_eq_true_eq]at hx;obtain⟨_,rfl⟩:=hx;exact⟨⟨rfl,trivial⟩,fun v hv=>by rw[List.mem_singleton]at hv;subst hv;rfl⟩
  ·cases ht
 ·split at ht
  ·rename_i fs hu;split at ht
   ·rename_i f g hfs;simp only[qA]at ht;obtain⟨⟨⟨⟨o1,o2⟩,u1⟩,u2⟩,c2⟩:=ht;have o1:=qN o1;have o2:=qN o2;have c2:=qN c2;have key:∀t,qob P t=true->P.underlying t=some (.int .u8)/\P.cellsOf t=1:=fun t h=>by
     unfold qob at h;split at h
     ·rename_i hu;exact⟨hu,qN h⟩
     ·cases h
    obtain⟨k1,s1⟩:=key _ u1;obtain⟨k2,s2⟩:=key _ u2;obtain⟨xs,n,rfl,rfl,hl,hxl,hg⟩:=DataW.trod_struct hu h;have g0:=hg 0 f (by rw[← Array.getElem?_toList,hfs];rfl)
    have g1:=hg 1 g (by rw[← Array.getElem?_toList,hfs];rfl)
    have hsz:fs.size=2:=by rw[← Array.length_toList,hfs];rfl
    rw[hsz]at hxl;rw[c2]at hl
    match cs,hl with
    |[a,b],_=>
     match xs,hxl with
     |[p,q],_=>
      rw[o1,s1]at g0;rw[o2,s2]at g1;obtain⟨n1,e1,rfl,_⟩:=DataW.trod_int k1 g0;obtain⟨n2,e2,rfl,_⟩:=DataW.trod_int k2 g1;simp only[List.drop_zero,List.take_succ_cons,List.take_zero,List.cons.injEq,and_true]at e1;simp only[List.drop_succ_cons,List.drop_zero,List.take_succ_cons,List.take_zero,List.cons.injEq,and_true]at e2;subst e1 e2;simp only[List.map_cons,List.map_nil,qci,zi,qA,decide_eq_true_eq]at hx;obtain⟨rfl,rfl⟩:=hx;exact⟨⟨rfl,rfl,trivial⟩,fun v hv=>by
       rcases List.mem_cons.1 hv with rfl|hv
       ·rfl
       ·rw[List.mem_singleton]at hv;subst hv;rfl⟩
   ·cases ht
  ·cases ht
 ·cases ht
def q6j{τ:Ty}:∀{l:List τ.den}{ds:List (DataW Unit)},qcj τ l ds=true->l.length=ds.length/\∀(j:Nat)(x:τ.den),l[j]? = some x->∃d,ds[j]? = some d/\qci τ x d=true
 |[],[],_=>⟨rfl,fun j x h=>by simp at h⟩
 |[],_::_,h=>by simp[qcj]at h|_::_,[],h=>by simp[qcj]at h|y::l,d::ds,h=>by
  simp only[qcj,qA]at h;obtain⟨i1,i2⟩:=q6j h.2;refine⟨by simp[i1],fun j x hx => ?_⟩
  match j with|0=>simp only[List.getElem?_cons_zero,qI]at hx;subst hx;exact⟨d,rfl,h.1⟩|j+1=>exact i2 j x hx
def qo4(P:Program)(g:Nat)(τ:Ty)(l:List τ.den)(n:Nat)(d:DataW Unit):Bool:=match(P.globals[g]?).map (·.type) with
 |some t=>match P.underlying t,d with|some (.array _m E),.agg ds=>qnb P E τ&&(Nat.beq (P.cellsOf E) τ.sz&&(Nat.beq (P.cellsOf t) n&&qcj τ l ds))|_,_=>false
 |none=>false
def zrr{g:Nat}{τ:Ty}{l:List τ.den}{n:Nat}{d:DataW Unit}(h:qo4 P g τ l n d=true){t:TypeId}{cs:Array Value}{fuel:Nat}{p:List MemPlace}(ht:(P.globals[g]?).map (·.type)=some t)
  (hc:∃u fr,w.heap[g]? = some (.cells cs u fr)) (hd:DataW.trod (fun _=>()) P w base sp false fuel t cs.toList=some (d,p)) :
  cs.size=n/\∀(j:Nat)(x:τ.den),l[j]? = some x->τ.At (Gw w).imm x g (j*τ.sz):=by
 unfold qo4 at h;rw[ht]at h;simp only at h;split at h
 ·rename_i m E ds hu;simp only[qA]at h;obtain⟨h1,h2,h3,h4⟩:=h;have h2:=qN h2;have h3:=qN h3;obtain⟨xs,m',rfl,e,hl,hxl,hg⟩:=DataW.trod_array hu hd;simp only[qP,DataW.agg.injEq]at e;obtain⟨rfl,rfl⟩:=e;obtain⟨dl,dg⟩:=q6j h4;refine⟨by rw[← Array.length_toList,hl,h3],fun j x hx => ?_⟩
  obtain⟨d,hd1,hd2⟩:=dg j x hx;rw[List.getElem?_map]at hd1;obtain⟨y,hy,rfl⟩:=Option.map_eq_some_iff.1 hd1;have hj:j<m:=by rw[← hxl];exact(List.getElem?_eq_some_iff.1 hy).1
  have:=hg j hj;rw[hy]at this;obtain⟨r1,r2⟩:=zln h1 this hd2;refine r7.1 (ak.cells _ _ _ r1 r2 fun i v hv => ?_)
  rw[h2,List.getElem?_take]at hv;split at hv
  ·rw[List.getElem?_drop]at hv;obtain⟨u,fr,hh⟩:=hc;simp only[World.cell?,hh];rw[← Array.getElem?_toList];exact hv
  ·cases hv
 ·cases h
def qxv{laid:List (String×DataW Unit)}{n:String}{d:DataW Unit}:∀{l:List (String×DataW Unit)}{ps:List MemPlace},DataW.LaidVars P w l ps->(n,d)∈l ->
  ∃g t cs fuel p,P.globalNamed n=some g/\(P.globals[g]?).map (·.type)=some t/\(∃u fr,w.heap[g]? = some (.cells cs u fr))/\DataW.trod (fun _=>()) P w 0 (fun _=>true) false fuel t cs.toList=some (d,p)
 |[],_,_,h=>by cases h
 |(n',d')::r,ps,hl,h=>by
  obtain⟨g,t,cs,fuel,p,q,h1,h2,h3,h4,h5,_⟩:=hl;rcases List.mem_cons.1 h with e|h
  ·simp only[qP]at e;obtain⟨rfl,rfl⟩:=e;refine⟨g,t,cs,fuel,p,h1,h2,?_,h4⟩;unfold World.var? at h3;rw[h1,qB]at h3;split at h3
   ·rename_i c u fr hh;have:=qJ h3;subst this;exact⟨u,fr,hh⟩
   ·cases h3
  ·exact qxv (laid:=laid) h5 h
end
def qzo(P:Program)(laid:List (String×DataW Unit))(e:Nat×Nat):Bool:=match LC.glob e.1 with
 |some ⟨τ,l⟩=>Nat.blt 0 l.length&&laid.any fun x=>match P.globalNamed x.1 with|some g=>Nat.beq g e.1&&qo4 P e.1 τ l e.2 x.2|none=>false
 |none=>false
def zmx(P:Program)(laid:List (String×DataW Unit))(g:Nat):Bool:=laid.any fun x=>match P.globalNamed x.1 with
 | some g'=>Nat.beq g' g&&(match(P.globals[g]?).map (·.type) with
  |some t=>match P.underlying t,x.2 with|some (.interface _),.iface _ _=>true|_,_=>false
  | none=>false)
 |none=>false
def q79{P:Program}{laid:List (String×DataW Unit)}{W:World}(h:laidMetH P laid W)(hh:(laid.all fun x=>x.2.handleName?.isNone)=true)
  (hg:∀g τ l,LC.glob g=some ⟨τ,l⟩->∃n,(g,n)∈LC.sizes) (hs:LC.sizes.all (qzo P laid)=true) (hi:LC.ifs.all (zmx P laid)=true) (hn:∀g∈LC.ints,∃k,W.cell? ⟨g,0,none⟩=some (.int .i64 k)):LC.tab (Gw W).imm W:=by
 rw[MakeChecks.laidMetH_plain _ _ _ hh]at h;obtain⟨ps,hl,_⟩:=h;have key:∀e∈LC.sizes,∃τ l,LC.glob e.1=some ⟨τ,l⟩/\0<l.length/\∃(cs:Array Value)(u:TypeId)(fr:Nat×Nat),W.heap[e.1]? = some (.cells cs u fr)/\cs.size=e.2/\∀(j:Nat)(x:τ.den),l[j]? = some x->τ.At (Gw W).imm x e.1 (j*τ.sz):=fun e he=>by
  have h1:=List.all_eq_true.1 hs e he;unfold qzo at h1;split at h1
  ·rename_i τ l hgl;rw[qA]at h1;obtain⟨x,hx,h2⟩:=List.any_eq_true.1 h1.2;split at h2
   ·rename_i g hgn;rw[qA]at h2;have:=qN h2.1;subst this;obtain⟨g',t,cs,fuel,p,k1,k2,⟨u,fr,k3⟩,k4⟩:=qxv (laid:=laid) hl (n:=x.1) (d:=x.2) hx;rw[hgn]at k1;have:=qJ k1;subst this;obtain⟨r1,r2⟩:=zrr h2.2 k2 ⟨u,fr,k3⟩ k4;exact⟨τ,l,hgl,Nat.le_of_ble_eq_true h1.1,cs,u,fr,k3,r1,r2⟩
   ·cases h2
  ·cases h1
 refine⟨fun g τ l hgl j x hx => ?_,fun g hgi => ?_,fun g hgi => ?_,fun e he => ?_⟩
 ·obtain⟨n,hn⟩:=hg g τ l hgl;obtain⟨τ',l',h1,_,cs,u,fr,_,_,h5⟩:=key _ hn;rw[hgl]at h1;cases h1
  exact h5 j x hx
 ·obtain⟨k,hk⟩:=hn g hgi;exact⟨k,quy hk rfl⟩
 ·have h1:=List.all_eq_true.1 hi g hgi;obtain⟨x,hx,h2⟩:=List.any_eq_true.1 h1;split at h2
  ·rename_i g' hgn;rw[qA]at h2;have:=qN h2.1;subst this;obtain⟨g2,t,cs,fuel,p,k1,k2,⟨u,fr,k3⟩,k4⟩:=qxv (laid:=laid) hl (n:=x.1) (d:=x.2) hx;rw[hgn]at k1;have:=qJ k1;subst this;have h3:=h2.2;rw[k2]at h3;simp only at h3;split at h3
   ·rename_i ms nm d hu hd;rw[hd]at k4;obtain⟨_,u',v,hcs,_,_⟩:=iface_of_trod hu k4;refine⟨u',v,quy ?_ rfl⟩;simp only[World.cell?,k3];rw[← Array.getElem?_toList,hcs];rfl
   ·cases h3
  ·cases h2
 ·obtain⟨τ,l,h1,h2,cs,u,fr,h3,h4,h5⟩:=key e he;refine⟨?_,cs,u,fr,h3,h4⟩;have h6:=h5 0 l[0] (by simp[h2])
  have:∃o v,(Gw W).imm e.1 o=some v:=by
   have hx:=List.all_eq_true.1 hs e he;unfold qzo at hx;rw[h1]at hx;simp only[qA]at hx;obtain⟨x,_,hx⟩:=List.any_eq_true.1 hx.2;split at hx
   ·rw[qA]at hx;have hx:=hx.2;unfold qo4 at hx;split at hx
    ·split at hx
     ·simp only[qA]at hx;have hx:=hx.1;unfold qnb at hx;split at hx
      ·exact⟨_,_,h6⟩
      ·exact⟨_,_,h6⟩
      ·exact⟨_,_,h6.1⟩
      ·cases hx
     ·cases hx
    ·cases hx
   ·cases hx
  exact this
section
variable{H:Type}{enc:TypeId×Value->H}
def zdq{C:Checked}{os:Os}{f:FuncId}{fn:Func}{s:OpenSpec}{conds:List PathCond}{apart:Bool}{laid:List (String×DataW Unit)}(modest:Bool)(w0:World)(args:Array Value)(hos:w0.os=os)
  (hsh:(w0.forCall (fun _ _=>0) ⟨#[],args,[]⟩).Shaped C.prog) (hok:Input.okWideB C.prog (w0.forCall (fun _ _=>0) ⟨#[],args,[]⟩) f ⟨#[],args,[]⟩=true)
  (hrow:s.preRow enc C.prog fn conds apart laid (w0.forCall (fun _ _=>0) ⟨#[],args,[]⟩).memory args) :
  ∃(w:World)(tape:Tape)(i:Input),w.os=os/\(w.forCall tape i).Shaped C.prog/\i.vars=[]/\Input.okWide C.prog (w.forCall tape i) .any w.heap.size f i /\
   s.preRow enc C.prog fn conds apart laid (w.forCall tape i).memory i.args/\({ modest:=modest }:Assume).holds C.prog (lone (Frame.enter C.prog f i.args .normal) [] (w.forCall tape i)):=
 ⟨w0,fun _ _=>0,⟨#[],args,[]⟩,hos,hsh,(Input.okWide_of_okWideB (base:=0) hok).1,(Input.okWide_of_okWideB hok).2,hrow,by
  simp only[Assume.holds];exact⟨by simp,by simp,fun _=>Modest.zero,by simp,by simp⟩⟩
end
end Go.Sym
namespace Go.Sym
set_option linter.unusedVariables false
abbrev wU : Type := Tree (List (Bs × Bs) × Bs)
abbrev wV : Type := List (Bs × Bs)
section
variable(fu:Nat)
def zs8:List Int:=[1,10,100,1000,10000,100000,1000000,10000000,100000000,1000000000,10000000000,100000000000,1000000000000,10000000000000,100000000000000,1000000000000000,10000000000000000,100000000000000000,1000000000000000000,10000000000000000000]
def qio:List UInt8:=[240,240,240,240,240,240,240,240,240,240,240,240,240,240,240,240,240,240,240,240,240,240,240,240,240,240,240,240,240,240,240,240,240,240,240,240,240,240,240,240,240,240,240,240,240,240,240,240,240,240,240,240,240,240,240,240,240,240,240,240,240,240,240,240,240,240,240,240,240,240,240,240,240,240,240,240,240,240,240,240,240,240,240,240,240,240,240,240,240,240,240,240,240,240,240,240,240,240,240,240,240,240,240,240,240,240,240,240,240,240,240,240,240,240,240,240,240,240,240,240,240,240,240,240,240,240,240,240,241,241,241,241,241,241,241,241,241,241,241,241,241,241,241,241,241,241,241,241,241,241,241,241,241,241,241,241,241,241,241,241,241,241,241,241,241,241,241,241,241,241,241,241,241,241,241,241,241,241,241,241,241,241,241,241,241,241,241,241,241,241,241,241,241,241,2,2,2,2,2,2,2,2,2,2,2,2,2,2,2,2,2,2,2,2,2,2,2,2,2,2,2,2,2,2,19,3,3,3,3,3,3,3,3,3,3,3,3,35,3,3,52,4,4,4,68,241,241,241,241,241,241,241,241,241,241,241]
def qip:List (UInt8×UInt8):=[(128,191),(160,191),(128,159),(144,191),(128,143),(0,0),(0,0),(0,0),(0,0),(0,0),(0,0),(0,0),(0,0),(0,0),(0,0),(0,0)]
def bn(a:Int)(b:Int):Option ((Int×Int)):=some (a,b)
def qkf(a:UInt8):Option Bool:=bif decide (33<=a) then bif decide (a<=126) then some (a != 58) else some false else some false
abbrev q1o:=Bs->Int->Int->Option Bool
def qq5(fu:Nat)(f:q1o):q1o:=fun b c a=>bif decide (a<c) then(am b a).bind fun d=>(qkf d).bind fun e=>bif !e then some false else f b c (af (a+1)) else some true
def qec(fu:Nat):Nat->q1o|0=>fun _ _ _=>none|n+1=>qq5 fu (qec fu n)
def qq4(a:Bs):Option Bool:=qec fu fu a (a.length:Int) 0
def qke(a:Bs):Option Bool:=bif !(a==([]:Bs)) then bif decide ((a.length:Int)<=60) then(qq4 fu a).bind fun b=>some b else some false else some false
def qtz(a:Int):Option Bool:=some (decide (8<a))
abbrev q1z:=Bs->Int->(List Bool)->Option ((List Bool)×Bool)
def q3m(fu:Nat)(e:q1z):q1z:=fun b c a=>bif decide (c<(b.length:Int)) then(am b c).bind fun d=>bif decide (128<=d) then bif decide (a.length=256) then bif decide (a.length=a.length)&&decide (a.length=256) then bif decide (a.length=256)&&(true&&true) then some (a,false) else none else none else none else(a[d.toNat]?).bind fun f=>e b (af (c+1)) (List.set a d.toNat true) else bif decide (a.length=256) then bif decide (a.length=a.length)&&decide (a.length=256) then bif decide (a.length=256)&&(true&&true) then some (a,true) else none else none else none
def qty(fu:Nat):Nat->q1z|0=>fun _ _ _=>none|n+1=>q3m fu (qty fu n)
def qbt(a:Bs):Option ((List Bool)×Bool):=qty fu fu a 0 (List.replicate 256 false)
def qew(a:Bs)(c:UInt8):Option Int:=(uo a c).bind fun b=>some b
def qfz(a:Bs)(c:UInt8):Option Int:=(qew a c).bind fun b=>some b
def ql5(a:Int):Option Bool:=bif decide (0<=a) then bif decide (a<55296) then some true else bif decide (57343<a) then bif decide (a<=1114111) then some true else some false else some false else bif decide (57343<a) then bif decide (a<=1114111) then some true else some false else some false
abbrev q2k:=Bs->Nat->Option Int
abbrev q2l:=Bs->Bs->Int->Int->Int->Option Int
abbrev vd7:=Bs->Bs->Int->Int->Option Int
abbrev qd0:=Bs->Bs->Int->Int->Option Int
abbrev vd6:=Bs->Int->Bool->Option Int
def qtg(fu:Nat)(c:q2k):q2k:=fun b a=>bif Nat.blt a (b.length) then bif(((d9 b a).1:Nat):Int)==65533 then some ((a:Nat):Int) else c b (a+(d9 b a).2) else some (-1)
def qf1(fu:Nat):Nat->q2k|0=>fun _ _=>none|n+1=>qtg fu (qf1 fu n)
def q3e(fu:Nat)(i:qd0)(g:q2l):q2l:=fun e d b c a=>bif decide (a<(d.length:Int)) then(am e (af (c-a))).bind fun h=>(am d (af (b-a))).bind fun f=>bif h != f then none else g e d b c (af (a+1)) else some (af (c-b))
def qtj(fu:Nat)(a:qd0):Nat->q2l|0=>fun _ _ _ _ _=>none|n+1=>q3e fu a (qtj fu a n)
def qti(a:qd0):vd7:=fun b e c d=>qtj fu a fu b e c d 1
def qth(e:qd0):qd0:=fun b d c a=>bif decide (a<(b.length:Int)) then(am b a).bind fun i=>(am d c).bind fun h=>bif i != h then bif decide (0<=af (a+1)/\af (a+1)<=(b.length:Int)) then(am d c).bind fun g=>(qfz (List.drop (af (a+1)).toNat b) g).bind fun f=>bif decide (f<0) then some (-1) else qti fu e b d c (af (a+(af (f+1)))) else none else qti fu e b d c a else some (-1)
def qls(fu:Nat):Nat->qd0|0=>fun _ _ _ _=>none|n+1=>qth fu (qls fu n)
def qf0:vd6:=fun c a b=>bif b then(qfz c (jy a)).bind fun d=>some d else bif a==65533 then qf1 fu fu c 0 else(ql5 a).bind fun e=>bif !e then some (-1) else qls fu fu c (ou a) (af ((List.length (ou a):Int)-1)) (af ((List.length (ou a):Int)-1))
def u5(b:Bs)(a:Int):Option Int:=bif decide (0<=a) then qf0 fu b a (decide (a<128)) else qf0 fu b a false
def qbs(b:UInt8)(a:List Bool):Option (Bool×(List Bool)):=(a[b.toNat]?).bind fun c=>some (c,a)
abbrev zww:=Bs->Int->Option Int
abbrev q0l:=Bs->Int->(List Bool)->Option Int
abbrev q0m:=Bs->Bs->Nat->Option Int
abbrev zwx:=Bs->Bs->Option Int
def qtf:zww:=fun a c=>(u5 fu a c).bind fun b=>some b
def qtd(fu:Nat)(f:q0l):q0l:=fun c a b=>bif decide (a<(c.length:Int)) then(am c a).bind fun e=>(qbs e b).bind fun d=>bif d.1 then some a else f c (af (a+1)) d.2 else some (-1)
def qfx(fu:Nat):Nat->q0l|0=>fun _ _ _=>none|n+1=>qtd fu (qfx fu n)
def qte(e:q0m):q0m:=fun c b a=>bif Nat.blt a (b.length) then(u5 fu c (((d9 b a).1:Nat):Int)).bind fun d=>bif decide (0<=d) then some ((a:Nat):Int) else e c b (a+(d9 b a).2) else some (-1)
def qfy(fu:Nat):Nat->q0m|0=>fun _ _ _=>none|n+1=>qte fu (qfy fu n)
def qlr:zwx:=fun b a=>qfy fu fu a b 0
def qlq(a:Bs)(b:Bs):Option Int:=bif b==([]:Bs) then some (-1) else bif(b.length:Int)==1 then(am b 0).bind fun d=>bif decide (128<=(d.toNat:Int)) then qtf fu a 65533 else qtf fu a (d.toNat:Int) else(qtz (a.length:Int)).bind fun e=>bif e then(qbt fu b).bind fun c=>bif decide (c.1.length=List.length (List.replicate 256 false))&&decide (c.1.length=256) then bif c.2 then qfx fu fu a 0 c.1 else qlr fu a b else none else qlr fu a b
def qlm(a:Bs)(c:Bs):Option Bool:=(qlq fu a c).bind fun b=>some (decide (0<=b))
def qrx(a:Bs):Option Bool:=(qlm fu a ([13,10,0]:Bs)).bind fun b=>some b
def lj(a:UInt8):Option Bool:=bif a==32 then some true else some (a==9)
def qki(a:Bs):Option Bool:=(qrx fu a).bind fun c=>bif !c then bif a==([]:Bs) then some true else(am a 0).bind fun b=>(lj b).bind fun f=>bif !f then(am a (af ((a.length:Int)-1))).bind fun d=>(lj d).bind fun e=>some (!e) else some false else some false
abbrev z2l:=Bs->Int->Int->Bool->Option Int
abbrev qp6:=Bs->Int->Int->Option Int
def qkh(fu:Nat)(e:qp6):z2l:=fun d c a b=>bif b then e d c (af (a+1)) else bif decide (0<c) then bif decide (78<a) then some c else e d a (af (a+1)) else e d a (af (a+1))
def qry(d:qp6):qp6:=fun a c b=>bif decide (b<(a.length:Int)) then(am a b).bind fun h=>(lj h).bind fun g=>bif !g then qkh fu d a c b true else(am a (af (b-1))).bind fun e=>(lj e).bind fun f=>qkh fu d a c b f else some c
def qer(fu:Nat):Nat->qp6|0=>fun _ _ _=>none|n+1=>qry fu (qer fu n)
def qkg(b:Bs)(a:Int):Option Int:=qer fu fu b 0 (if 1>a then 1 else a)
def ci:Option ((Int×Int)):=some (0,0)
abbrev q1i:=Int->Int->(Int×Int)->(List Bs)->Option ((Int×Int)×(List Bs))
abbrev z41:=Bs->(Int×Int)->(List Bs)->Option ((Int×Int)×(List Bs))
abbrev q1h:=Bs->Int->(Int×Int)->(List Bs)->Option ((Int×Int)×(List Bs))
def qrw(fu:Nat)(e:q1i):q1i:=fun c a d b=>bif decide (a<c) then bif decide (0<=a/\a.toNat<b.length) then(b[a.toNat]?).bind fun f=>bif decide (998<(f.length:Int)) then(bn 1 a).bind fun g=>some (g,[]) else e c (af (a+1)) d b else none else(ci).bind fun h=>some (h,b)
def qeq(fu:Nat):Nat->q1i|0=>fun _ _ _ _=>none|n+1=>qrw fu (qeq fu n)
def qep:z41:=fun b c a=>bif decide (List.length (a++([b]:List Bs))<=ax) then qeq fu fu (List.length (a++([b]:List Bs)):Int) 0 c (a++([b]:List Bs)) else none
def qrv(e:q1h):q1h:=fun b f d a=>bif decide (78<(b.length:Int)) then(qkg fu b f).bind fun c=>bif c==0 then qep fu b d a else bif decide (0<=c/\c<=(b.length:Int)) then bif decide (List.length (a++([List.take c.toNat b]:List Bs))<=ax) then bif decide (0<=c/\c<=(b.length:Int)) then e (List.drop c.toNat b) 0 d (a++([List.take c.toNat b]:List Bs)) else none else none else none else qep fu b d a
def qeo(fu:Nat):Nat->q1h|0=>fun _ _ _ _=>none|n+1=>qrv fu (qeo fu n)
def qa3(a:Bs)(b:Bs):Option ((Int×Int)×(List Bs)):=(qke fu a).bind fun d=>bif !d then(bn 10 (-1)).bind fun e=>some (e,[]) else bif decide (4000<(b.length:Int)) then(bn 1 (-1)).bind fun g=>some (g,[]) else(qki fu b).bind fun c=>bif !c then(bn 11 (-1)).bind fun f=>some (f,[]) else bif decide (a.length+List.length ([58,32]:Bs)<=bc) then bif decide (List.length (a++([58,32]:Bs))+b.length<=bc) then qeo fu fu ((a++([58,32]:Bs))++b) (af ((a.length:Int)+2)) (0,0) [] else none else none
def c7(a:Int×Int):Option Bool:=some (a.1 != 0)
abbrev q1k:=wV->Int->Int->(Int×Int)->Option ((Int×Int))
def qr1(i:q1k):q1k:=fun b c a d=>bif decide (a<c) then(am b a).bind fun e=>(qa3 fu e.1 e.2).bind fun f=>(c7 f.1).bind fun h=>bif h then(bn f.1.1 a).bind fun g=>some g else i b c (af (a+1)) d else(ci).bind fun j=>some j
def qeu(fu:Nat):Nat->q1k|0=>fun _ _ _ _=>none|n+1=>qr1 fu (qeu fu n)
def qa5(a:List (Bs×Bs)):Option ((Int×Int)):=bif decide (60<(a.length:Int)) then(bn 2 (-1)).bind fun b=>some b else qeu fu fu a (a.length:Int) 0 (0,0)
abbrev q1l:=Int->Int->Bs->Option (Bs)
def qaz(fu:Nat)(e:q1l):q1l:=fun c a b=>bif decide (a<c) then bif decide (0<=a/\a.toNat<b.length) then(b[a.toNat]?).bind fun d=>bif decide (65<=d) then bif decide (d<=90) then bif decide (0<=a/\a.toNat<b.length) then(b[a.toNat]?).bind fun f=>e c (af (a+1)) (List.set b a.toNat ((d+97)-65)) else none else e c (af (a+1)) b else e c (af (a+1)) b else none else some b
def si(fu:Nat):Nat->q1l|0=>fun _ _ _=>none|n+1=>qaz fu (si fu n)
def um(a:Bs):Option (Bs):=bif decide (a.length<=maxLen) then si fu fu (a.length:Int) 0 a else none
def ei(a:Bs)(b:Bs):Option Bool:=bif(a.length:Int)==(b.length:Int) then(um fu a).bind fun c=>(um fu b).bind fun d=>some (c==d) else some false
def xt(a:Bs)(b:Bs):Option Bool:=bif decide ((b.length:Int)<=(a.length:Int)) then bif decide (0<=af ((a.length:Int)-(b.length:Int))/\af ((a.length:Int)-(b.length:Int))<=(a.length:Int)) then some ((List.drop (af ((a.length:Int)-(b.length:Int))).toNat a)==b) else none else some false
def qr3(a:Bs)(b:Bs):Option (Bs):=(xt a b).bind fun c=>bif c then bif decide (0<=af ((a.length:Int)-(b.length:Int))/\af ((a.length:Int)-(b.length:Int))<=(a.length:Int)) then some (List.take (af ((a.length:Int)-(b.length:Int))).toNat a) else none else some a
def qlz(a:Bs)(c:Bs):Option (Bs):=(qr3 a c).bind fun b=>some b
abbrev q1n:=Bs->Int->Int->Bs->Option (Bs)
def qkd(fu:Nat)(e:q1n):q1n:=fun c d b a=>bif decide (b<d) then(am c b).bind fun f=>(lj f).bind fun h=>bif h then bif decide (0<(a.length:Int)) then bif decide (0<=af ((a.length:Int)-1)/\(af ((a.length:Int)-1)).toNat<a.length) then(a[(af ((a.length:Int)-1)).toNat]?).bind fun i=>bif i==32 then e c d (af (b+1)) a else bif decide (List.length (a++([32]:Bs))<=ax) then e c d (af (b+1)) (a++([32]:Bs)) else none else none else bif decide (List.length (a++([32]:Bs))<=ax) then e c d (af (b+1)) (a++([32]:Bs)) else none else bif decide (List.length (a++([f]:Bs))<=ax) then e c d (af (b+1)) (a++([f]:Bs)) else none else(qlz a ([32]:Bs)).bind fun g=>some g
def xn(fu:Nat):Nat->q1n|0=>fun _ _ _ _=>none|n+1=>qkd fu (xn fu n)
def qen(a:Bs):Option (Bs):=xn fu fu a (a.length:Int) 0 []
def qem(c:Bs×Bs):Option (Bs):=(um fu c.1).bind fun a=>bif decide (a.length+List.length ([58]:Bs)<=bc) then(qen fu c.2).bind fun b=>bif decide (List.length (a++([58]:Bs))+b.length<=bc) then bif decide (List.length ((a++([58]:Bs))++b)+List.length ([13,10]:Bs)<=bc) then some (((a++([58]:Bs))++b)++([13,10]:Bs)) else none else none else none
abbrev z5v:=wV->Bs->Int->(List Bs)->Int->Int->Bool->(Int×Int)->(List Bool)->Bs->Option ((Int×Int)×Bs)
abbrev qqb:=wV->Bs->Int->(List Bs)->Int->Int->(Int×Int)->(List Bool)->Bs->Option ((Int×Int)×Bs)
abbrev qdt:=wV->(List Bs)->Int->Int->(Int×Int)->(List Bool)->Bs->Option ((Int×Int)×Bs)
def qrt(m:qdt)(o:qqb):z5v:=fun h j a f g d i e b c=>bif i then bif decide (0<=a/\a.toNat<b.length) then(b[a.toNat]?).bind fun p=>(am h a).bind fun l=>(qem fu l).bind fun k=>bif decide (List.length (c++k)<=ax) then m h f g (af (d+1)) e (List.set b a.toNat true) (c++k) else none else none else o h j (af (a-1)) f g d e b c
def q20(j:qdt)(k:qqb):qqb:=fun i f a e g c d b h=>bif decide (0<=a) then bif decide (0<=a/\a.toNat<b.length) then(b[a.toNat]?).bind fun l=>bif !l then(am i a).bind fun m=>(ei fu m.1 f).bind fun o=>qrt fu j k i f a e g c o d b h else qrt fu j k i f a e g c false d b h else none else j i e g (af (c+1)) d b h
def qrs(fu:Nat)(a:qdt):Nat->qqb|0=>fun _ _ _ _ _ _ _ _ _=>none|n+1=>q20 fu a (qrs fu a n)
def q2z(j:qdt):qdt:=fun g b c a e f d=>bif decide (a<c) then(am b a).bind fun h=>qrs fu j fu g h (af ((g.length:Int)-1)) b c a e f d else(ci).bind fun i=>some (i,d)
def qrr(fu:Nat):Nat->qdt|0=>fun _ _ _ _ _ _ _=>none|n+1=>q2z fu (qrr fu n)
def q2y(a:List (Bs×Bs))(b:List Bs):Option ((Int×Int)×Bs):=(qa5 fu a).bind fun c=>(c7 c).bind fun e=>bif e then some (c,[]) else bif decide (300<(b.length:Int)) then(bn 2 (-2)).bind fun d=>some (d,[]) else bif decide (0<=(a.length:Int)/\(a.length:Int)=(a.length:Int)/\(a.length:Int)<=4294967296) then qrr fu fu a b (b.length:Int) 0 (0,0) (List.replicate (a.length:Int).toNat false) [] else none
def qrj(a:Bs)(c:Bs)(b:Int):Option (Bs×Bs×Int):=some (c,(a,b))
def qrc(a:Bs)(c:Bs):Option (Bs×Bs×Int):=(qrj a c 0).bind fun b=>some b
abbrev z6m:=UInt8->UInt8->UInt8->UInt8->Option (Int×Int)
abbrev z6l:=UInt8->UInt8->UInt8->UInt8->Bool->Option (Int×Int)
abbrev z6k:=Bs->UInt8->Int->UInt8->UInt8->Option (Int×Int)
abbrev z6j:=Bs->UInt8->Int->UInt8->UInt8->Bool->Option (Int×Int)
abbrev z6i:=Bs->UInt8->Int->UInt8->Option (Int×Int)
abbrev z6h:=Bs->UInt8->Int->UInt8->Bool->Option (Int×Int)
def q31:z6m:=fun d b a c=>some (IntKind.i32.wrap (((BitVec.ofInt 32 (IntKind.i32.wrap (((BitVec.ofInt 32 (IntKind.i32.wrap (((BitVec.ofInt 32 (IntKind.i32.wrap (((d&&&7).toNat:Int)*2 ^ min (18:Int).toNat 32))|||BitVec.ofInt 32 (IntKind.i32.wrap (((b&&&63).toNat:Int)*2 ^ min (12:Int).toNat 32))).toNat:Int)))|||BitVec.ofInt 32 (IntKind.i32.wrap (((a&&&63).toNat:Int)*2 ^ min (6:Int).toNat 32))).toNat:Int)))|||BitVec.ofInt 32 ((c&&&63).toNat:Int)).toNat:Int)),4)
def quv:z6l:=fun e c b d a=>bif a then some (65533,1) else q31 e c b d
def q30:z6k:=fun e d f b a=>bif decide (f<=3) then some (IntKind.i32.wrap (((BitVec.ofInt 32 (IntKind.i32.wrap (((BitVec.ofInt 32 (IntKind.i32.wrap (((d&&&15).toNat:Int)*2 ^ min (12:Int).toNat 32))|||BitVec.ofInt 32 (IntKind.i32.wrap (((b&&&63).toNat:Int)*2 ^ min (6:Int).toNat 32))).toNat:Int)))|||BitVec.ofInt 32 ((a&&&63).toNat:Int)).toNat:Int)),3) else(am e 3).bind fun c=>bif decide (c<128) then quv d b a c true else quv d b a c (decide (191<c))
def quu:z6j:=fun e d f c b a=>bif a then some (65533,1) else q30 e d f c b
def q3z:z6i:=fun d c e a=>bif decide (e<=2) then some (IntKind.i32.wrap (((BitVec.ofInt 32 (IntKind.i32.wrap (((c&&&31).toNat:Int)*2 ^ min (6:Int).toNat 32))|||BitVec.ofInt 32 ((a&&&63).toNat:Int)).toNat:Int)),2) else(am d 2).bind fun b=>bif decide (b<128) then quu d c e a b true else quu d c e a b (decide (191<b))
def qut:z6h:=fun d c e b a=>bif a then some (65533,1) else q3z d c e b
def qus(b:Bs):Option (Int×Int):=bif decide ((b.length:Int)<1) then some (65533,0) else(am b 0).bind fun d=>(qio[d.toNat]?).bind fun a=>bif decide (240<=a) then(am b 0).bind fun f=>some (IntKind.i32.wrap (((BitVec.ofInt 32 (IntKind.i32.wrap (((BitVec.ofInt 32 (f.toNat:Int) &&& ~~~ BitVec.ofInt 32 (Int.fdiv (IntKind.i32.wrap ((a.toNat:Int)*2 ^ min (31:Int).toNat 32)) (2 ^ min (31:Int).toNat 32))).toNat:Int)))|||BitVec.ofInt 32 (IntKind.i32.wrap (((BitVec.ofInt 32 65533&&&BitVec.ofInt 32 (Int.fdiv (IntKind.i32.wrap ((a.toNat:Int)*2 ^ min (31:Int).toNat 32)) (2 ^ min (31:Int).toNat 32))).toNat:Int)))).toNat:Int)),1) else(qip[(jj a (min (4:Int).toNat 8)).toNat]?).bind fun e=>bif decide ((b.length:Int)<((a&&&7).toNat:Int)) then some (65533,1) else(am b 1).bind fun c=>bif decide (c<e.1) then qut b d ((a&&&7).toNat:Int) c true else qut b d ((a&&&7).toNat:Int) c (decide (e.2<c))
abbrev q1p:=Bs->Bs->Int->Option (Int×Int)
def q3v(fu:Nat)(g:q1p):q1p:=fun b d f=>bif decide (0<f) then(am d 0).bind fun a=>bif decide (a<128) then some ((a.toNat:Int),1) else(qus b).bind fun c=>some c else(qus b).bind fun e=>some e
def qul(fu:Nat):Nat->q1p|0=>fun _ _ _=>none|n+1=>q3v fu (qul fu n)
def quj(a:Bs):Option (Int×Int):=qul fu fu a a (a.length:Int)
def qa2(e:Bs)(d:Int)(c:Bs):Option (Int×Bs):=(qen fu e).bind fun a=>bif a==([]:Bs) then some (af (d+1),c) else(qbr ([13,10]:Bs) d).bind fun b=>bif decide (b.length+a.length<=bc) then bif decide (List.length (b++a)+List.length ([13,10]:Bs)<=bc) then bif decide (List.length (c++((b++a)++([13,10]:Bs)))<=ax) then some (0,c++((b++a)++([13,10]:Bs))) else none else none else none
abbrev qu1:=Bs×Bs×Int×Int×Bs
abbrev q1r:=Bs->Bs->Int->Int->Bs->Option qu1
abbrev q1s:=Bs->Bs->Int->Int->Bs->Option qu1
def q2s(h:q1r):q1r:=fun e b d g c=>bif decide (0<(b.length:Int)) then(quj fu b).bind fun a=>bif decide (0<=(0:Int)/\0<=a.2/\a.2<=a.2/\a.2<=(b.length:Int)) then(qa2 fu (List.take (a.2.toNat-(0:Int).toNat) (List.drop (0:Int).toNat b)) g c).bind fun f=>bif decide (0<=a.2/\a.2<=(b.length:Int)) then h e (List.drop a.2.toNat b) d f.1 f.2 else none else none else some (e,(b,(d,(g,c))))
def qrm(fu:Nat):Nat->q1r|0=>fun _ _ _ _ _=>none|n+1=>q2s fu (qrm fu n)
def qrl(i:q1s):q1s:=fun d a c g e=>(qd a d).bind fun b=>bif decide (b<0) then bif decide (0<=(0:Int)/\0<=(a.length:Int)/\(a.length:Int)<=(a.length:Int)/\(a.length:Int)<=(a.length:Int)) then(qa2 fu (List.take ((a.length:Int).toNat-(0:Int).toNat) (List.drop (0:Int).toNat a)) g e).bind fun h=>some (d,(a,(c,h))) else none else bif decide (0<=af (b+c)/\af (b+c)<=(a.length:Int)) then bif decide (0<=(0:Int)/\0<=(List.length (List.take (af (b+c)).toNat a):Int)/\(List.length (List.take (af (b+c)).toNat a):Int)<=(List.length (List.take (af (b+c)).toNat a):Int)/\(List.length (List.take (af (b+c)).toNat a):Int)<=(List.length (List.take (af (b+c)).toNat a):Int)) then(qa2 fu (List.take ((List.length (List.take (af (b+c)).toNat a):Int).toNat-(0:Int).toNat) (List.drop (0:Int).toNat (List.take (af (b+c)).toNat a))) g e).bind fun f=>bif decide (0<=af (b+(d.length:Int))/\af (b+(d.length:Int))<=(a.length:Int)) then i d (List.drop (af (b+(d.length:Int))).toNat a) c f.1 f.2 else none else none else none
def qeh(fu:Nat):Nat->q1s|0=>fun _ _ _ _ _=>none|n+1=>qrl fu (qeh fu n)
def qrk(a:Bs)(e:Bs)(c:Int)(d:Int)(b:Bs):Option qu1:=bif(a.length:Int)==0 then qrm fu fu a e c d b else qeh fu fu a e c d b
def qel(b:Bs):Option (Bs):=bif decide (0<List.length ([13,10]:Bs)) then(qrc b ([13,10]:Bs)).bind fun a=>(qrk fu a.1 a.2.1 a.2.2 0 []).bind fun c=>some c.2.2.2.2 else none
def q2x(a:Bs):Option ((Int×Int)×Bs):=bif decide (12000<(a.length:Int)) then(bn 1 (-1)).bind fun b=>some (b,[]) else(qel fu a).bind fun c=>(ci).bind fun d=>some (d,c)
abbrev q1t:=wV->Int->Int->Int->Int->(wV×Bs)->(List Bs)->Bs->Option (Bs)
abbrev qjb:=wV->Int->Int->(wV×Bs)->Bs->Option (Bs)
def qso(fu:Nat)(j:qjb)(k:q1t):q1t:=fun g h d e a f c b=>bif decide (a<e) then bif decide (0<=a/\a.toNat<c.length) then(c[a.toNat]?).bind fun i=>bif decide (List.length (b++i)<=ax) then bif decide (List.length ((b++i)++([13,10]:Bs))<=ax) then k g h d e (af (a+1)) f c ((b++i)++([13,10]:Bs)) else none else none else none else j g h (af (d+1)) f b
def qbg(fu:Nat)(a:qjb):Nat->q1t|0=>fun _ _ _ _ _ _ _ _=>none|n+1=>qso fu a (qbg fu a n)
def qsn(h:qjb):qjb:=fun d e b c a=>bif decide (b<e) then(am d b).bind fun f=>(qa3 fu f.1 f.2).bind fun g=>qbg fu h fu d e b (g.2.length:Int) 0 c g.2 a else bif decide (List.length (a++([13,10]:Bs))<=ax) then bif decide (List.length ((a++([13,10]:Bs))++c.2)<=ax) then some ((a++([13,10]:Bs))++c.2) else none else none
def xx(fu:Nat):Nat->qjb|0=>fun _ _ _ _ _=>none|n+1=>qsn fu (xx fu n)
def qsm(a:wV×Bs):Option (Bs):=xx fu fu a.1 (a.1.length:Int) 0 a []
abbrev z7a:=Bs->Int->Int->UInt8->Option Int
abbrev z69:=Bs->Int->Int->UInt8->Bool->Option Int
abbrev qjc:=Bs->Int->Int->Option Int
def qq7(fu:Nat)(e:qjc):z7a:=fun c b d a=>bif a==13 then some 11 else bif a==10 then some 11 else bif decide (998<(af (b+1))) then some 1 else e c (af (b+1)) (af (d+1))
def qay(d:qjc):z69:=fun b f c e a=>bif a then d b 0 (af ((af (c+1))+1)) else qq7 fu d b f c e
def qq6(e:qjc):qjc:=fun a d b=>bif decide (b<(a.length:Int)) then(am a b).bind fun c=>bif c==13 then bif decide ((af (b+1))<(a.length:Int)) then(am a (af (b+1))).bind fun f=>qay fu e a d b c (f==10) else qay fu e a d b c false else qay fu e a d b c false else some 0
def xi(fu:Nat):Nat->qjc|0=>fun _ _ _=>none|n+1=>qq6 fu (xi fu n)
def qax(a:Bs):Option Int:=xi fu fu a 0 0
def qkx(c:Bs):Option ((Int×Int)):=(qax fu c).bind fun a=>bif a==11 then(bn 11 (-5)).bind fun d=>some d else bif a==1 then(bn 1 (-6)).bind fun e=>some e else(ci).bind fun b=>some b
def qkw(a:wV×Bs):Option ((Int×Int)):=(qa5 fu a.1).bind fun b=>(c7 b).bind fun d=>bif d then some b else(qsm fu a).bind fun f=>bif decide (12000<(f.length:Int)) then(bn 1 (-4)).bind fun c=>some c else(qkx fu a.2).bind fun e=>some e
abbrev q1u:=Bs->UInt8->Option (Bs)
def q3n(fu:Nat)(d:q1u):q1u:=fun a b=>bif decide (0<(a.length:Int)) then(am a 0).bind fun c=>bif c==b then bif decide (0<=(1:Int)/\1<=(a.length:Int)) then d (List.drop (1:Int).toNat a) b else none else some a else some a
def qt2(fu:Nat):Nat->q1u|0=>fun _ _=>none|n+1=>q3n fu (qt2 fu n)
def qt1(a:Bs)(b:UInt8):Option (Bs):=qt2 fu fu a b
abbrev q1v:=Bs->(List Bool)->Option (Bs×(List Bool))
def qt0(fu:Nat)(e:q1v):q1v:=fun a c=>bif decide (0<(a.length:Int)) then(am a 0).bind fun d=>(qbs d c).bind fun b=>bif !b.1 then some (a,b.2) else bif decide (0<=(1:Int)/\1<=(a.length:Int)) then e (List.drop (1:Int).toNat a) b.2 else none else some (a,c)
def qga(fu:Nat):Nat->q1v|0=>fun _ _=>none|n+1=>qt0 fu (qga fu n)
def qf9(a:Bs)(b:List Bool):Option (Bs×(List Bool)):=qga fu fu a b
abbrev z71:=UInt8->UInt8->UInt8->UInt8->Option (Int×Int)
abbrev z7z:=UInt8->UInt8->UInt8->UInt8->Bool->Option (Int×Int)
abbrev z7y:=Bs->UInt8->Int->UInt8->UInt8->Option (Int×Int)
abbrev z7x:=Bs->UInt8->Int->UInt8->UInt8->Bool->Option (Int×Int)
abbrev z7w:=Bs->UInt8->Int->UInt8->Option (Int×Int)
abbrev z7v:=Bs->UInt8->Int->UInt8->Bool->Option (Int×Int)
def q3y:z71:=fun d b a c=>some (IntKind.i32.wrap (((BitVec.ofInt 32 (IntKind.i32.wrap (((BitVec.ofInt 32 (IntKind.i32.wrap (((BitVec.ofInt 32 (IntKind.i32.wrap (((d&&&7).toNat:Int)*2 ^ min (18:Int).toNat 32))|||BitVec.ofInt 32 (IntKind.i32.wrap (((b&&&63).toNat:Int)*2 ^ min (12:Int).toNat 32))).toNat:Int)))|||BitVec.ofInt 32 (IntKind.i32.wrap (((a&&&63).toNat:Int)*2 ^ min (6:Int).toNat 32))).toNat:Int)))|||BitVec.ofInt 32 ((c&&&63).toNat:Int)).toNat:Int)),4)
def qur:z7z:=fun e c b d a=>bif a then some (65533,1) else q3y e c b d
def q3x:z7y:=fun e d f b a=>bif decide (f<=3) then some (IntKind.i32.wrap (((BitVec.ofInt 32 (IntKind.i32.wrap (((BitVec.ofInt 32 (IntKind.i32.wrap (((d&&&15).toNat:Int)*2 ^ min (12:Int).toNat 32))|||BitVec.ofInt 32 (IntKind.i32.wrap (((b&&&63).toNat:Int)*2 ^ min (6:Int).toNat 32))).toNat:Int)))|||BitVec.ofInt 32 ((a&&&63).toNat:Int)).toNat:Int)),3) else(am e 3).bind fun c=>bif decide (c<128) then qur d b a c true else qur d b a c (decide (191<c))
def quq:z7x:=fun e d f c b a=>bif a then some (65533,1) else q3x e d f c b
def q3w:z7w:=fun d c e a=>bif decide (e<=2) then some (IntKind.i32.wrap (((BitVec.ofInt 32 (IntKind.i32.wrap (((c&&&31).toNat:Int)*2 ^ min (6:Int).toNat 32))|||BitVec.ofInt 32 ((a&&&63).toNat:Int)).toNat:Int)),2) else(am d 2).bind fun b=>bif decide (b<128) then quq d c e a b true else quq d c e a b (decide (191<b))
def qup:z7v:=fun d c e b a=>bif a then some (65533,1) else q3w d c e b
def qun(b:Bs):Option (Int×Int):=bif decide ((b.length:Int)<1) then some (65533,0) else(am b 0).bind fun d=>(qio[d.toNat]?).bind fun a=>bif decide (240<=a) then(am b 0).bind fun f=>some (IntKind.i32.wrap (((BitVec.ofInt 32 (IntKind.i32.wrap (((BitVec.ofInt 32 (f.toNat:Int) &&& ~~~ BitVec.ofInt 32 (Int.fdiv (IntKind.i32.wrap ((a.toNat:Int)*2 ^ min (31:Int).toNat 32)) (2 ^ min (31:Int).toNat 32))).toNat:Int)))|||BitVec.ofInt 32 (IntKind.i32.wrap (((BitVec.ofInt 32 65533&&&BitVec.ofInt 32 (Int.fdiv (IntKind.i32.wrap ((a.toNat:Int)*2 ^ min (31:Int).toNat 32)) (2 ^ min (31:Int).toNat 32))).toNat:Int)))).toNat:Int)),1) else(qip[(jj a (min (4:Int).toNat 8)).toNat]?).bind fun e=>bif decide ((b.length:Int)<((a&&&7).toNat:Int)) then some (65533,1) else(am b 1).bind fun c=>bif decide (c<e.1) then qup b d ((a&&&7).toNat:Int) c true else qup b d ((a&&&7).toNat:Int) c (decide (e.2<c))
def quk(a:Bs):Option (Int×Int):=bif !(a==([]:Bs)) then(am a 0).bind fun d=>bif decide (d<128) then(am a 0).bind fun b=>some ((b.toNat:Int),1) else(qun a).bind fun e=>some e else(qun a).bind fun c=>some c
def qln(a:Bs)(c:Int):Option Bool:=(u5 fu a c).bind fun b=>some (decide (0<=b))
abbrev q1w:=Bs->Bs->Option (Bs)
def q3o(e:q1w):q1w:=fun a c=>bif decide (0<(a.length:Int)) then(quk a).bind fun b=>(qln fu c b.1).bind fun d=>bif !d then some a else bif decide (0<=b.2/\b.2<=(a.length:Int)) then e (List.drop b.2.toNat a) c else none else some a
def qt4(fu:Nat):Nat->q1w|0=>fun _ _=>none|n+1=>q3o fu (qt4 fu n)
def qt3(a:Bs)(b:Bs):Option (Bs):=qt4 fu fu a b
abbrev z8l:=Bs->Bs->Option (Bs)
abbrev z8k:=Bs->Bs->Bool->Option (Bs)
abbrev z8j:=Bs->Bs->Option (Bs)
abbrev z8i:=Bs->Bs->Bool->Option (Bs)
def qtr:z8l:=fun c b=>(qbt fu b).bind fun a=>bif decide (a.1.length=List.length (List.replicate 256 false))&&decide (a.1.length=256) then bif a.2 then(qf9 fu c a.1).bind fun d=>some d.1 else(qt3 fu c b).bind fun e=>some e else none
def qlw:z8k:=fun c b a=>bif a then(am b 0).bind fun d=>(qt1 fu c d).bind fun e=>some e else qtr fu c b
def qtq:z8j:=fun b a=>bif(a.length:Int)==1 then(am a 0).bind fun c=>qlw fu b a (decide (c<128)) else qlw fu b a false
def qlv:z8i:=fun b c a=>bif a then some b else qtq fu b c
def qlu(a:Bs)(b:Bs):Option (Bs):=bif a==([]:Bs) then qlv fu a b true else qlv fu a b (b==([]:Bs))
def uv(a:Bs):Option (Bs):=(qlu fu a ([32,9]:Bs)).bind fun b=>some b
def ox(a:UInt8):Option Bool:=bif decide (33<=a) then bif decide (a<=126) then(qfz ([40,41,60,62,64,44,59,58,92,34,47,91,93,63,61,42,37,39]:Bs) a).bind fun b=>some (decide (b<0)) else some false else some false
abbrev z8y:=Int->Bs->Option (Bs×Bs)
abbrev z8x:=Int->Bool->Bs->Option (Bs×Bs)
abbrev qjg:=Int->Bs->Option (Bs×Bs)
def q23(fu:Nat)(c:qjg):z8y:=fun a b=>c (af (a+1)) b
def qsi(d:qjg):z8x:=fun a c b=>bif c then q23 fu d a b else bif decide (0<=a/\a<=(b.length:Int)) then bif decide (0<=a/\a<=(b.length:Int)) then some (List.take a.toNat b,List.drop a.toNat b) else none else none
def q21(c:qjg):qjg:=fun a b=>bif decide (a<(b.length:Int)) then(am b a).bind fun e=>(ox e).bind fun d=>qsi fu c a d b else qsi fu c a false b
def qfd(fu:Nat):Nat->qjg|0=>fun _ _=>none|n+1=>q21 fu (qfd fu n)
def qfc(a:Bs):Option (Bs×Bs):=(uv fu a).bind fun b=>qfd fu fu 0 b
def xv(c:UInt8)(d:Bs):Option (Bool×Bs):=(uv fu d).bind fun a=>bif a==([]:Bs) then some (false,a) else(am a 0).bind fun b=>bif b != c then some (false,a) else bif decide (0<=(1:Int)/\1<=(a.length:Int)) then some (true,List.drop (1:Int).toNat a) else none
def qfb(a:UInt8):Option Bool:=(ox a).bind fun b=>bif b then some true else some (a==42)
abbrev z9c:=Int->Bs->Option (Bs×Bs)
abbrev z9b:=Int->Bool->Bs->Option (Bs×Bs)
abbrev qjh:=Int->Bs->Option (Bs×Bs)
def q25(fu:Nat)(c:qjh):z9c:=fun a b=>c (af (a+1)) b
def qsj(d:qjh):z9b:=fun a c b=>bif c then q25 fu d a b else bif decide (0<=a/\a<=(b.length:Int)) then bif decide (0<=a/\a<=(b.length:Int)) then some (List.take a.toNat b,List.drop a.toNat b) else none else none
def q24(c:qjh):qjh:=fun a b=>bif decide (a<(b.length:Int)) then(am b a).bind fun e=>(qfb e).bind fun d=>qsj fu c a d b else qsj fu c a false b
def qfe(fu:Nat):Nat->qjh|0=>fun _ _=>none|n+1=>q24 fu (qfe fu n)
def qkt(a:Bs):Option (Bs×Bs):=(uv fu a).bind fun b=>qfe fu fu 0 b
def qfg(a:UInt8):Option Bool:=(ox a).bind fun b=>bif b then some true else bif a==37 then some true else bif a==39 then some true else some (a==42)
abbrev z9m:=Int->Bs->Option (Bs×Bs)
abbrev z9l:=Int->Bool->Bs->Option (Bs×Bs)
abbrev qji:=Int->Bs->Option (Bs×Bs)
def q27(fu:Nat)(c:qji):z9m:=fun a b=>c (af (a+1)) b
def qsk(d:qji):z9l:=fun a c b=>bif c then q27 fu d a b else bif decide (0<=a/\a<=(b.length:Int)) then bif decide (0<=a/\a<=(b.length:Int)) then some (List.take a.toNat b,List.drop a.toNat b) else none else none
def q26(c:qji):qji:=fun a b=>bif decide (a<(b.length:Int)) then(am b a).bind fun e=>(qfg e).bind fun d=>qsk fu c a d b else qsk fu c a false b
def qff(fu:Nat):Nat->qji|0=>fun _ _=>none|n+1=>q26 fu (qff fu n)
def qku(a:Bs):Option (Bs×Bs):=(uv fu a).bind fun b=>qff fu fu 0 b
abbrev q1y:=Int->Bs->Bs->Option (Bs×Bool×Bs)
def qsl(fu:Nat)(f:q1y):q1y:=fun c b a=>bif decide (c<(b.length:Int)) then(am b c).bind fun d=>bif d==34 then bif decide (0<=af (c+1)/\af (c+1)<=(b.length:Int)) then some (a,(true,List.drop (af (c+1)).toNat b)) else none else bif d==92 then bif(af (c+1))==(b.length:Int) then some (([]:Bs),(false,b)) else(am b (af (c+1))).bind fun e=>bif decide (List.length (a++([e]:Bs))<=ax) then f (af ((af (c+1))+1)) b (a++([e]:Bs)) else none else bif decide (List.length (a++([d]:Bs))<=ax) then f (af (c+1)) b (a++([d]:Bs)) else none else some (([]:Bs),(false,b))
def qfh(fu:Nat):Nat->q1y|0=>fun _ _ _=>none|n+1=>qsl fu (qfh fu n)
def qkv(c:Bs):Option (Bs×Bool×Bs):=(xv fu 34 c).bind fun a=>bif !a.1 then(qku fu a.2).bind fun b=>some (b.1,(true,b.2)) else qfh fu fu 0 a.2 []
abbrev z9t:=Bs->Bs->Int->Bool->Option Int
def qa7:z9t:=fun c d b a=>bif a then some 0 else bif b==1 then(am d 0).bind fun e=>(qew c e).bind fun f=>some f else bif decide ((c.length:Int)<=b) then some (-1) else none
def qa6(b:Bs)(a:Bs):Option Int:=bif(a.length:Int)==0 then qa7 b a (a.length:Int) true else qa7 b a (a.length:Int) (a==b)
def qev(b:Bs)(c:Bs):Option (Bs×Bs×Bool):=(qa6 b c).bind fun a=>bif decide (0<=a) then bif decide (0<=a/\a<=(b.length:Int)) then bif decide (0<=af (a+(c.length:Int))/\af (a+(c.length:Int))<=(b.length:Int)) then some (List.take a.toNat b,(List.drop (af (a+(c.length:Int))).toNat b,true)) else none else none else some (b,(([]:Bs),false))
def ss(a:Bs)(c:Bs):Option (Bs×Bs×Bool):=(qev a c).bind fun b=>some b
def qr2(a:Bs)(b:Bs):Option (Bs×Bool):=(xt a b).bind fun c=>bif !c then some (a,false) else bif decide (0<=af ((a.length:Int)-(b.length:Int))/\af ((a.length:Int)-(b.length:Int))<=(a.length:Int)) then some (List.take (af ((a.length:Int)-(b.length:Int))).toNat a,true) else none
def qlo(a:Bs)(c:Bs):Option (Bs×Bool):=(qr2 a c).bind fun b=>some b
abbrev zg2:=(Bs×Int×Bool×Bs)×Bool×Bs
def qks(g:Bs):Option zg2:=(qkt fu g).bind fun f=>(xv fu 61 f.2).bind fun e=>bif !e.1 then some ((([]:Bs),(0,(false,([]:Bs)))),(false,e.2)) else(qkv fu e.2).bind fun a=>(ss f.1 ([42]:Bs)).bind fun b=>bif b.2.2 then(qlo b.2.1 ([42]:Bs)).bind fun d=>(xj d.1 1099511627776).bind fun c=>bif a.2.1 then bif c.2 then some ((b.1,(c.1,(d.2,a.1))),(!(b.1==([]:Bs)),a.2.2)) else some ((b.1,(c.1,(d.2,a.1))),(false,a.2.2)) else some ((b.1,(c.1,(d.2,a.1))),(false,a.2.2)) else bif a.2.1 then some ((b.1,((-1),(false,a.1))),(!(b.1==([]:Bs)),a.2.2)) else some ((b.1,((-1),(false,a.1))),(false,a.2.2))
abbrev zg1:=Bool×(Bs×Int×Bool×Bs)
def qe5(b:Bs×Int×Bool×Bs)(a:Bs×Int×Bool×Bs):Option zg1:=(ei fu b.1 a.1).bind fun c=>some (c,a)
abbrev q36:=Int×(Bs×Int×Bool×Bs)
abbrev q10:=(List (Bs×Int×Bool×Bs))->Int->Int->(Bs×Int×Bool×Bs)->Option q36
def qtc(g:q10):q10:=fun c e a d=>bif decide (a<e) then(am c a).bind fun f=>(qe5 fu f d).bind fun b=>bif b.1 then some (a,b.2) else g c e (af (a+1)) b.2 else some ((-1),d)
def qfw(fu:Nat):Nat->q10|0=>fun _ _ _ _=>none|n+1=>qtc fu (qfw fu n)
def qtb(a:List (Bs×Int×Bool×Bs))(b:Bs×Int×Bool×Bs):Option q36:=qfw fu fu a (a.length:Int) 0 b
abbrev zhc:=Bool×(Bs×Int×Bool×Bs)
def qlj(b:List (Bs×Int×Bool×Bs))(c:Bs×Int×Bool×Bs):Option zhc:=(qtb fu b c).bind fun a=>some (decide (0<=a.1),a.2)
abbrev vao:=UInt8->Bool->Option (UInt8×Bool)
abbrev van:=UInt8->Bool->Option (UInt8×Bool)
def qq9:vao:=fun a b=>bif b then some ((a-65)+10,true) else bif decide (97<=a) then bif decide (a<=102) then some ((a-97)+10,true) else some (0,false) else some (0,false)
def qq8:van:=fun a b=>bif b then some (a-48,true) else bif decide (65<=a) then qq9 a (decide (a<=70)) else qq9 a false
def sh(a:UInt8):Option (UInt8×Bool):=bif decide (48<=a) then qq8 a (decide (a<=57)) else qq8 a false
def sj(b:Bs):Option (UInt8×Bool):=bif decide ((b.length:Int)<2) then some (0,false) else(am b 0).bind fun e=>(sh e).bind fun c=>(am b 1).bind fun d=>(sh d).bind fun a=>bif c.2 then some ((me c.1 (min (4:Int).toNat 8))|||a.1,a.2) else some ((me c.1 (min (4:Int).toNat 8))|||a.1,false)
abbrev q12:=Bs->Int->Bs->Option (Bs)
abbrev vax:=Bs->Option (Bs)
abbrev vaw:=Bs->Bool->Option (Bs)
def qsg(fu:Nat)(d:q12):q12:=fun c b a=>bif decide (b<(c.length:Int)) then(am c b).bind fun h=>bif h==37 then bif decide (0<=af (b+1)/\af (b+1)<=(c.length:Int)) then(sj (List.drop (af (b+1)).toNat c)).bind fun e=>bif e.2 then bif decide (List.length (a++([e.1]:Bs))<=ax) then d c (af ((af (b+2))+1)) (a++([e.1]:Bs)) else none else(am c b).bind fun f=>bif decide (List.length (a++([f]:Bs))<=ax) then d c (af (b+1)) (a++([f]:Bs)) else none else none else(am c b).bind fun g=>bif decide (List.length (a++([g]:Bs))<=ax) then d c (af (b+1)) (a++([g]:Bs)) else none else some a
def qe9(fu:Nat):Nat->q12|0=>fun _ _ _=>none|n+1=>qsg fu (qe9 fu n)
def qbe:vax:=fun a=>qe9 fu fu a 0 []
def uu:vaw:=fun b a=>bif a then bif decide (0<=(6:Int)/\6<=(b.length:Int)) then qbe fu (List.drop (6:Int).toNat b) else none else qbe fu b
def qkq(a:Bs×Int×Bool×Bs):Option (Bs):=bif !a.2.2.1 then some a.2.2.2 else bif a.2.1==0 then bif decide (6<=(a.2.2.2.length:Int)) then bif decide (0<=(6:Int)/\6<=(a.2.2.2.length:Int)) then(ei fu (List.take (6:Int).toNat a.2.2.2) ([117,116,102,56,39,39]:Bs)).bind fun b=>uu fu a.2.2.2 b else none else uu fu a.2.2.2 false else uu fu a.2.2.2 false
abbrev q13:=Int->Int->(Bs×Bs)->(Bs×Bs)->(List (Bs×Int×Bool×Bs))->Option ((Bs×Bs)×Bool)
def qr9(i:q13):q13:=fun d b e a c=>bif decide (b<d) then bif decide (0<=b/\b.toNat<c.length) then(c[b.toNat]?).bind fun f=>bif f.2.1 != b then some (a,false) else(qkq fu f).bind fun g=>bif decide (a.2.length+g.length<=bc) then i d (af (b+1)) e (a.1,a.2++g) c else none else none else(yi a.2 ([239,191,189]:Bs)).bind fun h=>some ((a.1,h),true)
def qe2(fu:Nat):Nat->q13|0=>fun _ _ _ _ _=>none|n+1=>qr9 fu (qe2 fu n)
def qe1(a:List (Bs×Int×Bool×Bs)):Option ((Bs×Bs)×Bool):=bif decide (0<=(0:Int)/\(0:Int).toNat<a.length) then(a[(0:Int).toNat]?).bind fun b=>bif decide (0<=(0:Int)/\(0:Int).toNat<a.length) then(a[(0:Int).toNat]?).bind fun d=>bif decide (0<=(0:Int)/\(0:Int).toNat<a.length) then(a[(0:Int).toNat]?).bind fun e=>bif decide (e.2.1<0) then some ((b.1,d.2.2.2),(a.length:Int)==1) else(yh a).bind fun c=>qe2 fu fu (c.length:Int) 0 (([]:Bs),([]:Bs)) (b.1,([]:Bs)) c else none else none else none
abbrev yq:=Bool×wV
abbrev va7:=(List (Bs×Int×Bool×Bs))->(List (Bs×Int×Bool×Bs))->Int->Int->(List (Bs×Int×Bool×Bs))->Int->Int->(Bs×Int×Bool×Bs)->(List (Bs×Int×Bool×Bs))->wV->Option yq
abbrev qqf:=(List (Bs×Int×Bool×Bs))->(List (Bs×Int×Bool×Bs))->Int->Int->(List (Bs×Int×Bool×Bs))->Int->Int->(Bs×Int×Bool×Bs)->wV->(List (Bs×Int×Bool×Bs))->Option yq
abbrev qdy:=(List (Bs×Int×Bool×Bs))->(List (Bs×Int×Bool×Bs))->Int->Int->wV->Option yq
def qe7(fu:Nat)(l:qdy)(k:qqf):va7:=fun j a g d b f h c e i=>k j a g d b f (af (h+1)) c i e
def qsd(m:qdy)(p:qqf):qqf:=fun k d i g e h b f a c=>bif decide (b<h) then(am e b).bind fun j=>(qe5 fu j f).bind fun l=>bif l.1 then bif decide (List.length (c++([j]:List (Bs×Int×Bool×Bs)))<=ax) then qe7 fu m p k d i g e h b l.2 (c++([j]:List (Bs×Int×Bool×Bs))) a else none else qe7 fu m p k d i g e h b l.2 c a else(qe1 fu c).bind fun o=>bif !o.2 then some (false,[]) else bif decide (List.length (a++([(f.1,o.1.2)]:List (Bs×Bs)))<=ax) then m k d i (af (g+1)) (a++([(f.1,o.1.2)]:List (Bs×Bs))) else none
def qe6(fu:Nat)(a:qdy):Nat->qqf|0=>fun _ _ _ _ _ _ _ _ _ _=>none|n+1=>qsd fu a (qe6 fu a n)
def qsc(g:qdy):qdy:=fun e b d a c=>bif decide (a<d) then(am b a).bind fun h=>bif decide (0<=a/\a<=(e.length:Int)) then(qlj fu (List.take a.toNat e) h).bind fun f=>bif f.1 then g e b d (af (a+1)) c else qe6 fu g fu e b d a e (e.length:Int) 0 f.2 c [] else none else some (true,c)
def qbd(fu:Nat):Nat->qdy|0=>fun _ _ _ _ _=>none|n+1=>qsc fu (qbd fu n)
def qbc(a:List (Bs×Int×Bool×Bs)):Option yq:=qbd fu fu a a (a.length:Int) 0 []
abbrev qgk:=(Bs×Bs×Bool) ⊕ (Bs×Bs×Bool×wV)
abbrev q14:=Bs->Bs->Bs->Bs->Bs->(List (Bs×Int×Bool×Bs))->Option qgk
abbrev vbe:=Bs->Bs->Bs->Bs->Bs->Option qgk
abbrev vbd:=Bool->Bs->Bs->Bs->Bs->Bs->Option qgk
def qse(j:q14):q14:=fun e c h b a d=>(xv fu 59 h).bind fun i=>bif i.1 then(qks fu i.2).bind fun f=>bif !f.2.1 then some (.inl (b,(a,false))) else bif decide (List.length (d++([f.1]:List (Bs×Int×Bool×Bs)))<=ax) then j e c f.2.2 b a (d++([f.1]:List (Bs×Int×Bool×Bs))) else none else(uv fu i.2).bind fun k=>(qbc fu d).bind fun g=>bif g.1 then some (.inr (b,(a,(k==([]:Bs),g.2)))) else some (.inr (b,(a,(false,g.2))))
def qe8(fu:Nat):Nat->q14|0=>fun _ _ _ _ _ _=>none|n+1=>qse fu (qe8 fu n)
def qsf:vbe:=fun d b e c a=>qe8 fu fu d b e c a []
def ut:vbd:=fun f d c e b a=>bif f then some (.inl (b,(a,false))) else qsf fu d c e b a
def qkp(d:Bs):Option qgk:=(qfc fu d).bind fun b=>(xv fu 47 b.2).bind fun c=>(qfc fu c.2).bind fun a=>bif b.1==([]:Bs) then ut fu true ([]:Bs) ([]:Bs) a.2 b.1 a.1 else bif !c.1 then ut fu true ([]:Bs) ([]:Bs) a.2 b.1 a.1 else ut fu (a.1==([]:Bs)) ([]:Bs) ([]:Bs) a.2 b.1 a.1
abbrev q15:=Bs->Int->Int->Option Bool
def q2n(fu:Nat)(f:q15):q15:=fun b c a=>bif decide (a<c) then(am b a).bind fun d=>(ox d).bind fun e=>bif !e then some false else f b c (af (a+1)) else some true
def qed(fu:Nat):Nat->q15|0=>fun _ _ _=>none|n+1=>q2n fu (qed fu n)
def qj5(a:Bs):Option Bool:=qed fu fu a (a.length:Int) 0
def xw(a:Bs):Option Bool:=bif !(a==([]:Bs)) then bif decide ((a.length:Int)<=60) then(qj5 fu a).bind fun b=>some b else some false else some false
def qr6(b:Bs×Bs)(a:Bs×Bs):Option (Bool×(Bs×Bs)):=(ei fu b.1 a.1).bind fun c=>some (c,a)
abbrev q16:=wV->Int->Int->(Bs×Bs)->Option (Int×(Bs×Bs))
def qs9(g:q16):q16:=fun c e a d=>bif decide (a<e) then(am c a).bind fun f=>(qr6 fu f d).bind fun b=>bif b.1 then some (a,b.2) else g c e (af (a+1)) b.2 else some ((-1),d)
def qfv(fu:Nat):Nat->q16|0=>fun _ _ _ _=>none|n+1=>qs9 fu (qfv fu n)
def qs8(a:List (Bs×Bs))(b:Bs×Bs):Option (Int×(Bs×Bs)):=qfv fu fu a (a.length:Int) 0 b
def qli(b:List (Bs×Bs))(c:Bs×Bs):Option (Bool×(Bs×Bs)):=(qs8 fu b c).bind fun a=>some (decide (0<=a.1),a.2)
abbrev vb0:=Int->wV->Int->Int->Bool->(Bs×Bs×wV)->(Int×Int)->(Bs×Bs)->Option ((Int×Int))
abbrev qqh:=wV->Int->Int->(Bs×Bs×wV)->(Int×Int)->Option ((Int×Int))
abbrev vbz:=(Bs×Bs×wV)->(Int×Int)->Option ((Int×Int))
abbrev vby:=Bool->(Bs×Bs×wV)->(Int×Int)->Option ((Int×Int))
def xu(m:qqh):vb0:=fun b g h i d a f e=>bif d then(bn 10 b).bind fun j=>some j else bif decide (0<=b/\b<=(a.2.2.length:Int)) then(qli fu (List.take b.toNat a.2.2) e).bind fun c=>bif c.1 then(bn 7 b).bind fun p=>some p else bif decide (500<(c.2.2.length:Int)) then(bn 1 b).bind fun o=>some o else(yj c.2.2).bind fun l=>bif !l then(bn 5 b).bind fun k=>some k else m g h (af (i+1)) a f else none
def qr7(g:qqh):qqh:=fun b c a d e=>bif decide (a<c) then(am b a).bind fun f=>(xw fu f.1).bind fun h=>bif !h then xu fu g a b c a true d e f else xu fu g a b c a (decide (20<(f.1.length:Int))) d e f else(ci).bind fun i=>some i
def qba(fu:Nat):Nat->qqh|0=>fun _ _ _ _ _=>none|n+1=>qr7 fu (qba fu n)
def qr8:vbz:=fun a b=>bif decide (60<(a.2.2.length:Int)) then(bn 2 (-3)).bind fun c=>some c else qba fu fu a.2.2 (a.2.2.length:Int) 0 a b
def qa9:vby:=fun c a b=>bif c then(bn 10 (-2)).bind fun d=>some d else qr8 fu a b
def sm(a:Bs×Bs×wV):Option ((Int×Int)):=(xw fu a.1).bind fun b=>bif !b then qa9 fu true a (0,0) else(xw fu a.2.1).bind fun c=>qa9 fu (!c) a (0,0)
abbrev q32:=(Bs×Bs×Int×Int) ⊕ (Bs×Bs×Int×Int×wV)
def qez(h:Bs):Option q32:=bif decide (4000<(h.length:Int)) then(bn 1 (-1)).bind fun k=>some (.inl (([]:Bs),(([]:Bs),k))) else(qkp fu h).bind fun m=>bh m (fun c=>bif !c.2.2 then(bn 11 (-5)).bind fun p=>some (.inl (([]:Bs),(([]:Bs),p))) else(sm fu (c.1,(c.2.1,[]))).bind fun i=>(c7 i).bind fun o=>bif o then(bn i.1 (-6)).bind fun j=>some (.inl (([]:Bs),(([]:Bs),j))) else(ci).bind fun l=>some (.inl (c.1,(c.2.1,l)))) (fun a=>bif !a.2.2.1 then(bn 11 (-5)).bind fun e=>some (.inl (([]:Bs),(([]:Bs),e))) else(sm fu (a.1,(a.2.1,a.2.2.2))).bind fun d=>(c7 d).bind fun g=>bif g then(bn d.1 (-6)).bind fun f=>some (.inl (([]:Bs),(([]:Bs),f))) else(ci).bind fun b=>some (.inr (a.1,(a.2.1,(b.1,(b.2,a.2.2.2))))))
abbrev ql7:=(Bs×Bs×Int×Bool) ⊕ (Bs×Bs×Int×Bool×wV)
abbrev vb8:=wV->Int->wV->Int->Int->Bs->Bs->Option ql7
abbrev qqi:=wV->Int->wV->Int->Int->Bs->Bs->Option ql7
def qbi(fu:Nat)(h:qqi):vb8:=fun g f d c e b a=>h g f d c (af (e+1)) b a
def qkz(j:qqi):qqi:=fun i f e d c b a=>bif decide (c<d) then(am e c).bind fun k=>(ei fu k.1 ([67,111,110,116,101,110,116,45,84,121,112,101]:Bs)).bind fun o=>bif o then bif decide (0<=f) then some (.inl (([]:Bs),(([]:Bs),(0,false)))) else qbi fu j i c e d c b a else qbi fu j i f e d c b a else bif decide (f<0) then some (.inl (([]:Bs),(([]:Bs),(0,false)))) else(am i f).bind fun p=>(qez fu p.2).bind fun m=>bh m (fun h=>(c7 h.2.2).bind fun q=>some (.inl (h.1,(h.2.1,(f,!q))))) (fun g=>(c7 (g.2.2.1,g.2.2.2.1)).bind fun l=>some (.inr (g.1,(g.2.1,(f,(!l,g.2.2.2.2))))))
def uw(fu:Nat):Nat->qqi|0=>fun _ _ _ _ _ _ _=>none|n+1=>qkz fu (uw fu n)
def qbh(a:List (Bs×Bs)):Option ql7:=uw fu fu a (-1) a (a.length:Int) 0 ([]:Bs) ([]:Bs)
abbrev q19:=Bs->wV->Int->Int->(Int×Int)->Option (Bs×Bool×(Int×Int))
def qr4(i:q19):q19:=fun f b c a d=>bif decide (a<c) then(am b a).bind fun e=>(ei fu e.1 f).bind fun h=>bif h then(ci).bind fun j=>some (e.2,(true,j)) else i f b c (af (a+1)) d else(ci).bind fun g=>some (([]:Bs),(false,g))
def qey(fu:Nat):Nat->q19|0=>fun _ _ _ _ _=>none|n+1=>qr4 fu (qey fu n)
def qex(a:Bs×Bs×wV)(d:Bs):Option (Bs×Bool×(Int×Int)):=(sm fu a).bind fun b=>(c7 b).bind fun c=>bif c then some (([]:Bs),(false,b)) else qey fu fu d a.2.2 (a.2.2.length:Int) 0 (0,0)
def qfj(a:UInt8):Option Bool:=bif decide (32<=a) then some (decide (a<=126)) else some false
abbrev q2a:=Bs->Int->Int->Option Bool
def q2o(fu:Nat)(f:q2a):q2a:=fun b c a=>bif decide (a<c) then(am b a).bind fun d=>(qfj d).bind fun e=>bif !e then some false else f b c (af (a+1)) else some true
def qee(fu:Nat):Nat->q2a|0=>fun _ _ _=>none|n+1=>q2o fu (qee fu n)
def qj6(a:Bs):Option Bool:=qee fu fu a (a.length:Int) 0
def qlp(a:Bs)(c:Bs):Option Bool:=(xt a c).bind fun b=>some b
abbrev vcp:=Bs->Bs->wV->Option (Bs×Bool)
abbrev vco:=Bool->Bs->Bs->wV->Option (Bs×Bool)
def qsu:vcp:=fun c b d=>(qex fu (c,(b,d)) ([98,111,117,110,100,97,114,121]:Bs)).bind fun a=>bif !(a.1==([]:Bs)) then bif decide ((a.1.length:Int)<=60) then(qj6 fu a.1).bind fun e=>bif e then(qlp a.1 ([32]:Bs)).bind fun f=>bif a.2.1 then some (a.1,!f) else some (a.1,false) else bif a.2.1 then some (a.1,false) else some (a.1,false) else bif a.2.1 then some (a.1,false) else some (a.1,false) else bif a.2.1 then some (a.1,false) else some (a.1,false)
def xy:vco:=fun c a b d=>bif c then some (([]:Bs),false) else qsu fu a b d
def qk1(e:List (Bs×Bs)):Option (Bs×Bool):=(qbh fu e).bind fun d=>bh d (fun b=>bif !b.2.2.2 then xy fu true b.1 b.2.1 [] else(ei fu b.1 ([109,117,108,116,105,112,97,114,116]:Bs)).bind fun c=>xy fu (!c) b.1 b.2.1 []) (fun a=>bif !a.2.2.2.1 then xy fu true a.1 a.2.1 a.2.2.2.2 else(ei fu a.1 ([109,117,108,116,105,112,97,114,116]:Bs)).bind fun f=>xy fu (!f) a.1 a.2.1 a.2.2.2.2)
def qsz(a:Bs):Option (Bs):=some a
abbrev q2c:=Bs->UInt8->Option (Bs)
def q3p(fu:Nat)(d:q2c):q2c:=fun a b=>bif decide (0<(a.length:Int)) then(am a (af ((a.length:Int)-1))).bind fun c=>bif c==b then bif decide (0<=af ((a.length:Int)-1)/\af ((a.length:Int)-1)<=(a.length:Int)) then d (List.take (af ((a.length:Int)-1)).toNat a) b else none else some a else some a
def qt7(fu:Nat):Nat->q2c|0=>fun _ _=>none|n+1=>q3p fu (qt7 fu n)
def qt6(a:Bs)(b:UInt8):Option (Bs):=qt7 fu fu a b
abbrev q2d:=Bs->(List Bool)->Option (Bs×(List Bool))
def qt5(fu:Nat)(e:q2d):q2d:=fun a c=>bif decide (0<(a.length:Int)) then(am a (af ((a.length:Int)-1))).bind fun d=>(qbs d c).bind fun b=>bif !b.1 then some (a,b.2) else bif decide (0<=af ((a.length:Int)-1)/\af ((a.length:Int)-1)<=(a.length:Int)) then e (List.take (af ((a.length:Int)-1)).toNat a) b.2 else none else some (a,c)
def qgc(fu:Nat):Nat->q2d|0=>fun _ _=>none|n+1=>qt5 fu (qgc fu n)
def qgb(a:Bs)(b:List Bool):Option (Bs×(List Bool)):=qgc fu fu a b
def qum(a:UInt8):Option Bool:=some ((a&&&192) != 128)
abbrev vc7:=Bs->Int->Int->Option (Int×Int)
abbrev vc6:=Bs->Int->Int->Option (Int×Int)
abbrev q2e:=Bs->Int->Int->Int->Option (Int×Int)
def quf(fu:Nat):vc7:=fun d b a=>bif decide (0<=a/\a<=b/\b<=(d.length:Int)) then(quk (List.take (b.toNat-a.toNat) (List.drop a.toNat d))).bind fun c=>bif(af (a+c.2)) != b then some (65533,1) else some c else none
def que:vc6:=fun a b c=>bif decide (c<0) then quf fu a b 0 else quf fu a b c
def q3t(g:q2e):q2e:=fun b c a d=>bif decide (d<=a) then(am b a).bind fun e=>(qum e).bind fun f=>bif f then que fu b c a else g b c (af (a-1)) d else que fu b c a
def qud(fu:Nat):Nat->q2e|0=>fun _ _ _ _=>none|n+1=>q3t fu (qud fu n)
def q3s(a:Bs):Option (Int×Int):=bif(a.length:Int)==0 then some (65533,0) else(am a (af ((a.length:Int)-1))).bind fun b=>bif decide ((b.toNat:Int)<128) then some ((b.toNat:Int),1) else qud fu fu a (a.length:Int) (af ((af ((a.length:Int)-1))-1)) (if 0>af ((a.length:Int)-4) then 0 else af ((a.length:Int)-4))
abbrev q2f:=Bs->Bs->Option (Bs)
def q3q(e:q2f):q2f:=fun a b=>bif decide (0<(a.length:Int)) then(am a (af ((a.length:Int)-1))).bind fun d=>bif decide (128<=(d.toNat:Int)) then(q3s fu a).bind fun c=>(qln fu b c.1).bind fun g=>bif !g then some a else bif decide (0<=af ((a.length:Int)-c.2)/\af ((a.length:Int)-c.2)<=(a.length:Int)) then e (List.take (af ((a.length:Int)-c.2)).toNat a) b else none else(qln fu b (d.toNat:Int)).bind fun f=>bif !f then some a else bif decide (0<=af ((a.length:Int)-1)/\af ((a.length:Int)-1)<=(a.length:Int)) then e (List.take (af ((a.length:Int)-1)).toNat a) b else none else some a
def qt9(fu:Nat):Nat->q2f|0=>fun _ _=>none|n+1=>q3q fu (qt9 fu n)
def qt8(a:Bs)(b:Bs):Option (Bs):=qt9 fu fu a b
abbrev vdi:=Bs->Bs->Option (Bs)
abbrev vdh:=Bs->Bs->Bool->Option (Bs)
abbrev vdg:=Bs->Bs->Option (Bs)
abbrev vdf:=Bs->Bs->Bool->Option (Bs)
def qtt:vdi:=fun c b=>(qbt fu b).bind fun a=>bif decide (a.1.length=List.length (List.replicate 256 false))&&decide (a.1.length=256) then bif a.2 then(qgb fu c a.1).bind fun d=>some d.1 else(qt8 fu c b).bind fun e=>some e else none
def qly:vdh:=fun c b a=>bif a then(am b 0).bind fun d=>(qt6 fu c d).bind fun e=>some e else qtt fu c b
def qts:vdg:=fun b a=>bif(a.length:Int)==1 then(am a 0).bind fun c=>qly fu b a (decide (c<128)) else qly fu b a false
def qlx:vdf:=fun b c a=>bif a then some b else qts fu b c
def qf4(a:Bs)(b:Bs):Option (Bs):=bif a==([]:Bs) then qlx fu a b true else qlx fu a b (b==([]:Bs))
def qk9(c:Bs)(a:Bs):Option Int:=(qf4 fu c ([32,9]:Bs)).bind fun b=>bif decide (List.length ([45,45]:Bs)+a.length<=bc) then bif b==(([45,45]:Bs)++a) then some 1 else bif decide (List.length ([45,45]:Bs)+a.length<=bc) then bif decide (List.length (([45,45]:Bs)++a)+List.length ([45,45]:Bs)<=bc) then bif b==((([45,45]:Bs)++a)++([45,45]:Bs)) then some 2 else some 0 else none else none else none
abbrev zg7:=(Bs×Bs×Int×(List Bs)×(List Bs)) ⊕ (Bs×Bs×Int×(List Bs))
def qbk(b:Int)(f:Bs)(c:Bs)(e:Bs)(a:Int)(h:List Bs)(d:List Bs):Option zg7:=(qk9 fu f e).bind fun g=>bif g==0 then some (.inl (c,(e,(a,(h,d))))) else bif decide (0<=a) then bif decide (0<=a/\a<=(if af (b-2)>a then af (b-2) else a)/\(if af (b-2)>a then af (b-2) else a)<=(c.length:Int)) then bif decide (List.length (d++([List.take ((if af (b-2)>a then af (b-2) else a).toNat-a.toNat) (List.drop a.toNat c)]:List Bs))<=ax) then bif g==2 then some (.inr (c,(e,(a,d++([List.take ((if af (b-2)>a then af (b-2) else a).toNat-a.toNat) (List.drop a.toNat c)]:List Bs))))) else some (.inl (c,(e,(if(c.length:Int)<af ((af (b+(f.length:Int)))+2) then(c.length:Int) else af ((af (b+(f.length:Int)))+2),(h,d++([List.take ((if af (b-2)>a then af (b-2) else a).toNat-a.toNat) (List.drop a.toNat c)]:List Bs)))))) else none else none else bif g==2 then some (.inr (c,(e,(a,d)))) else some (.inl (c,(e,(if(c.length:Int)<af ((af (b+(f.length:Int)))+2) then(c.length:Int) else af ((af (b+(f.length:Int)))+2),(h,d)))))
abbrev qu2:=(Bs×Bs×Bs×Int×(List Bs)) ⊕ (Bs×Bs×Bs×Int×(List Bs)×(List Bs))
abbrev q2g:=Int->Bs->Bs->Bs->Int->(List Bs)->(List Bs)->Option qu2
def qs1(k:q2g):q2g:=fun a b i j h c d=>bif decide (a<(b.length:Int)) then bif decide (0<=a/\a<=(b.length:Int)) then bif decide (0<List.length ([13,10]:Bs)) then(qd (List.drop a.toNat b) ([13,10]:Bs)).bind fun e=>bif decide (0<=e) then bif decide (0<=a/\a<=af (a+e)/\af (a+e)<=(b.length:Int)) then(qbk fu a (List.take ((af (a+e)).toNat-a.toNat) (List.drop a.toNat b)) i j h c d).bind fun m=>bh m (fun g=>k (af ((af (a+e))+2)) b g.1 g.2.1 g.2.2.1 g.2.2.2.1 g.2.2.2.2) (fun o=>some (.inl (b,o))) else none else bif decide (0<=a/\a<=(b.length:Int)/\(b.length:Int)<=(b.length:Int)) then(qbk fu a (List.take ((b.length:Int).toNat-a.toNat) (List.drop a.toNat b)) i j h c d).bind fun l=>bh l (fun f=>k (b.length:Int) b f.1 f.2.1 f.2.2.1 f.2.2.2.1 f.2.2.2.2) (fun p=>some (.inl (b,p))) else none else none else none else some (.inr (b,(i,(j,(h,(c,d))))))
def ya(fu:Nat):Nat->q2g|0=>fun _ _ _ _ _ _ _=>none|n+1=>qs1 fu (ya fu n)
def qs0(b:Bs)(f:Bs)(d:Bs)(e:Int)(a:List Bs)(c:List Bs):Option qu2:=ya fu fu 0 b f d e a c
def qk3(b:Bs)(f:Bs):Option ((List Bs)):=(qsz b).bind fun d=>(qs0 fu d b f (-1) [] []).bind fun e=>bh e (fun c=>some c.2.2.2.2) (fun a=>bif decide (0<=a.2.2.2.1) then bif decide (0<=a.2.2.2.1/\a.2.2.2.1<=(a.2.1.length:Int)) then bif decide (List.length (a.2.2.2.2.2++([List.drop a.2.2.2.1.toNat a.2.1]:List Bs))<=ax) then some (a.2.2.2.2.2++([List.drop a.2.2.2.1.toNat a.2.1]:List Bs)) else none else none else some a.2.2.2.2.2)
def xz(b:List (Bs×Bs))(e:Bs)(c:Int):Option ((List Bs)):=(qk1 fu b).bind fun a=>bif !a.2 then some [] else bif decide (8<=c) then some [] else(qk3 fu e a.1).bind fun d=>some d
def qbj(a:Bs×Bs):Option Bool:=(ei fu a.1 ([98,111,117,110,100,97,114,121]:Bs)).bind fun b=>some b
abbrev q2j:=wV->Int->Int->Option Int
def qta(f:q2j):q2j:=fun b c a=>bif decide (a<c) then(am b a).bind fun d=>(qbj fu d).bind fun e=>bif e then some a else f b c (af (a+1)) else some (-1)
def qbq(fu:Nat):Nat->q2j|0=>fun _ _ _=>none|n+1=>qta fu (qbq fu n)
def qll(a:List (Bs×Bs)):Option Int:=qbq fu fu a (a.length:Int) 0
abbrev q0a:=wV->Int->Int->Option (wV)
def q3d(f:q0a):q0a:=fun a b c=>bif decide (c<(a.length:Int)) then(am a c).bind fun d=>(qbj fu d).bind fun e=>bif !e then(am a b).bind fun g=>none else f a b (af (c+1)) else bif decide (0<=b/\b<=(a.length:Int)) then none else none
def qs6(fu:Nat):Nat->q0a|0=>fun _ _ _=>none|n+1=>q3d fu (qs6 fu n)
def q3c(a:List (Bs×Bs)):Option (wV):=(qll fu a).bind fun b=>bif b==(-1) then some a else qs6 fu fu a b (af (b+1))
def qe3(a:UInt8):Option Bool:=bif decide (32<=a) then some (decide (a<=126)) else some false
abbrev q0b:=Bs->Int->Int->Option Bool
def q2p(fu:Nat)(f:q0b):q0b:=fun b c a=>bif decide (a<c) then(am b a).bind fun d=>(qe3 d).bind fun e=>bif !e then some false else f b c (af (a+1)) else some true
def qef(fu:Nat):Nat->q0b|0=>fun _ _ _=>none|n+1=>q2p fu (qef fu n)
def qj7(a:Bs):Option Bool:=qef fu fu a (a.length:Int) 0
def qf2(a:List Bs):Option (Int×Int×Int×(List Bs)):=bif(Int.tmod (a.length:Int) 2)==1 then none else bif decide (a.length<=ax) then some (0,(0,(0,a))) else none
abbrev u6:=Int×Int×Int×Bs×(List Bs)
abbrev zvg:=Bool->Int->Int->Int->Int->(List Bs)->Option u6
abbrev q0e:=Int->Int->Int->Int->(List Bs)->Bs->Option u6
abbrev q0c:=Int->Int->Int->Int->(List Bs)->Bs->Option u6
abbrev q0d:=Int->Int->Int->Int->(List Bs)->(List Bs)->Option u6
abbrev qpu:=Bool->Int->Int->Int->Int->(List Bs)->Option u6
abbrev zvf:=Int->Int->Int->(List Bs)->Option u6
abbrev zve:=Bool->Int->Int->Int->(List Bs)->Option u6
def qtm(fu:Nat)(e:qpu):zvg:=fun g f c a b d=>e g (af (f+2)) c a b d
def q3j(fu:Nat)(i:q0e):q0e:=fun e d b c a f=>bif decide (0<=e) then bif decide (0<=e/\e.toNat<a.length) then(a[e.toNat]?).bind fun h=>(am h 0).bind fun g=>bif decide (0<=af (e+1)/\(af (e+1)).toNat<a.length) then(a[(af (e+1)).toNat]?).bind fun k=>(am k 0).bind fun j=>(f[g.toNat]?).bind fun l=>i (af (e-2)) d b c a (List.set f g.toNat j) else none else none else some (d,(b,(c,(f,a))))
def qtp(fu:Nat):Nat->q0e|0=>fun _ _ _ _ _ _=>none|n+1=>q3j fu (qtp fu n)
def q3h(g:q0c):q0c:=fun a d b c e f=>bif decide (a<256) then bif decide (0<=a)&&decide (a<256) then(f[a.toNat]?).bind fun h=>g (af (a+1)) d b c e (List.set f a.toNat (jy a)) else none else qtp fu fu (af ((e.length:Int)-2)) d b c e f
def qtn(fu:Nat):Nat->q0c|0=>fun _ _ _ _ _ _=>none|n+1=>q3h fu (qtn fu n)
def q3i(fu:Nat)(j:q0d):q0d:=fun a e c d b g=>bif decide (0<=a) then bif decide (0<=a/\a.toNat<b.length) then(b[a.toNat]?).bind fun f=>(am f 0).bind fun h=>bif decide (0<=af (a+1)/\(af (a+1)).toNat<b.length) then(b[(af (a+1)).toNat]?).bind fun i=>none else none else none else none
def qto(fu:Nat):Nat->q0d|0=>fun _ _ _ _ _ _=>none|n+1=>q3i fu (qto fu n)
def q3g(f:qpu):qpu:=fun g e d b c a=>bif decide (e<(a.length:Int)) then bif decide (0<=e/\e.toNat<a.length) then(a[e.toNat]?).bind fun h=>bif(h.length:Int) != 1 then none else bif decide (0<=af (e+1)/\(af (e+1)).toNat<a.length) then(a[(af (e+1)).toNat]?).bind fun i=>bif(i.length:Int) != 1 then qtm fu f false e d b c a else qtm fu f g e d b c a else none else none else bif g then bif decide (List.length (List.replicate 256 0)=List.length (List.replicate 256 0))&&decide (List.length (List.replicate 256 0)=256) then qtn fu fu 0 d b c a (List.replicate 256 0) else none else bif decide (0<=(0:Int)/\0=af (Int.tdiv (a.length:Int) 2)/\(0:Int)<=4294967296) then qto fu fu (af ((a.length:Int)-2)) d b c a (List.replicate (0:Int).toNat ([]:Bs)) else none
def qtl(fu:Nat):Nat->qpu|0=>fun _ _ _ _ _ _=>none|n+1=>q3g fu (qtl fu n)
def q3k:zvf:=fun c a b d=>qtl fu fu true 0 c a b d
def qtk:zve:=fun e d b c a=>bif e then bif decide (0<=(0:Int)/\(0:Int).toNat<a.length) then(a[(0:Int).toNat]?).bind fun f=>bif decide (0<=(1:Int)/\(1:Int).toNat<a.length) then(a[(1:Int).toNat]?).bind fun g=>none else none else none else q3k fu d b c a
def q3f(b:Int)(d:Int)(c:Int)(a:List Bs):Option u6:=bif(a.length:Int)==2 then bif decide (0<=(0:Int)/\(0:Int).toNat<a.length) then(a[(0:Int).toNat]?).bind fun e=>qtk fu (decide (1<(e.length:Int))) b d c a else none else qtk fu false b d c a
abbrev zhd:=Int×Int×Int×Bs×(List Bs)
def qlt(b:Int)(e:Int)(c:Int)(d:List Bs):Option zhd:=(q3f fu b e c d).bind fun a=>some (a.1,(a.2.1,(a.2.2.1,(a.2.2.2.1,[]))))
abbrev zvm:=Bs->Int->UInt8->Bs->Bs->Option (Bs×Bs)
abbrev qpv:=Bs->Int->Bs->Bs->Option (Bs×Bs)
abbrev q0f:=Bs->Int->Bs->Option (Bs×Bs)
def qf7(fu:Nat)(d:qpv):zvm:=fun f b g c a=>(c[g.toNat]?).bind fun e=>bif decide (0<=b/\b.toNat<a.length) then(a[b.toNat]?).bind fun h=>d f (af (b+1)) c (List.set a b.toNat e) else none
def qtx(f:qpv):qpv:=fun b d c a=>bif decide (d<(b.length:Int)) then(am b d).bind fun e=>(c[e.toNat]?).bind fun g=>bif g != e then bif decide (0<a.length) then qf7 fu f b d e c a else none else f b (af (d+1)) c a else bif decide (0<a.length) then some (a,c) else none
def qf8(fu:Nat):Nat->qpv|0=>fun _ _ _ _=>none|n+1=>qtx fu (qf8 fu n)
def qtw(f:q0f):q0f:=fun a c b=>bif decide (c<(a.length:Int)) then(am a c).bind fun d=>(b[d.toNat]?).bind fun e=>bif e != d then bif decide (a.length<=maxLen) then qf7 fu (qf8 fu fu) a c d b a else none else f a (af (c+1)) b else some (a,b)
def qf6(fu:Nat):Nat->q0f|0=>fun _ _ _=>none|n+1=>qtw fu (qf6 fu n)
def qf5(a:Bs)(b:Bs):Option (Bs×Bs):=qf6 fu fu a 0 b
def yf(fu:Nat)(s:Bs)(p0 p1 p2:Int)(on:List Bs):Option (Bs×Int×Int×Int×Bs):=
 bif decide (p0=0)&&decide (p1=0) then
 (qlt fu 0 1 p2 on).bind fun x=>
 bif decide (x.1=0)&&decide (x.2.1=1) then
 (qf5 fu s x.2.2.2.1).bind fun y=>
 some (y.1,1,0,x.2.2.1,y.2)
 else none else none
def yg(fu:Nat)(s:Bs)(p0 p1 p2:Int)(tab:Bs):Option (Bs×Int×Int×Int×Bs):=
 bif !decide (p0=0) then
 (qf5 fu s tab).bind fun y=>
 some (y.1,p0,p1,p2,y.2)
 else none
def e7(a:UInt8):Option UInt8:=(([48,49,50,51,52,53,54,55,56,57,65,66,67,68,69,70]:Bs)[(a&&&15).toNat]?).bind fun b=>some b
abbrev zvt:=Bs->Bs->Int->Int->(List Bs)->Option ((List Bs))
abbrev qpx:=Bs->Int->Int->(List Bs)->Option ((List Bs))
def qfa(fu:Nat)(g:qpx):zvt:=fun d b f c a=>bif decide (0<=af ((a.length:Int)-1)/\(af ((a.length:Int)-1)).toNat<a.length) then(a[(af ((a.length:Int)-1)).toNat]?).bind fun h=>bif decide ((af ((h.length:Int)+(b.length:Int)))<=60) then bif decide (0<=af ((a.length:Int)-1)/\(af ((a.length:Int)-1)).toNat<a.length) then(a[(af ((a.length:Int)-1)).toNat]?).bind fun e=>bif decide (e.length+b.length<=bc) then bif decide (0<=af ((a.length:Int)-1)/\(af ((a.length:Int)-1)).toNat<a.length) then(a[(af ((a.length:Int)-1)).toNat]?).bind fun i=>g d f (af (c+1)) (List.set a ((af ((a.length:Int)-1)).toNat) (e++b)) else none else none else none else bif decide (List.length (a++([b]:List Bs))<=ax) then g d f (af (c+1)) (a++([b]:List Bs)) else none else none
def qsh(e:qpx):qpx:=fun c d a b=>bif decide (a<d) then bif decide (0<=a/\a<=af (a+1)/\af (a+1)<=(c.length:Int)) then(am c a).bind fun h=>(ox h).bind fun i=>bif !i then(am c a).bind fun f=>(e7 (jj f (min (4:Int).toNat 8))).bind fun g=>(am c a).bind fun k=>(e7 k).bind fun j=>qfa fu e c ([37,g,j]:Bs) d a b else qfa fu e c (List.take ((af (a+1)).toNat-a.toNat) (List.drop a.toNat c)) d a b else none else some b
def qbf(fu:Nat):Nat->qpx|0=>fun _ _ _ _=>none|n+1=>qsh fu (qbf fu n)
def qkr(a:Bs):Option ((List Bs)):=qbf fu fu a (a.length:Int) 0 ([([117,116,102,56,39,39]:Bs)]:List Bs)
abbrev q0g:=Bs->Int->Int->(Bs×Bs)->(List Bs)->Option (Bs)
abbrev zv0:=(Bs×Bs)->Option (Bs)
abbrev zvz:=Bool->(Bs×Bs)->Option (Bs)
def qsa(fu:Nat)(h:q0g):q0g:=fun g e b a c=>bif decide (b<e) then bif decide (0<=b/\b.toNat<c.length) then(c[b.toNat]?).bind fun f=>bif decide (List.length ([59,32]:Bs)+a.1.length<=bc) then bif decide (List.length (([59,32]:Bs)++a.1)+List.length ([42]:Bs)<=bc) then(mh b).bind fun d=>bif decide (List.length ((([59,32]:Bs)++a.1)++([42]:Bs))+d.length<=bc) then bif decide (List.length (((([59,32]:Bs)++a.1)++([42]:Bs))++d)+List.length ([42,61]:Bs)<=bc) then bif decide (List.length ((((([59,32]:Bs)++a.1)++([42]:Bs))++d)++([42,61]:Bs))+f.length<=bc) then bif decide (g.length+List.length (((((([59,32]:Bs)++a.1)++([42]:Bs))++d)++([42,61]:Bs))++f)<=bc) then h (g++(((((([59,32]:Bs)++a.1)++([42]:Bs))++d)++([42,61]:Bs))++f)) e (af (b+1)) a c else none else none else none else none else none else none else none else some g
def qe4(fu:Nat):Nat->q0g|0=>fun _ _ _ _ _=>none|n+1=>qsa fu (qe4 fu n)
def qsb:zv0:=fun a=>(qkr fu a.2).bind fun b=>qe4 fu fu ([]:Bs) (b.length:Int) 0 a b
def qbb:zvz:=fun d a=>bif d then bif decide (List.length ([59,32]:Bs)+a.1.length<=bc) then bif decide (List.length (([59,32]:Bs)++a.1)+List.length ([61,34]:Bs)<=bc) then(qf2 ([([92]:Bs),([92,92]:Bs),([34]:Bs),([92,34]:Bs)]:List Bs)).bind fun b=>(uz a.2 b.1 b.2.1 b.2.2.1 b.2.2.2).bind fun c=>bif decide (List.length ((([59,32]:Bs)++a.1)++([61,34]:Bs))+c.length<=bc) then bif decide (List.length (((([59,32]:Bs)++a.1)++([61,34]:Bs))++c)+List.length ([34]:Bs)<=bc) then some ((((([59,32]:Bs)++a.1)++([61,34]:Bs))++c)++([34]:Bs)) else none else none else none else none else qsb fu a
def qko(a:Bs×Bs):Option (Bs):=(xw fu a.2).bind fun b=>bif b then bif decide (List.length ([59,32]:Bs)+a.1.length<=bc) then bif decide (List.length (([59,32]:Bs)++a.1)+List.length ([61]:Bs)<=bc) then bif decide (List.length ((([59,32]:Bs)++a.1)++([61]:Bs))+a.2.length<=bc) then some (((([59,32]:Bs)++a.1)++([61]:Bs))++a.2) else none else none else none else bif decide ((a.2.length:Int)<=60) then(qj7 fu a.2).bind fun c=>qbb fu c a else qbb fu false a
abbrev q0i:=Bs->wV->Int->Int->(Int×Int)->Option (Bs×(Int×Int))
def qr5(i:q0i):q0i:=fun d b c a e=>bif decide (a<c) then(am b a).bind fun g=>(qko fu g).bind fun f=>bif decide (d.length+f.length<=bc) then i (d++f) b c (af (a+1)) e else none else bif decide (4000<(d.length:Int)) then(bn 1 (-4)).bind fun j=>some (([]:Bs),j) else(ci).bind fun h=>some (d,h)
def qe0(fu:Nat):Nat->q0i|0=>fun _ _ _ _ _=>none|n+1=>qr5 fu (qe0 fu n)
def qa8(a:Bs×Bs×wV):Option (Bs×(Int×Int)):=(sm fu a).bind fun b=>(c7 b).bind fun c=>bif c then some (([]:Bs),b) else bif decide (a.1.length+List.length ([47]:Bs)<=bc) then bif decide (List.length (a.1++([47]:Bs))+a.2.1.length<=bc) then qe0 fu fu ((a.1++([47]:Bs))++a.2.1) a.2.2 (a.2.2.length:Int) 0 (0,0) else none else none
abbrev q0j:=Int->Int->wV->Option (wV)
def qs7(e:q0j):q0j:=fun b c a=>bif decide (c<(a.length:Int)) then bif decide (0<=c/\c.toNat<a.length) then(a[c.toNat]?).bind fun d=>(qbj fu d).bind fun f=>bif !f then bif decide (0<=b/\b.toNat<a.length) then(a[b.toNat]?).bind fun g=>e (af (b+1)) (af (c+1)) (List.set a b.toNat d) else none else e b (af (c+1)) a else none else bif decide (0<=b/\b.toNat<a.length) then bif decide (0<=b/\b<=(List.length (List.take b.toNat a++List.replicate (a.length-b.toNat) (([]:Bs),([]:Bs))):Int)) then some (List.take b.toNat (List.take b.toNat a++List.replicate (a.length-b.toNat) (([]:Bs),([]:Bs)))) else none else none
def qfu(fu:Nat):Nat->q0j|0=>fun _ _ _=>none|n+1=>qs7 fu (qfu fu n)
def qlk(a:List (Bs×Bs)):Option (wV):=(qll fu a).bind fun b=>bif b==(-1) then some a else qfu fu fu b (af (b+1)) a
abbrev zg6:=Bool×wV
def qfi(f:List (Bs×Bs)):Option zg6:=(qbh fu f).bind fun k=>bh k (fun c=>(q3c fu []).bind fun j=>(qa8 fu (c.1,(c.2.1,j))).bind fun i=>(c7 i.2).bind fun o=>bif o then some (false,[]) else(fa f).bind fun g=>bif decide (0<=c.2.2.1/\c.2.2.1.toNat<g.length) then(g[c.2.2.1.toNat]?).bind fun l=>some (true,List.set g c.2.2.1.toNat (l.1,i.1)) else none) (fun a=>(qlk fu a.2.2.2.2).bind fun m=>(qa8 fu (a.1,(a.2.1,m))).bind fun d=>(c7 d.2).bind fun e=>bif e then some (false,[]) else(fa f).bind fun b=>bif decide (0<=a.2.2.1/\a.2.2.1.toNat<b.length) then(b[a.2.2.1.toNat]?).bind fun h=>some (true,List.set b a.2.2.1.toNat (h.1,d.1)) else none)
def sk(a:Bs)(c:UInt8):Option Int:=(uo a c).bind fun b=>some b
def qeg(a:Bs)(b:Bs):Option Bool:=some (a==b)
def qa0(a:Bs)(b:Bs):Option Bool:=bif decide ((b.length:Int)<=(a.length:Int)) then bif decide (0<=af ((a.length:Int)-(b.length:Int))/\af ((a.length:Int)-(b.length:Int))<=(a.length:Int)) then(qeg (List.drop (af ((a.length:Int)-(b.length:Int))).toNat a) b).bind fun c=>some c else none else some false
def up(a:Bs)(b:Bs):Option (Bs):=(qa0 a b).bind fun c=>bif c then bif decide (0<=af ((a.length:Int)-(b.length:Int))/\af ((a.length:Int)-(b.length:Int))<=(a.length:Int)) then some (List.take (af ((a.length:Int)-(b.length:Int))).toNat a) else none else some a
def qkm(b:Bs):Option (Bs×Int):=(sk b 10).bind fun a=>bif decide (a<0) then some (b,(b.length:Int)) else bif decide (0<=a/\a<=(b.length:Int)) then bif decide (0<List.length ([13]:Bs)) then(up (List.take a.toNat b) ([13]:Bs)).bind fun c=>some (c,af (a+1)) else none else none
def qkn(a:Bs):Option Bool:=(qa3 fu a ([]:Bs)).bind fun b=>(c7 b.1).bind fun c=>some (!c)
def qkl(c:Bs):Option ((Bs×Bs)×Bool):=(ss c ([58]:Bs)).bind fun a=>(qf4 fu a.1 ([32,9]:Bs)).bind fun b=>bif a.2.2 then(qkn fu b).bind fun d=>some ((b,a.2.1),d) else some ((b,a.2.1),false)
abbrev zw7:=Bs->Bs->Option (Bs)
abbrev zw6:=Bs->Bs->Bool->Option (Bs)
abbrev zw5:=Bs->Bs->Option (Bs)
abbrev zw4:=Bs->Bs->Bool->Option (Bs)
def qtv:zw7:=fun c b=>(qbt fu b).bind fun a=>bif decide (a.1.length=List.length (List.replicate 256 false))&&decide (a.1.length=256) then bif a.2 then(qgb fu c a.1).bind fun d=>(qf9 fu d.1 d.2).bind fun g=>some g.1 else(qt8 fu c b).bind fun e=>(qt3 fu e b).bind fun f=>some f else none
def ql1:zw6:=fun c a b=>bif b then(am a 0).bind fun f=>(qt6 fu c f).bind fun g=>(am a 0).bind fun d=>(qt1 fu g d).bind fun e=>some e else qtv fu c a
def qtu:zw5:=fun b a=>bif(a.length:Int)==1 then(am a 0).bind fun c=>ql1 fu b a (decide (c<128)) else ql1 fu b a false
def ql0:zw4:=fun b c a=>bif a then some b else qtu fu b c
def qf3(a:Bs)(b:Bs):Option (Bs):=bif a==([]:Bs) then ql0 fu a b true else ql0 fu a b (b==([]:Bs))
abbrev yp:=Int×(Int×Int)×wV
abbrev q0p:=Int->Int->Int->(Int×Int)->wV->Int->Int->Int->Bs->Option yp
abbrev q0o:=Int->Int->(Int×Int)->Int->Int->Int->(List Bs)->wV->Option yp
abbrev zxf:=Int->(Int×Int)->wV->Option yp
abbrev zxh:=Bs->Int->Bs->Int->(Int×Int)->wV->Option yp
abbrev zxg:=Bs->Int->Bs->Int->Bool->(Int×Int)->wV->Option yp
abbrev qi1:=Bs->Int->(Int×Int)->wV->Option yp
def qr0(o:q0p):q0p:=fun j f a h b d e c i=>bif decide (a<f) then bif decide (0<=a/\a.toNat<b.length) then(b[a.toNat]?).bind fun l=>(yg fu l.2 d e c i).bind fun g=>(qf3 fu g.1 ([32,9]:Bs)).bind fun k=>bif decide (4000<(k.length:Int)) then(bn 1 a).bind fun p=>some (0,(p,[])) else bif decide (0<=a/\a.toNat<b.length) then(b[a.toNat]?).bind fun q=>o j f (af (a+1)) h (List.set b a.toNat (q.1,k)) g.2.1 g.2.2.1 g.2.2.2.1 g.2.2.2.2 else none else none else(ci).bind fun m=>some (j,(m,b))
def qet(fu:Nat):Nat->q0p|0=>fun _ _ _ _ _ _ _ _ _=>none|n+1=>qr0 fu (qet fu n)
def qes(p:q0o):q0o:=fun i e g d b c h a=>bif decide (0<e) then bif decide (0<=(0:Int)/\(0:Int).toNat<a.length) then(a[(0:Int).toNat]?).bind fun k=>(yf fu k.2 d b c h).bind fun f=>(qf3 fu f.1 ([32,9]:Bs)).bind fun j=>bif decide (4000<(j.length:Int)) then(bn 1 0).bind fun l=>some (0,(l,[])) else bif decide (0<=(0:Int)/\(0:Int).toNat<a.length) then(a[(0:Int).toNat]?).bind fun o=>qet fu fu i e 1 g (List.set a ((0:Int).toNat) (o.1,j)) f.2.1 f.2.2.1 f.2.2.2.1 f.2.2.2.2 else none else none else(ci).bind fun m=>some (i,(m,a))
def ur(fu:Nat):Nat->q0o|0=>fun _ _ _ _ _ _ _ _=>none|n+1=>qes fu (ur fu n)
def qa4:zxf:=fun e c a=>bif decide (60<(a.length:Int)) then(bn 2 (-2)).bind fun d=>some (0,(d,[])) else(qf2 ([([0]:Bs),([32]:Bs),([13]:Bs),([32]:Bs)]:List Bs)).bind fun b=>ur fu fu e (a.length:Int) c b.1 b.2.1 b.2.2.1 b.2.2.2 a
def qkk(g:qi1):zxh:=fun e d h f b a=>(qkl fu h).bind fun c=>bif !c.2 then qa4 fu d b a else bif decide (List.length (a++([c.1]:List (Bs×Bs)))<=ax) then g e (af (d+f)) b (a++([c.1]:List (Bs×Bs))) else none
def xq(h:qi1):zxg:=fun f i d g c b a=>bif c then bif decide (0<=af ((a.length:Int)-1)/\(af ((a.length:Int)-1)).toNat<a.length) then(a[(af ((a.length:Int)-1)).toNat]?).bind fun e=>bif decide (e.2.length+d.length<=bc) then bif decide (0<=af ((a.length:Int)-1)/\(af ((a.length:Int)-1)).toNat<a.length) then(a[(af ((a.length:Int)-1)).toNat]?).bind fun j=>h f (af (i+g)) b (List.set a ((af ((a.length:Int)-1)).toNat) (j.1,e.2++d)) else none else none else none else qkk fu h f i d g b a
def qrz(f:qi1):qi1:=fun e c b a=>bif decide (c<(e.length:Int)) then bif decide (0<=c/\c<=(e.length:Int)) then(qkm (List.drop c.toNat e)).bind fun d=>bif d.1==([]:Bs) then qa4 fu (af (c+d.2)) b a else(am d.1 0).bind fun g=>(lj g).bind fun h=>bif h then xq fu f e c d.1 d.2 (decide (0<(a.length:Int))) b a else xq fu f e c d.1 d.2 false b a else none else qa4 fu c b a
def xp(fu:Nat):Nat->qi1|0=>fun _ _ _ _=>none|n+1=>qrz fu (xp fu n)
def qkj(a:Bs):Option yp:=bif decide (12000<(a.length:Int)) then(bn 1 (-1)).bind fun b=>some (0,(b,[])) else xp fu fu a 0 (0,0) []
abbrev qgl:=wU×Bool×(Int×Int×Int)
abbrev qi2:=Bs->Int->(Int×Int×Int)->Option qgl
abbrev q35:=wU×Bool×(Int×Int×Int)
abbrev q0q:=Int->Int->Int->(Int×Int×Int)->(List Bs)->wV->(List wU)->Option q35
def qs2(b:qi2)(fu:Nat)(k:q0q):q0q:=fun i f a h d g e=>bif decide (a<f) then bif decide (0<=a/\a.toNat<d.length) then(d[a.toNat]?).bind fun j=>(b j (af (i+1)) h).bind fun c=>bif !c.2.1 then some ((Tree.node ([],[]) []),(false,c.2.2)) else bif decide (List.length (e++([(Tree.node c.1.val c.1.kids)]:List wU))<=ax) then k i f (af (a+1)) c.2.2 d g (e++([(Tree.node c.1.val c.1.kids)]:List wU)) else none else none else some ((Tree.node (g,[]) e),(true,h))
def yc(a:qi2)(fu:Nat):Nat->q0q|0=>fun _ _ _ _ _ _ _=>none|n+1=>qs2 a fu (yc a fu n)
def ux(a:qi2)(fu:Nat)(h:Bs)(e:Int)(b:Int×Int×Int)(c:List (Bs×Bs)):Option q35:=(fa c).bind fun g=>(fa h).bind fun i=>(xz fu c h e).bind fun d=>bif(d.length:Int)==0 then some ((Tree.node (g,i) []),(true,(af (b.1+1),b.2))) else(qfi fu c).bind fun f=>bif !f.1 then some ((Tree.node (g,i) []),(true,(af (b.1+1),b.2))) else yc a fu fu e (d.length:Int) 0 (af (b.1+1),b.2) d f.2 []
def qlb(a:qi2)(fu:Nat)(d:Bs)(f:Int)(c:Int×Int×Int):Option qgl:=(qkj fu d).bind fun b=>(c7 b.2.1).bind fun h=>bif h then(bn b.2.1.1 (-8)).bind fun i=>some ((Tree.node ([],[]) []),(false,(c.1,i))) else bif c.1==40 then(bn 2 (-7)).bind fun g=>some ((Tree.node ([],[]) []),(false,(c.1,g))) else bif decide (0<=b.1/\b.1<=(d.length:Int)) then(ux a fu (List.drop b.1.toNat d) f c b.2.2).bind fun e=>some ((Tree.node e.1.val e.1.kids),e.2) else none
def sn(fu:Nat):Nat->qi2|0=>fun _ _ _=>none|n+1=>qlb (sn fu n) fu
def zgv(a:Bs)(c:Int)(b:Int×Int×Int):Option qgl:=sn fu fu a c b
abbrev q34:=wU×Bool×(Int×Int×Int)
abbrev q0r:=Int->Int->Int->(Int×Int×Int)->(List Bs)->wV->(List wU)->Option q34
def q3b(j:q0r):q0r:=fun h e a g c f d=>bif decide (a<e) then bif decide (0<=a/\a.toNat<c.length) then(c[a.toNat]?).bind fun i=>(zgv fu i (af (h+1)) g).bind fun b=>bif !b.2.1 then some ((Tree.node ([],[]) []),(false,b.2.2)) else bif decide (List.length (d++([(Tree.node b.1.val b.1.kids)]:List wU))<=ax) then j h e (af (a+1)) b.2.2 c f (d++([(Tree.node b.1.val b.1.kids)]:List wU)) else none else none else some ((Tree.node (f,[]) d),(true,g))
def qfn(fu:Nat):Nat->q0r|0=>fun _ _ _ _ _ _ _=>none|n+1=>q3b fu (qfn fu n)
def qla(b:List (Bs×Bs))(d:Bs)(g:Int)(a:Int×Int×Int):Option q34:=(fa b).bind fun f=>(fa d).bind fun h=>(xz fu b d g).bind fun c=>bif(c.length:Int)==0 then some ((Tree.node (f,h) []),(true,(af (a.1+1),a.2))) else(qfi fu b).bind fun e=>bif !e.1 then some ((Tree.node (f,h) []),(true,(af (a.1+1),a.2))) else qfn fu fu g (c.length:Int) 0 (af (a.1+1),a.2) c e.2 []
abbrev zg8:=wU
def qbl(a:Tree (wV×Bs)):Option zg8:=some (Tree.node a.val a.kids)
abbrev q33:=((Int×Int)×Bool) ⊕ ((Int×Int)×Bool)
def qss(e:Int)(h:List (Bs×Bs))(f:Bs)(g:List wU)(c:Int)(b:Int×Int)(a:Bool):Option q33:=bif decide (40<=e) then(bn 2 (-1)).bind fun d=>some (.inl (d,a)) else bif a then some (.inr (b,true)) else some (.inr (b,decide (8<c)))
abbrev ql8:=(Int×(Int×Int)×Bool) ⊕ (Int×(Int×Int)×Bool)
abbrev qpz:=wU->Int->Int->(Int×Int)->Bool->Option ql8
abbrev q0s:=Int->(List wU)->Int->Int->Int->(Int×Int)->Bool->Option ql8
def qsv(a:qpz)(fu:Nat)(m:q0s):q0s:=fun h c d b i g j=>bif decide (b<d) then(am c b).bind fun f=>(a (Tree.node f.val f.kids) (af (h+1)) i g j).bind fun l=>bh l (fun k=>some (.inl k)) (fun e=>m h c d (af (b+1)) e.1 e.2.1 e.2.2) else some (.inr (i,(g,j)))
def qfk(a:qpz)(fu:Nat):Nat->q0s|0=>fun _ _ _ _ _ _ _=>none|n+1=>qsv a fu (qfk a fu n)
def qk5(a:qpz)(fu:Nat)(b:Tree (wV×Bs))(e:Int)(c:Int)(i:Int×Int)(f:Bool):Option ql8:=(qss c b.val.1 b.val.2 b.kids e i f).bind fun h=>bh h (fun g=>some (.inl (c,g))) (fun d=>qfk a fu fu e b.kids (b.kids.length:Int) 0 (af (c+1)) d.1 d.2)
def qbm(fu:Nat):Nat->qpz|0=>fun _ _ _ _ _=>none|n+1=>qk5 (qbm fu n) fu
def q28(b:Tree (wV×Bs))(e:Int)(c:Int)(d:Int×Int)(a:Bool):Option ql8:=qbm fu fu b e c d a
abbrev zg9:=(wU×(Int×Int)×Bool) ⊕ (wU×(Int×Int)×Bool)
def qk4(a:Tree (wV×Bs))(f:Int×Int)(d:Bool):Option zg9:=(q28 fu (Tree.node a.val a.kids) 0 0 f d).bind fun c=>bh c (fun b=>some (.inl ((Tree.node a.val a.kids),b.2))) (fun e=>some (.inr ((Tree.node a.val a.kids),e.2)))
abbrev zx5:=Int->wU->Bs->Bs->wV->Option Int
abbrev zx4:=Int->Bool->wU->Bs->Bs->wV->Option Int
def qs3:zx5:=fun g d b a c=>(qex fu (b,(a,c)) ([98,111,117,110,100,97,114,121]:Bs)).bind fun f=>(qa8 fu (b,(a,c))).bind fun e=>bif f.2.1 then some 5 else bif decide (60<=(c.length:Int)) then some 5 else(c7 e.2).bind fun h=>bif h then some 5 else(am d.val.1 g).bind fun i=>bif !(e.1==i.2) then some 5 else bif decide (2000<(e.1.length:Int)) then some 5 else some 0
def oy:zx4:=fun f d c b a e=>bif d then some 5 else qs3 fu f (Tree.node c.val c.kids) b a e
def qlc(a:Tree (wV×Bs)):Option Int:=(qbh fu a.val.1).bind fun e=>bh e (fun c=>bif decide (0<(a.val.2.length:Int)) then oy fu c.2.2.1 true (Tree.node a.val a.kids) c.1 c.2.1 [] else bif !c.2.2.2 then oy fu c.2.2.1 true (Tree.node a.val a.kids) c.1 c.2.1 [] else(ei fu c.1 ([109,117,108,116,105,112,97,114,116]:Bs)).bind fun d=>oy fu c.2.2.1 (!d) (Tree.node a.val a.kids) c.1 c.2.1 []) (fun b=>bif decide (0<(a.val.2.length:Int)) then oy fu b.2.2.1 true (Tree.node a.val a.kids) b.1 b.2.1 b.2.2.2.2 else bif !b.2.2.2.1 then oy fu b.2.2.1 true (Tree.node a.val a.kids) b.1 b.2.1 b.2.2.2.2 else(ei fu b.1 ([109,117,108,116,105,112,97,114,116]:Bs)).bind fun f=>oy fu b.2.2.1 (!f) (Tree.node a.val a.kids) b.1 b.2.1 b.2.2.2.2)
def qk2(a:wU×Int):Option Int:=(qa5 fu a.1.val.1).bind fun c=>(c7 c).bind fun d=>bif d then some c.1 else bif decide (0<(a.1.kids.length:Int)) then(qlc fu (Tree.node a.1.val a.1.kids)).bind fun f=>some f else bif decide (12000<(a.1.val.2.length:Int)) then some 1 else(qax fu a.1.val.2).bind fun b=>bif b != 0 then some b else(xz fu a.1.val.1 a.1.val.2 a.2).bind fun e=>bif decide (0<(e.length:Int)) then some 5 else some 0
def qst(c:Int)(h:List (Bs×Bs))(e:Bs)(g:List wU)(b:Int)(d:Int×Int):Option (((Int×Int)) ⊕ ((Int×Int))):=(qk2 fu ((Tree.node (h,e) g),b)).bind fun a=>bif a != 0 then(bn a c).bind fun f=>some (.inl f) else some (.inr d)
abbrev ql9:=(Int×(Int×Int)) ⊕ (Int×(Int×Int))
abbrev qp0:=wU->Int->Int->(Int×Int)->Option ql9
abbrev q0v:=Int->(List wU)->Int->Int->Int->(Int×Int)->Option ql9
def qsw(b:qp0)(fu:Nat)(l:q0v):q0v:=fun g c d a h f=>bif decide (a<d) then(am c a).bind fun e=>(b (Tree.node e.val e.kids) (af (g+1)) h f).bind fun k=>bh k (fun j=>some (.inl j)) (fun i=>l g c d (af (a+1)) i.1 i.2) else some (.inr (h,f))
def qfl(a:qp0)(fu:Nat):Nat->q0v|0=>fun _ _ _ _ _ _=>none|n+1=>qsw a fu (qfl a fu n)
def qk6(a:qp0)(fu:Nat)(b:Tree (wV×Bs))(d:Int)(c:Int)(h:Int×Int):Option ql9:=(qst fu c b.val.1 b.val.2 b.kids d h).bind fun f=>bh f (fun e=>some (.inl (c,e))) (fun g=>qfl a fu fu d b.kids (b.kids.length:Int) 0 (af (c+1)) g)
def qbn(fu:Nat):Nat->qp0|0=>fun _ _ _ _=>none|n+1=>qk6 (qbn fu n) fu
def q29(a:Tree (wV×Bs))(d:Int)(c:Int)(b:Int×Int):Option ql9:=qbn fu fu a d c b
abbrev zha:=(wU×(Int×Int)) ⊕ (wU×(Int×Int))
def qk8(a:Tree (wV×Bs))(e:Int×Int):Option zha:=(q29 fu (Tree.node a.val a.kids) 0 0 e).bind fun c=>bh c (fun b=>some (.inl ((Tree.node a.val a.kids),b.2))) (fun d=>some (.inr ((Tree.node a.val a.kids),d.2)))
def qk0(a:Tree (wV×Bs)):Option ((Int×Int)):=(qbl (Tree.node a.val a.kids)).bind fun c=>(qk4 fu (Tree.node c.val c.kids) (0,0) false).bind fun g=>bh g (fun f=>some f.2.1) (fun d=>bif d.2.2 then(bn 2 (-2)).bind fun i=>some i else(qbl (Tree.node a.val a.kids)).bind fun e=>(qk8 fu (Tree.node e.val e.kids) d.2.1).bind fun h=>bh h (fun j=>some j.2) (fun k=>(ci).bind fun b=>some b))
abbrev zg5:=wU×(Int×Int)
def qky(b:wV×Bs):Option zg5:=(qkw fu b).bind fun d=>(c7 d).bind fun e=>bif e then some ((Tree.node ([],[]) []),d) else(qla fu b.1 b.2 0 (0,(0,0))).bind fun a=>bif !a.2.1 then some ((Tree.node ([],[]) []),a.2.2.2) else(qk0 fu (Tree.node a.1.val a.1.kids)).bind fun c=>(c7 c).bind fun h=>bif h then(bn c.1 (-9)).bind fun f=>some ((Tree.node ([],[]) []),f) else(ci).bind fun g=>some ((Tree.node a.1.val a.1.kids),g)
abbrev zg3:=wU
def qsp(a:Tree (wV×Bs)):Option zg3:=some (Tree.node a.val a.kids)
def ql3(a:Bs)(b:UInt8):Option (Bs×UInt8):=some (a,b)
abbrev zhe:=(Bs×Bool×UInt8) ⊕ ((Bs×Bool) ⊕ ((Bs×Bool) ⊕ (Bs×Bool)))
def ql2(a:Bs):Option zhe:=(ql3 ([55,98,105,116]:Bs) 127).bind fun b=>(ql3 ([56,98,105,116]:Bs) 255).bind fun c=>(ei fu b.1 a).bind fun g=>bif g then some (.inl (b.1,(true,b.2))) else(ei fu c.1 a).bind fun d=>bif d then some (.inl (c.1,(true,c.2))) else(ei fu ([98,97,115,101,54,52]:Bs) a).bind fun f=>bif f then some (.inr (.inl (([98,97,115,101,54,52]:Bs),true))) else(ei fu ([113,117,111,116,101,100,45,112,114,105,110,116,97,98,108,101]:Bs) a).bind fun e=>bif e then some (.inr (.inr (.inl (([113,117,111,116,101,100,45,112,114,105,110,116,97,98,108,101]:Bs),true)))) else some (.inr (.inr (.inr (([]:Bs),false))))
abbrev zhf:=(Bs×(Int×Int)×UInt8) ⊕ ((Bs×(Int×Int)) ⊕ ((Bs×(Int×Int)) ⊕ (Bs×(Int×Int))))
def qgg(d:Bs)(t:Bs):Option zhf:=(ql2 fu t).bind fun r=>bh r (fun a=>bif !a.2.1 then(bn 18 (-3)).bind fun q=>some (.inl (a.1,(q,a.2.2))) else bif decide (12000<(d.length:Int)) then(bn 1 (-1)).bind fun u=>some (.inl (a.1,(u,a.2.2))) else(ci).bind fun h=>some (.inl (a.1,(h,a.2.2)))) (fun v=>bh v (fun c=>bif !c.2 then(bn 18 (-3)).bind fun g=>some (.inr (.inl (c.1,g))) else bif decide (12000<(d.length:Int)) then(bn 1 (-1)).bind fun p=>some (.inr (.inl (c.1,p))) else(ci).bind fun i=>some (.inr (.inl (c.1,i)))) (fun s=>bh s (fun b=>bif !b.2 then(bn 18 (-3)).bind fun f=>some (.inr (.inr (.inl (b.1,f)))) else bif decide (12000<(d.length:Int)) then(bn 1 (-1)).bind fun o=>some (.inr (.inr (.inl (b.1,o)))) else(ci).bind fun j=>some (.inr (.inr (.inl (b.1,j))))) (fun e=>bif !e.2 then(bn 18 (-3)).bind fun m=>some (.inr (.inr (.inr (e.1,m)))) else bif decide (12000<(d.length:Int)) then(bn 1 (-1)).bind fun l=>some (.inr (.inr (.inr (e.1,l)))) else(ci).bind fun k=>some (.inr (.inr (.inr (e.1,k)))))))
def qgf(a:Bs):Option ((Int×Int)×Bs):=bif decide (a.length<=ax) then(ci).bind fun b=>some (b,a) else none
abbrev q0w:=Int->Int->Bs->Int->Int->(Int×Int)->Bs->Option ((Int×Int)×Bs)
def qj4(fu:Nat)(i:q0w):q0w:=fun g d c e b f a=>bif decide (b<e) then(am c b).bind fun j=>bif j==61 then(ci).bind fun k=>some (k,a) else bif decide (0<List.length ([65,66,67,68,69,70,71,72,73,74,75,76,77,78,79,80,81,82,83,84,85,86,87,88,89,90,97,98,99,100,101,102,103,104,105,106,107,108,109,110,111,112,113,114,115,116,117,118,119,120,121,122,48,49,50,51,52,53,54,55,56,57,43,47]:Bs)) then(sk ([65,66,67,68,69,70,71,72,73,74,75,76,77,78,79,80,81,82,83,84,85,86,87,88,89,90,97,98,99,100,101,102,103,104,105,106,107,108,109,110,111,112,113,114,115,116,117,118,119,120,121,122,48,49,50,51,52,53,54,55,56,57,43,47]:Bs) j).bind fun h=>bif decide (h<0) then i g d c e (af (b+1)) f a else bif decide (8<=(af (d+6))) then bif decide (0<=af ((af (d+6))-8)) then bif decide (List.length (a++([jy (Int.fdiv (af (((BitVec.ofInt 64 (af (g*2 ^ min (6:Int).toNat 64))|||BitVec.ofInt 64 h).toNat:Int))) (2 ^ min (af ((af (d+6))-8)).toNat 64))]:Bs))<=ax) then bif decide (0<=af ((af (d+6))-8)) then i (af (((BitVec.ofInt 64 (af (((BitVec.ofInt 64 (af (g*2 ^ min (6:Int).toNat 64))|||BitVec.ofInt 64 h).toNat:Int)))&&&BitVec.ofInt 64 (af ((af (1*2 ^ min (af ((af (d+6))-8)).toNat 64))-1))).toNat:Int))) (af ((af (d+6))-8)) c e (af (b+1)) f (a++([jy (Int.fdiv (af (((BitVec.ofInt 64 (af (g*2 ^ min (6:Int).toNat 64))|||BitVec.ofInt 64 h).toNat:Int))) (2 ^ min (af ((af (d+6))-8)).toNat 64))]:Bs)) else none else none else none else i (af (((BitVec.ofInt 64 (af (g*2 ^ min (6:Int).toNat 64))|||BitVec.ofInt 64 h).toNat:Int))) (af (d+6)) c e (af (b+1)) f a else none else(ci).bind fun l=>some (l,a)
def xh(fu:Nat):Nat->q0w|0=>fun _ _ _ _ _ _ _=>none|n+1=>qj4 fu (xh fu n)
def qj3(a:Bs):Option ((Int×Int)×Bs):=bif decide (24000<(a.length:Int)) then(bn 1 (-1)).bind fun b=>some (b,[]) else xh fu fu 0 0 a (a.length:Int) 0 (0,0) []
abbrev q0x:=Bs->UInt8->Option (Bs)
def q2u(fu:Nat)(d:q0x):q0x:=fun a b=>bif decide (0<(a.length:Int)) then(am a (af ((a.length:Int)-1))).bind fun c=>bif c==b then bif decide (0<=af ((a.length:Int)-1)/\af ((a.length:Int)-1)<=(a.length:Int)) then d (List.take (af ((a.length:Int)-1)).toNat a) b else none else some a else some a
def qrp(fu:Nat):Nat->q0x|0=>fun _ _=>none|n+1=>q2u fu (qrp fu n)
def q2t(a:Bs)(b:UInt8):Option (Bs):=qrp fu fu a b
abbrev q0y:=Bs->Int->(List Bool)->Option ((List Bool)×Bool)
def q2r(fu:Nat)(e:q0y):q0y:=fun b c a=>bif decide (c<(b.length:Int)) then(am b c).bind fun d=>bif decide (128<=d) then bif decide (a.length=256) then bif decide (a.length=a.length)&&decide (a.length=256) then bif decide (a.length=256)&&(true&&true) then some (a,false) else none else none else none else(a[d.toNat]?).bind fun f=>e b (af (c+1)) (List.set a d.toNat true) else bif decide (a.length=256) then bif decide (a.length=a.length)&&decide (a.length=256) then bif decide (a.length=256)&&(true&&true) then some (a,true) else none else none else none
def qri(fu:Nat):Nat->q0y|0=>fun _ _ _=>none|n+1=>q2r fu (qri fu n)
def qrh(a:Bs):Option ((List Bool)×Bool):=qri fu fu a 0 (List.replicate 256 false)
def qkb(b:UInt8)(a:List Bool):Option (Bool×(List Bool)):=(a[b.toNat]?).bind fun c=>some (c,a)
abbrev q0z:=Bs->(List Bool)->Option (Bs×(List Bool))
def qro(fu:Nat)(e:q0z):q0z:=fun a c=>bif decide (0<(a.length:Int)) then(am a (af ((a.length:Int)-1))).bind fun d=>(qkb d c).bind fun b=>bif !b.1 then some (a,b.2) else bif decide (0<=af ((a.length:Int)-1)/\af ((a.length:Int)-1)<=(a.length:Int)) then e (List.take (af ((a.length:Int)-1)).toNat a) b.2 else none else some (a,c)
def qei(fu:Nat):Nat->q0z|0=>fun _ _=>none|n+1=>qro fu (qei fu n)
def qrn(a:Bs)(b:List Bool):Option (Bs×(List Bool)):=qei fu fu a b
abbrev zzp:=Bs->Int->Int->Option (Int×Int)
abbrev zzo:=Bs->Int->Int->Option (Int×Int)
abbrev q00:=Bs->Int->Int->Int->Option (Int×Int)
def qui:zzp:=fun d b a=>bif decide (0<=a/\a<=b/\b<=(d.length:Int)) then(quj fu (List.take (b.toNat-a.toNat) (List.drop a.toNat d))).bind fun c=>bif(af (a+c.2)) != b then some (65533,1) else some c else none
def quh:zzo:=fun a b c=>bif decide (c<0) then qui fu a b 0 else qui fu a b c
def q3u(g:q00):q00:=fun b c a d=>bif decide (d<=a) then(am b a).bind fun e=>(qum e).bind fun f=>bif f then quh fu b c a else g b c (af (a-1)) d else quh fu b c a
def qug(fu:Nat):Nat->q00|0=>fun _ _ _ _=>none|n+1=>q3u fu (qug fu n)
def q3r(a:Bs):Option (Int×Int):=bif(a.length:Int)==0 then some (65533,0) else(am a (af ((a.length:Int)-1))).bind fun b=>bif decide ((b.toNat:Int)<128) then some ((b.toNat:Int),1) else qug fu fu a (a.length:Int) (af ((af ((a.length:Int)-1))-1)) (if 0>af ((a.length:Int)-4) then 0 else af ((a.length:Int)-4))
abbrev q01:=Int->Bs->Nat->Option Bool
def q2q(fu:Nat)(d:q01):q01:=fun c b a=>bif Nat.blt a (b.length) then bif(((d9 b a).1:Nat):Int)==c then some true else d c b (a+(d9 b a).2) else some false
def qrg(fu:Nat):Nat->q01|0=>fun _ _ _=>none|n+1=>q2q fu (qrg fu n)
def qrf(a:Bs)(b:Int):Option Bool:=qrg fu fu b a 0
abbrev q02:=Bs->Bs->Option (Bs)
def q2w(e:q02):q02:=fun a b=>bif decide (0<(a.length:Int)) then(am a (af ((a.length:Int)-1))).bind fun d=>bif decide (128<=(d.toNat:Int)) then(q3r fu a).bind fun c=>(qrf fu b c.1).bind fun g=>bif !g then some a else bif decide (0<=af ((a.length:Int)-c.2)/\af ((a.length:Int)-c.2)<=(a.length:Int)) then e (List.take (af ((a.length:Int)-c.2)).toNat a) b else none else(qrf fu b (d.toNat:Int)).bind fun f=>bif !f then some a else bif decide (0<=af ((a.length:Int)-1)/\af ((a.length:Int)-1)<=(a.length:Int)) then e (List.take (af ((a.length:Int)-1)).toNat a) b else none else some a
def qrq(fu:Nat):Nat->q02|0=>fun _ _=>none|n+1=>q2w fu (qrq fu n)
def q2v(a:Bs)(b:Bs):Option (Bs):=qrq fu fu a b
abbrev zz5:=Bs->Bs->Option (Bs)
abbrev zz4:=Bs->Bs->Bool->Option (Bs)
abbrev zz3:=Bs->Bs->Option (Bs)
abbrev zz2:=Bs->Bs->Bool->Option (Bs)
def qre:zz5:=fun c b=>(qrh fu b).bind fun a=>bif decide (a.1.length=List.length (List.replicate 256 false))&&decide (a.1.length=256) then bif a.2 then(qrn fu c a.1).bind fun d=>some d.1 else(q2v fu c b).bind fun e=>some e else none
def qka:zz4:=fun c b a=>bif a then(am b 0).bind fun d=>(q2t fu c d).bind fun e=>some e else qre fu c b
def qrd:zz3:=fun b a=>bif(a.length:Int)==1 then(am a 0).bind fun c=>qka fu b a (decide (c<128)) else qka fu b a false
def qj9:zz2:=fun b c a=>bif a then some b else qrd fu b c
def qj8(a:Bs)(b:Bs):Option (Bs):=bif(a.length:Int)==0 then qj9 fu a b true else qj9 fu a b (b==([]:Bs))
abbrev q03:=Bs->Int->Bs->Option (Bs)
def qlg(fu:Nat)(e:q03):q03:=fun c a b=>bif decide (a<(c.length:Int)) then(am c a).bind fun h=>bif h==61 then bif decide (0<=af (a+1)/\af (a+1)<=(if(c.length:Int)<af (a+3) then(c.length:Int) else af (a+3))/\(if(c.length:Int)<af (a+3) then(c.length:Int) else af (a+3))<=(c.length:Int)) then(sj (List.take ((if(c.length:Int)<af (a+3) then(c.length:Int) else af (a+3)).toNat-(af (a+1)).toNat) (List.drop (af (a+1)).toNat c))).bind fun d=>bif d.2 then bif decide (List.length (b++([d.1]:Bs))<=ax) then e c (af ((af (a+2))+1)) (b++([d.1]:Bs)) else none else(am c a).bind fun f=>bif decide (List.length (b++([f]:Bs))<=ax) then e c (af (a+1)) (b++([f]:Bs)) else none else none else(am c a).bind fun g=>bif decide (List.length (b++([g]:Bs))<=ax) then e c (af (a+1)) (b++([g]:Bs)) else none else some b
def ye(fu:Nat):Nat->q03|0=>fun _ _ _=>none|n+1=>qlg fu (ye fu n)
def qs5(a:Bs):Option (Bs):=ye fu fu a 0 []
abbrev z0j:=Bs->Int->Bs->Bs->(Int×Int)->Bs->Option ((Int×Int)×Bs)
abbrev z0i:=Bs->Int->Bs->(Int×Int)->Bs->Option ((Int×Int)×Bs)
abbrev z0h:=Bs->Int->(Int×Int)->Bs->Option ((Int×Int)×Bs)
abbrev qdo:=Bs->(Int×Int)->Bs->Option ((Int×Int)×Bs)
def qft(g:qdo):z0j:=fun e c h f b a=>(qs5 fu h).bind fun d=>bif decide (List.length (a++d)<=ax) then bif decide (List.length ((a++d)++f)<=ax) then bif decide (0<=c/\c<=(e.length:Int)) then g (List.drop c.toNat e) b ((a++d)++f) else none else none else none
def qfs(g:qdo):z0i:=fun f d e b c=>bif decide (0<=(e.length:Int)/\(e.length:Int)<=d/\d<=(f.length:Int)) then(qj8 fu e ([32,9]:Bs)).bind fun a=>bif decide (0<List.length ([61]:Bs)) then(qa0 a ([61]:Bs)).bind fun h=>bif h then bif decide (0<=af ((a.length:Int)-1)/\af ((a.length:Int)-1)<=(a.length:Int)) then qft fu g f d (List.take (af ((a.length:Int)-1)).toNat a) [] b c else none else qft fu g f d a (List.take (d.toNat-(e.length:Int).toNat) (List.drop (e.length:Int).toNat f)) b c else none else none
def yd(f:qdo):z0h:=fun d a b c=>bif decide (0<=a/\a<=(d.length:Int)) then bif decide (0<List.length ([10]:Bs)) then(up (List.take a.toNat d) ([10]:Bs)).bind fun e=>bif decide ((e.length:Int)<a) then bif decide (0<List.length ([13]:Bs)) then(up e ([13]:Bs)).bind fun g=>qfs fu f d a g b c else none else qfs fu f d a e b c else none else none
def qs4(e:qdo):qdo:=fun c b a=>bif decide (0<(c.length:Int)) then(sk c 10).bind fun d=>bif(af (d+1))==0 then yd fu e c (c.length:Int) b a else yd fu e c (af (d+1)) b a else(ci).bind fun f=>some (f,a)
def qfr(fu:Nat):Nat->qdo|0=>fun _ _ _=>none|n+1=>qs4 fu (qfr fu n)
def qlf(a:Bs):Option ((Int×Int)×Bs):=bif decide (48000<(a.length:Int)) then(bn 1 (-1)).bind fun b=>some (b,[]) else qfr fu fu a (0,0) []
def qgd(a:Bs)(q:Bs):Option ((Int×Int)×Bs):=(qgg fu a q).bind fun l=>bh l (fun h=>(c7 h.2.1).bind fun k=>bif k then some (h.2.1,[]) else(qgf a).bind fun o=>some o) (fun p=>bh p (fun i=>(c7 i.2).bind fun d=>bif d then some (i.2,[]) else(qj3 fu a).bind fun c=>some c) (fun m=>bh m (fun g=>(c7 g.2).bind fun f=>bif f then some (g.2,[]) else(qlf fu a).bind fun e=>some e) (fun j=>(c7 j.2).bind fun b=>bif b then some (j.2,[]) else none)))
abbrev q04:=wV->Int->Int->wU->Option (Bs)
def quw(g:q04):q04:=fun d c b a=>bif decide (b<c) then(am d b).bind fun e=>(ei fu e.1 ([67,111,110,116,101,110,116,45,84,114,97,110,115,102,101,114,45,69,110,99,111,100,105,110,103]:Bs)).bind fun i=>bif !i then g d c (af (b+1)) (Tree.node a.val a.kids) else(qgd fu a.val.2 e.2).bind fun f=>bif f.1.1 != 18 then some f.2 else g d c (af (b+1)) (Tree.node a.val a.kids) else(qgd fu a.val.2 ([55,98,105,116]:Bs)).bind fun h=>some h.2
def qgh(fu:Nat):Nat->q04|0=>fun _ _ _ _=>none|n+1=>quw fu (qgh fu n)
def ql6(a:Tree (wV×Bs)):Option (Bs):=qgh fu fu a.val.1 (a.val.1.length:Int) 0 (Tree.node a.val a.kids)
abbrev z0x:=wV->Int->Int->wU->Bs->Bs->Option (Bs)
abbrev z0v:=wV->Int->Int->Bool->wU->(Bs×Bs)->Bs->Bs->Option (Bs)
abbrev z0w:=wU->Bs->Bs->Bs->Option (Bs)
abbrev qi5:=wV->Int->Int->wU->Bs->Bs->Option (Bs)
def qek(fu:Nat)(g:qi5):z0x:=fun c d f a b e=>g c d (af (f+1)) (Tree.node a.val a.kids) e b
def xm(j:qi5):z0v:=fun c d f h a g e b=>bif h then(qem fu g).bind fun i=>bif decide (List.length (b++i)<=ax) then qek fu j c d f (Tree.node a.val a.kids) (b++i) e else none else qek fu j c d f (Tree.node a.val a.kids) b e
def qej(fu:Nat):z0w:=fun g e c b=>(mh (g.kids.length:Int)).bind fun a=>bif decide (a.length+List.length ([32]:Bs)<=bc) then(mh (b.length:Int)).bind fun d=>bif decide (List.length (a++([32]:Bs))+d.length<=bc) then bif decide (List.length ((a++([32]:Bs))++d)+List.length ([32]:Bs)<=bc) then(mh (e.length:Int)).bind fun f=>bif decide (List.length (((a++([32]:Bs))++d)++([32]:Bs))+f.length<=bc) then bif decide (List.length ((((a++([32]:Bs))++d)++([32]:Bs))++f)+List.length ([13,10]:Bs)<=bc) then bif decide (List.length (c++(((((a++([32]:Bs))++d)++([32]:Bs))++f)++([13,10]:Bs)))<=ax) then bif decide (List.length ((c++(((((a++([32]:Bs))++d)++([32]:Bs))++f)++([13,10]:Bs)))++b)<=ax) then bif decide (List.length (((c++(((((a++([32]:Bs))++d)++([32]:Bs))++f)++([13,10]:Bs)))++b)++e)<=ax) then some (((c++(((((a++([32]:Bs))++d)++([32]:Bs))++f)++([13,10]:Bs)))++b)++e) else none else none else none else none else none else none else none else none
def qru(h:qi5):qi5:=fun e f d a b c=>bif decide (d<f) then(am e d).bind fun g=>(ei fu g.1 ([82,101,99,101,105,118,101,100]:Bs)).bind fun k=>bif !k then(ei fu g.1 ([67,111,110,116,101,110,116,45,84,114,97,110,115,102,101,114,45,69,110,99,111,100,105,110,103]:Bs)).bind fun j=>xm fu h e f d (!j) (Tree.node a.val a.kids) g b c else xm fu h e f d false (Tree.node a.val a.kids) g b c else bif(a.kids.length:Int)==0 then(ql6 fu (Tree.node a.val a.kids)).bind fun i=>(qel fu i).bind fun l=>qej fu (Tree.node a.val a.kids) l b c else qej fu (Tree.node a.val a.kids) [] b c
def uq(fu:Nat):Nat->qi5|0=>fun _ _ _ _ _ _=>none|n+1=>qru fu (uq fu n)
def qkc(e:Int)(a:List (Bs×Bs))(c:Bs)(d:List wU)(b:Bs):Option (Bs):=uq fu fu a (a.length:Int) 0 (Tree.node (a,c) d) b []
def qsr(b:Int)(f:List (Bs×Bs))(d:Bs)(e:List wU)(g:Int)(c:Bs):Option (Bs):=(qkc fu b f d e c).bind fun a=>some a
abbrev qp3:=wU->Int->Int->Bs->Option (Int×Bs)
abbrev q05:=Int->(List wU)->Int->Int->Int->Bs->Option (Int×Bs)
def qsx(b:qp3)(fu:Nat)(j:q05):q05:=fun g d e a h c=>bif decide (a<e) then(am d a).bind fun f=>(b (Tree.node f.val f.kids) (af (g+1)) h c).bind fun i=>j g d e (af (a+1)) i.1 i.2 else some (h,c)
def qfm(a:qp3)(fu:Nat):Nat->q05|0=>fun _ _ _ _ _ _=>none|n+1=>qsx a fu (qfm a fu n)
def qk7(a:qp3)(fu:Nat)(b:Tree (wV×Bs))(d:Int)(c:Int)(f:Bs):Option (Int×Bs):=(qsr fu c b.val.1 b.val.2 b.kids d f).bind fun e=>qfm a fu fu d b.kids (b.kids.length:Int) 0 (af (c+1)) e
def qbo(fu:Nat):Nat->qp3|0=>fun _ _ _ _=>none|n+1=>qk7 (qbo fu n) fu
def q3a(a:Tree (wV×Bs))(d:Int)(c:Int)(b:Bs):Option (Int×Bs):=qbo fu fu a d c b
abbrev zhb:=wU×Bs
def qsy(a:Tree (wV×Bs))(c:Bs):Option zhb:=(q3a fu (Tree.node a.val a.kids) 0 0 c).bind fun b=>some ((Tree.node a.val a.kids),b.2)
abbrev zg4:=wU×Bs
def qsq(a:Tree (wV×Bs))(d:Bs):Option zg4:=(qbl (Tree.node a.val a.kids)).bind fun b=>(qsy fu (Tree.node b.val b.kids) d).bind fun c=>some ((Tree.node a.val a.kids),c.2)
def xl(d:wV×Bs):Option ((Int×Int)×Bs):=(qky fu d).bind fun a=>(c7 a.2).bind fun e=>bif e then some (a.2,[]) else(qsp (Tree.node a.1.val a.1.kids)).bind fun b=>(qsq fu (Tree.node b.val b.kids) []).bind fun c=>(ci).bind fun f=>some (f,c.2)
def qj1:Option Bool:=(q2y fu ([(([65]:Bs),([98,32,32,99]:Bs))]:List (Bs×Bs)) ([([97]:Bs)]:List Bs)).bind fun a=>bif decide (0<List.length ([97,32,13,10,13,10]:Bs)) then(q2x fu ([97,32,13,10,13,10]:Bs)).bind fun b=>(xl fu ([],[])).bind fun c=>bif a.1.1==0 then bif b.1.1==0 then bif c.1.1==0 then bif a.2==([97,58,98,32,99,13,10]:Bs) then bif b.2==([97,13,10]:Bs) then some (c.2==([48,32,48,32,48,13,10]:Bs)) else some false else some false else some false else some false else some false else none
def ul(a:Int)(c:Int)(b:Int):Option Bool:=bif decide (c<=a) then some (decide (a<=b)) else some false
def qa1(e:wV×Bs)(c:wV×Bs):Option (Bool×(Int×Int)):=(xl fu e).bind fun a=>(c7 a.1).bind fun f=>bif f then some (false,a.1) else(xl fu c).bind fun b=>(c7 b.1).bind fun d=>bif d then(bn b.1.1 (-10)).bind fun i=>some (false,i) else(qeg a.2 b.2).bind fun g=>(ci).bind fun h=>some (g,h)
def r8(a:Int)(b:Int):Option ((Int×Int)):=some (a,b)
abbrev q07:=Bs->Int->Option Bool
def qqm(fu:Nat)(g:q07):q07:=fun a b=>bif decide (b<(a.length:Int)) then(am a b).bind fun f=>(ul (f.toNat:Int) 33 126).bind fun e=>bif !e then some false else(am a b).bind fun c=>bif c==58 then some false else g a (af (b+1)) else(ul (a.length:Int) 1 60).bind fun d=>some d
def qd2(fu:Nat):Nat->q07|0=>fun _ _=>none|n+1=>qqm fu (qd2 fu n)
def qjp(a:Bs):Option Bool:=qd2 fu fu a 0
abbrev q08:=UInt8->Bs->Int->Option Bool
def qqt(fu:Nat)(e:q08):q08:=fun c b a=>bif decide (a<(b.length:Int)) then(am b a).bind fun d=>bif d==c then some true else e c b (af (a+1)) else some false
def qjy(fu:Nat):Nat->q08|0=>fun _ _ _=>none|n+1=>qqt fu (qjy fu n)
def qjx(a:UInt8)(b:Bs):Option Bool:=qjy fu fu a b 0
def r9(a:UInt8):Option Bool:=bif a==32 then some true else some (a==9)
abbrev z10:=Bs->Option (Bs)
abbrev q09:=Bs->Option (Bs)
abbrev z1z:=Bs->Bool->Option (Bs)
abbrev qi6:=Bs->Option (Bs)
def qqx(fu:Nat)(b:qi6):z10:=fun a=>bif decide (0<=(1:Int)/\1<=(a.length:Int)) then b (List.drop (1:Int).toNat a) else none
def qqw(fu:Nat)(b:q09):q09:=fun a=>bif decide (0<(a.length:Int)) then(am a (af ((a.length:Int)-1))).bind fun d=>(r9 d).bind fun c=>bif c then bif decide (0<=af ((a.length:Int)-1)/\af ((a.length:Int)-1)<=(a.length:Int)) then b (List.take (af ((a.length:Int)-1)).toNat a) else none else some a else some a
def qd9(fu:Nat):Nat->q09|0=>fun _=>none|n+1=>qqw fu (qd9 fu n)
def qd8(c:qi6):z1z:=fun b a=>bif a then qqx fu c b else qd9 fu fu b
def qqv(b:qi6):qi6:=fun a=>bif decide (0<(a.length:Int)) then(am a 0).bind fun d=>(r9 d).bind fun c=>qd8 fu b a c else qd8 fu b a false
def qd7(fu:Nat):Nat->qi6|0=>fun _=>none|n+1=>qqv fu (qd7 fu n)
def qqu(a:Bs):Option (Bs):=qd7 fu fu a
abbrev q1a:=Bs->Int->Option Int
def qql(e:q1a):q1a:=fun a b=>bif decide (b<(a.length:Int)) then(am a b).bind fun d=>(qjx fu d ([13,10,0]:Bs)).bind fun c=>bif c then some 11 else e a (af (b+1)) else(qqu fu a).bind fun f=>bif !(f==a) then some 11 else some 0
def qaq(fu:Nat):Nat->q1a|0=>fun _ _=>none|n+1=>qql fu (qaq fu n)
def qd1(c:Bs)(a:Bs):Option Int:=(qjp fu c).bind fun b=>bif !b then some 10 else bif decide (4000<(a.length:Int)) then some 1 else qaq fu fu a 0
abbrev z2e:=Bs->Int->(List Int)->Option ((List Bs))
abbrev z2d:=Bs->Int->Bool->(List Int)->Option ((List Bs))
abbrev z2g:=Bs->Int->Int->Int->(List Int)->(List Bs)->Option ((List Bs))
abbrev z2f:=Bs->Int->Int->Int->Int->Bool->(List Int)->(List Bs)->Option ((List Bs))
abbrev qi8:=Bs->Int->Int->Int->(List Int)->(List Bs)->Option ((List Bs))
abbrev qal:=Bs->Int->(List Int)->(List Bs)->Option ((List Bs))
abbrev qi7:=Bs->Int->(List Int)->Option ((List Bs))
def qjv(fu:Nat)(c:qi7):z2e:=fun b d a=>c b (af (d+1)) a
def qju(e:qi7):z2d:=fun d b c a=>bif c then bif decide (List.length (a++([b]:List Int))<=ax) then qjv fu e d b (a++([b]:List Int)) else none else qjv fu e d b a
def qjw(fu:Nat)(h:qal)(f:qi8):z2g:=fun e g d c a b=>f e g d (af (c+1)) a b
def qd6(g:qal)(i:qi8):z2f:=fun h j d c f e a b=>bif e then qjw fu g i h j f c a b else qjw fu g i h j d c a b
def qqp(h:qal)(i:qi8):qi8:=fun f e a d b c=>bif decide (d<(b.length:Int)) then bif decide (0<=d/\d.toNat<b.length) then(b[d.toNat]?).bind fun g=>bif decide (e<g) then bif decide ((af (g-e))<=78) then qd6 fu h i f e a d g true b c else qd6 fu h i f e a d g (decide (a<0)) b c else qd6 fu h i f e a d g false b c else none else bif decide (a<0) then bif decide (0<=e/\e<=(f.length:Int)) then bif decide (List.length (c++([List.drop e.toNat f]:List Bs))<=ax) then some (c++([List.drop e.toNat f]:List Bs)) else none else none else bif decide (0<=e/\e<=a/\a<=(f.length:Int)) then bif decide (List.length (c++([List.take (a.toNat-e.toNat) (List.drop e.toNat f)]:List Bs))<=ax) then h f a b (c++([List.take (a.toNat-e.toNat) (List.drop e.toNat f)]:List Bs)) else none else none
def xf(fu:Nat)(a:qal):Nat->qi8|0=>fun _ _ _ _ _ _=>none|n+1=>qqp fu a (xf fu a n)
def qjt(e:qal):qal:=fun c b d a=>bif decide (78<(af ((c.length:Int)-b))) then xf fu e fu c b (-1) 0 d a else bif decide (0<=b/\b<=(c.length:Int)) then bif decide (List.length (a++([List.drop b.toNat c]:List Bs))<=ax) then some (a++([List.drop b.toNat c]:List Bs)) else none else none
def sc(fu:Nat):Nat->qal|0=>fun _ _ _ _=>none|n+1=>qjt fu (sc fu n)
def qjs(d:qi7):qi7:=fun b c a=>bif decide (c<(b.length:Int)) then(am b c).bind fun h=>(r9 h).bind fun g=>bif g then(am b (af (c-1))).bind fun e=>(r9 e).bind fun f=>qju fu d b c (!f) a else qju fu d b c false a else sc fu fu b 0 a []
def qar(fu:Nat):Nat->qi7|0=>fun _ _ _=>none|n+1=>qjs fu (qar fu n)
def qd5(a:Bs)(b:Bs):Option ((List Bs)):=bif decide (a.length+List.length ([58,32]:Bs)<=bc) then bif decide (List.length (a++([58,32]:Bs))+b.length<=bc) then qar fu fu ((a++([58,32]:Bs))++b) (af ((a.length:Int)+3)) [] else none else none
abbrev q1b:=Int->(Int×Int)->(List Bs)->Option ((Int×Int))
def qqo(fu:Nat)(f:q1b):q1b:=fun b c a=>bif decide (b<(a.length:Int)) then bif decide (0<=b/\b.toNat<a.length) then(a[b.toNat]?).bind fun d=>bif decide (998<(d.length:Int)) then(r8 1 b).bind fun e=>some e else f (af (b+1)) c a else none else some (0,0)
def qd4(fu:Nat):Nat->q1b|0=>fun _ _ _=>none|n+1=>qqo fu (qd4 fu n)
def qjr(b:Bs)(a:Bs):Option ((Int×Int)):=(qd1 fu b a).bind fun d=>bif d != 0 then(qd1 fu b a).bind fun e=>(r8 e (-1)).bind fun f=>some f else(qd5 fu b a).bind fun c=>qd4 fu fu 0 (0,0) c
abbrev q1c:=wV->Int->(Int×Int)->Option ((Int×Int))
def qqn(h:q1c):q1c:=fun b a c=>bif decide (a<(b.length:Int)) then(am b a).bind fun e=>(am b a).bind fun g=>(qjr fu e.1 g.2).bind fun d=>bif d.1 != 0 then(r8 d.1 a).bind fun f=>some f else h b (af (a+1)) c else some (0,0)
def qd3(fu:Nat):Nat->q1c|0=>fun _ _ _=>none|n+1=>qqn fu (qd3 fu n)
def qjq(a:List (Bs×Bs)):Option ((Int×Int)):=bif decide (60<(a.length:Int)) then(r8 2 (-1)).bind fun b=>some b else qd3 fu fu a 0 (0,0)
abbrev q1d:=wV->Bs->Int->Int->(List Bs)->Option (Bs)
abbrev qi9:=wV->Bs->Int->Option (Bs)
def qqs(fu:Nat)(g:qi9)(h:q1d):q1d:=fun e c f b a=>bif decide (b<(a.length:Int)) then bif decide (0<=b/\b.toNat<a.length) then(a[b.toNat]?).bind fun d=>bif decide (c.length+d.length<=bc) then bif decide (List.length (c++d)+List.length ([13,10]:Bs)<=bc) then h e ((c++d)++([13,10]:Bs)) f (af (b+1)) a else none else none else none else g e c (af (f+1))
def qas(fu:Nat)(a:qi9):Nat->q1d|0=>fun _ _ _ _ _=>none|n+1=>qqs fu a (qas fu a n)
def qqr(f:qi9):qi9:=fun a b c=>bif decide (c<(a.length:Int)) then(am a c).bind fun d=>(am a c).bind fun e=>(qd5 fu d.1 e.2).bind fun g=>qas fu f fu a b c 0 g else bif decide (b.length+List.length ([13,10]:Bs)<=bc) then bif decide (List.length (b++([13,10]:Bs))<=maxLen) then some (b++([13,10]:Bs)) else none else none
def xg(fu:Nat):Nat->qi9|0=>fun _ _ _=>none|n+1=>qqr fu (xg fu n)
def qqq(a:List (Bs×Bs)):Option (Bs):=xg fu fu a ([]:Bs) 0
def qjo(a:Bs)(b:Int):Option Bool:=bif decide ((af (b+1))<(a.length:Int)) then(am a b).bind fun c=>bif c==13 then(am a (af (b+1))).bind fun d=>some (d==10) else some false else some false
abbrev z28:=Bs->Int->Int->Bool->(Int×Int)->Option ((Int×Int))
abbrev qp9:=Bs->Int->Int->(Int×Int)->Option ((Int×Int))
def qjz(fu:Nat)(h:qp9):z28:=fun e c d b a=>bif b then(r8 11 (-5)).bind fun f=>some f else bif decide (998<=(af (d-c))) then(r8 1 (-6)).bind fun g=>some g else h e c (af (d+1)) a
def qqz(d:qp9):qp9:=fun c e a b=>bif decide (a<(c.length:Int)) then(qjo c a).bind fun f=>bif f then d c (af ((af (a+1))+1)) (af ((af (a+1))+1)) b else(am c a).bind fun g=>bif g==13 then qjz fu d c e a true b else(am c a).bind fun h=>qjz fu d c e a (h==10) b else some (0,0)
def qea(fu:Nat):Nat->qp9|0=>fun _ _ _ _=>none|n+1=>qqz fu (qea fu n)
def qqy(a:Bs):Option ((Int×Int)):=qea fu fu a 0 0 (0,0)
def se(a:wV×Bs):Option ((Int×Int)):=(qjq fu a.1).bind fun b=>bif b.1 != 0 then some b else bif decide (12000<(a.2.length:Int)) then(r8 1 (-4)).bind fun d=>some d else(qqq fu a.1).bind fun f=>bif decide (12000<(af ((f.length:Int)+(a.2.length:Int)))) then(r8 1 (-4)).bind fun c=>some c else(qqy fu a.2).bind fun e=>some e
abbrev z3f:=Bs->Int->(wV×Bs)->Option Bool
abbrev z3e:=Bs->Int->Bool->(wV×Bs)->Option Bool
def qq0:z3f:=fun c b a=>bif decide (0<=b/\b<=(a.1.length:Int)) then bif decide (List.length (List.take b.toNat a.1)<=ax) then bif decide (List.length ((List.take b.toNat a.1)++([(([82,101,99,101,105,118,101,100]:Bs),c)]:List (Bs×Bs)))<=ax) then bif decide (0<=b/\b<=(a.1.length:Int)) then bif decide (List.length (((List.take b.toNat a.1)++([(([82,101,99,101,105,118,101,100]:Bs),c)]:List (Bs×Bs)))++(List.drop b.toNat a.1))<=ax) then(qa1 fu a (((List.take b.toNat a.1)++([(([82,101,99,101,105,118,101,100]:Bs),c)]:List (Bs×Bs)))++(List.drop b.toNat a.1),a.2)).bind fun d=>bif d.2.1 != 0 then bif !d.1 then(se fu (((List.take b.toNat a.1)++([(([82,101,99,101,105,118,101,100]:Bs),c)]:List (Bs×Bs)))++(List.drop b.toNat a.1),a.2)).bind fun e=>some (e.1 != 0) else some false else some d.1 else none else none else none else none else none
def qj0:z3e:=fun c d b a=>bif b then some true else qq0 fu c d a
def qat(a:wV×Bs)(c:Bs)(b:Int):Option Bool:=(qj1 fu).bind fun d=>bif !d then some false else(xl fu a).bind fun f=>bif f.1.1 != 0 then qj0 fu c b true a else(ul b 0 (a.1.length:Int)).bind fun e=>qj0 fu c b (!e) a
abbrev z3m:=Bs->UInt8->Int->Int->UInt8->Option Int
abbrev z3l:=Bs->UInt8->Int->Int->UInt8->Bool->Option Int
abbrev qja:=Bs->UInt8->Int->Int->Option Int
def quc(fu:Nat)(f:qja):z3m:=fun e d c a b=>bif b==0 then some a else bif b==13 then some a else bif b==10 then some a else bif decide (d<b) then some a else bif c==998 then some a else f e d (af (c+1)) (af (a+1))
def qbv(d:qja):z3l:=fun c b f e g a=>bif a then d c b 0 (af ((af (e+1))+1)) else quc fu d c b f e g
def qub(f:qja):qja:=fun a e d b=>bif decide (b<(a.length:Int)) then(am a b).bind fun c=>bif c==13 then bif decide ((af (b+1))<(a.length:Int)) then(am a (af (b+1))).bind fun g=>qbv fu f a e d b c (g==10) else qbv fu f a e d b c false else qbv fu f a e d b c false else some (-1)
def qbu(fu:Nat):Nat->qja|0=>fun _ _ _ _=>none|n+1=>qub fu (qbu fu n)
def qua(a:Bs)(b:UInt8):Option Int:=qbu fu fu a b 0 0
def ql4(c:Bs)(a:UInt8):Option ((Int×Int)×UInt8×Bs):=(qua fu c a).bind fun b=>bif decide (0<=b) then(bn 17 b).bind fun e=>some (e,(a,[])) else(qgf c).bind fun d=>some (d.1,(a,d.2))
def qq2(a:Bs):Option (Bs):=some a
def gc(b:UInt8)(e:UInt8)(c:UInt8)(d:UInt8)(f:Int)(a:Bs):Option (Int×Bs):=bif f==76 then bif decide (List.length (a++([13,10]:Bs))<=ax) then bif decide (List.length ((a++([13,10]:Bs))++([b,e,c,d]:Bs))<=ax) then some (4,(a++([13,10]:Bs))++([b,e,c,d]:Bs)) else none else none else bif decide (List.length (a++([b,e,c,d]:Bs))<=ax) then some (af (f+4),a++([b,e,c,d]:Bs)) else none
abbrev z34:=Int->Int->Bs->Int->Bs->Option (Bs×Int×Bs)
abbrev z33:=Int->Int->Bs->Int->Bs->Option (Bs×Int×Bs)
abbrev z32:=Int->Int->Bs->Int->Bs->Option (Bs×Int×Bs)
abbrev qdr:=Bs->Int->Bs->Option (Bs×Int×Bs)
def sg(fu:Nat)(d:qdr):z34:=fun a f c e b=>(am ([65,66,67,68,69,70,71,72,73,74,75,76,77,78,79,80,81,82,83,84,85,86,87,88,89,90,97,98,99,100,101,102,103,104,105,106,107,108,109,110,111,112,113,114,115,116,117,118,119,120,121,122,48,49,50,51,52,53,54,55,56,57,43,47]:Bs) (af (((BitVec.ofInt 64 (Int.fdiv f (2 ^ min (18:Int).toNat 64))&&&BitVec.ofInt 64 63).toNat:Int)))).bind fun h=>bif decide (a<0) then(am ([65,66,67,68,69,70,71,72,73,74,75,76,77,78,79,80,81,82,83,84,85,86,87,88,89,90,97,98,99,100,101,102,103,104,105,106,107,108,109,110,111,112,113,114,115,116,117,118,119,120,121,122,48,49,50,51,52,53,54,55,56,57,43,47]:Bs) (af (((BitVec.ofInt 64 (Int.fdiv f (2 ^ min (12:Int).toNat 64))&&&BitVec.ofInt 64 63).toNat:Int)))).bind fun y=>bif decide (a<1) then(am ([65,66,67,68,69,70,71,72,73,74,75,76,77,78,79,80,81,82,83,84,85,86,87,88,89,90,97,98,99,100,101,102,103,104,105,106,107,108,109,110,111,112,113,114,115,116,117,118,119,120,121,122,48,49,50,51,52,53,54,55,56,57,43,47]:Bs) (af (((BitVec.ofInt 64 (Int.fdiv f (2 ^ min (6:Int).toNat 64))&&&BitVec.ofInt 64 63).toNat:Int)))).bind fun F=>bif decide (a<2) then(am ([65,66,67,68,69,70,71,72,73,74,75,76,77,78,79,80,81,82,83,84,85,86,87,88,89,90,97,98,99,100,101,102,103,104,105,106,107,108,109,110,111,112,113,114,115,116,117,118,119,120,121,122,48,49,50,51,52,53,54,55,56,57,43,47]:Bs) (af (((BitVec.ofInt 64 (Int.fdiv f (2 ^ min (0:Int).toNat 64))&&&BitVec.ofInt 64 63).toNat:Int)))).bind fun L=>bif decide (a<3) then(gc 61 61 61 61 e b).bind fun I=>bif decide (0<=a/\a<=(c.length:Int)) then d (List.drop a.toNat c) I.1 I.2 else none else(gc 61 61 61 L e b).bind fun H=>bif decide (0<=a/\a<=(c.length:Int)) then d (List.drop a.toNat c) H.1 H.2 else none else(am ([65,66,67,68,69,70,71,72,73,74,75,76,77,78,79,80,81,82,83,84,85,86,87,88,89,90,97,98,99,100,101,102,103,104,105,106,107,108,109,110,111,112,113,114,115,116,117,118,119,120,121,122,48,49,50,51,52,53,54,55,56,57,43,47]:Bs) (af (((BitVec.ofInt 64 (Int.fdiv f (2 ^ min (0:Int).toNat 64))&&&BitVec.ofInt 64 63).toNat:Int)))).bind fun K=>bif decide (a<3) then(gc 61 61 F 61 e b).bind fun G=>bif decide (0<=a/\a<=(c.length:Int)) then d (List.drop a.toNat c) G.1 G.2 else none else(gc 61 61 F K e b).bind fun J=>bif decide (0<=a/\a<=(c.length:Int)) then d (List.drop a.toNat c) J.1 J.2 else none else(am ([65,66,67,68,69,70,71,72,73,74,75,76,77,78,79,80,81,82,83,84,85,86,87,88,89,90,97,98,99,100,101,102,103,104,105,106,107,108,109,110,111,112,113,114,115,116,117,118,119,120,121,122,48,49,50,51,52,53,54,55,56,57,43,47]:Bs) (af (((BitVec.ofInt 64 (Int.fdiv f (2 ^ min (6:Int).toNat 64))&&&BitVec.ofInt 64 63).toNat:Int)))).bind fun l=>bif decide (a<2) then(am ([65,66,67,68,69,70,71,72,73,74,75,76,77,78,79,80,81,82,83,84,85,86,87,88,89,90,97,98,99,100,101,102,103,104,105,106,107,108,109,110,111,112,113,114,115,116,117,118,119,120,121,122,48,49,50,51,52,53,54,55,56,57,43,47]:Bs) (af (((BitVec.ofInt 64 (Int.fdiv f (2 ^ min (0:Int).toNat 64))&&&BitVec.ofInt 64 63).toNat:Int)))).bind fun D=>bif decide (a<3) then(gc 61 y 61 61 e b).bind fun x=>bif decide (0<=a/\a<=(c.length:Int)) then d (List.drop a.toNat c) x.1 x.2 else none else(gc 61 y 61 D e b).bind fun i=>bif decide (0<=a/\a<=(c.length:Int)) then d (List.drop a.toNat c) i.1 i.2 else none else(am ([65,66,67,68,69,70,71,72,73,74,75,76,77,78,79,80,81,82,83,84,85,86,87,88,89,90,97,98,99,100,101,102,103,104,105,106,107,108,109,110,111,112,113,114,115,116,117,118,119,120,121,122,48,49,50,51,52,53,54,55,56,57,43,47]:Bs) (af (((BitVec.ofInt 64 (Int.fdiv f (2 ^ min (0:Int).toNat 64))&&&BitVec.ofInt 64 63).toNat:Int)))).bind fun B=>bif decide (a<3) then(gc 61 y l 61 e b).bind fun u=>bif decide (0<=a/\a<=(c.length:Int)) then d (List.drop a.toNat c) u.1 u.2 else none else(gc 61 y l B e b).bind fun m=>bif decide (0<=a/\a<=(c.length:Int)) then d (List.drop a.toNat c) m.1 m.2 else none else(am ([65,66,67,68,69,70,71,72,73,74,75,76,77,78,79,80,81,82,83,84,85,86,87,88,89,90,97,98,99,100,101,102,103,104,105,106,107,108,109,110,111,112,113,114,115,116,117,118,119,120,121,122,48,49,50,51,52,53,54,55,56,57,43,47]:Bs) (af (((BitVec.ofInt 64 (Int.fdiv f (2 ^ min (12:Int).toNat 64))&&&BitVec.ofInt 64 63).toNat:Int)))).bind fun g=>bif decide (a<1) then(am ([65,66,67,68,69,70,71,72,73,74,75,76,77,78,79,80,81,82,83,84,85,86,87,88,89,90,97,98,99,100,101,102,103,104,105,106,107,108,109,110,111,112,113,114,115,116,117,118,119,120,121,122,48,49,50,51,52,53,54,55,56,57,43,47]:Bs) (af (((BitVec.ofInt 64 (Int.fdiv f (2 ^ min (6:Int).toNat 64))&&&BitVec.ofInt 64 63).toNat:Int)))).bind fun o=>bif decide (a<2) then(am ([65,66,67,68,69,70,71,72,73,74,75,76,77,78,79,80,81,82,83,84,85,86,87,88,89,90,97,98,99,100,101,102,103,104,105,106,107,108,109,110,111,112,113,114,115,116,117,118,119,120,121,122,48,49,50,51,52,53,54,55,56,57,43,47]:Bs) (af (((BitVec.ofInt 64 (Int.fdiv f (2 ^ min (0:Int).toNat 64))&&&BitVec.ofInt 64 63).toNat:Int)))).bind fun A=>bif decide (a<3) then(gc h 61 61 61 e b).bind fun j=>bif decide (0<=a/\a<=(c.length:Int)) then d (List.drop a.toNat c) j.1 j.2 else none else(gc h 61 61 A e b).bind fun q=>bif decide (0<=a/\a<=(c.length:Int)) then d (List.drop a.toNat c) q.1 q.2 else none else(am ([65,66,67,68,69,70,71,72,73,74,75,76,77,78,79,80,81,82,83,84,85,86,87,88,89,90,97,98,99,100,101,102,103,104,105,106,107,108,109,110,111,112,113,114,115,116,117,118,119,120,121,122,48,49,50,51,52,53,54,55,56,57,43,47]:Bs) (af (((BitVec.ofInt 64 (Int.fdiv f (2 ^ min (0:Int).toNat 64))&&&BitVec.ofInt 64 63).toNat:Int)))).bind fun E=>bif decide (a<3) then(gc h 61 o 61 e b).bind fun v=>bif decide (0<=a/\a<=(c.length:Int)) then d (List.drop a.toNat c) v.1 v.2 else none else(gc h 61 o E e b).bind fun k=>bif decide (0<=a/\a<=(c.length:Int)) then d (List.drop a.toNat c) k.1 k.2 else none else(am ([65,66,67,68,69,70,71,72,73,74,75,76,77,78,79,80,81,82,83,84,85,86,87,88,89,90,97,98,99,100,101,102,103,104,105,106,107,108,109,110,111,112,113,114,115,116,117,118,119,120,121,122,48,49,50,51,52,53,54,55,56,57,43,47]:Bs) (af (((BitVec.ofInt 64 (Int.fdiv f (2 ^ min (6:Int).toNat 64))&&&BitVec.ofInt 64 63).toNat:Int)))).bind fun t=>bif decide (a<2) then(am ([65,66,67,68,69,70,71,72,73,74,75,76,77,78,79,80,81,82,83,84,85,86,87,88,89,90,97,98,99,100,101,102,103,104,105,106,107,108,109,110,111,112,113,114,115,116,117,118,119,120,121,122,48,49,50,51,52,53,54,55,56,57,43,47]:Bs) (af (((BitVec.ofInt 64 (Int.fdiv f (2 ^ min (0:Int).toNat 64))&&&BitVec.ofInt 64 63).toNat:Int)))).bind fun C=>bif decide (a<3) then(gc h g 61 61 e b).bind fun r=>bif decide (0<=a/\a<=(c.length:Int)) then d (List.drop a.toNat c) r.1 r.2 else none else(gc h g 61 C e b).bind fun p=>bif decide (0<=a/\a<=(c.length:Int)) then d (List.drop a.toNat c) p.1 p.2 else none else(am ([65,66,67,68,69,70,71,72,73,74,75,76,77,78,79,80,81,82,83,84,85,86,87,88,89,90,97,98,99,100,101,102,103,104,105,106,107,108,109,110,111,112,113,114,115,116,117,118,119,120,121,122,48,49,50,51,52,53,54,55,56,57,43,47]:Bs) (af (((BitVec.ofInt 64 (Int.fdiv f (2 ^ min (0:Int).toNat 64))&&&BitVec.ofInt 64 63).toNat:Int)))).bind fun z=>bif decide (a<3) then(gc h g t 61 e b).bind fun s=>bif decide (0<=a/\a<=(c.length:Int)) then d (List.drop a.toNat c) s.1 s.2 else none else(gc h g t z e b).bind fun w=>bif decide (0<=a/\a<=(c.length:Int)) then d (List.drop a.toNat c) w.1 w.2 else none
def qaw(f:qdr):z33:=fun c e b d a=>bif decide (2<c) then(am b 2).bind fun g=>sg fu f c (af (((BitVec.ofInt 64 (af (e*2 ^ min (8:Int).toNat 64))|||BitVec.ofInt 64 (g.toNat:Int)).toNat:Int))) b d a else sg fu f c (af (e*2 ^ min (8:Int).toNat 64)) b d a
def qav(f:qdr):z32:=fun c e b d a=>bif decide (1<c) then(am b 1).bind fun g=>qaw fu f c (af (((BitVec.ofInt 64 (af (e*2 ^ min (8:Int).toNat 64))|||BitVec.ofInt 64 (g.toNat:Int)).toNat:Int))) b d a else qaw fu f c (af (e*2 ^ min (8:Int).toNat 64)) b d a
def sf(d:qdr):qdr:=fun a c b=>bif decide (0<(a.length:Int)) then bif decide (0<(if(a.length:Int)<3 then(a.length:Int) else 3)) then(am a 0).bind fun e=>qav fu d (if(a.length:Int)<3 then(a.length:Int) else 3) (af (((BitVec.ofInt 64 0|||BitVec.ofInt 64 (e.toNat:Int)).toNat:Int))) a c b else qav fu d (if(a.length:Int)<3 then(a.length:Int) else 3) 0 a c b else some (a,(c,b))
def nw(fu:Nat):Nat->qdr|0=>fun _ _ _=>none|n+1=>sf fu (nw fu n)
def qq3(a:Bs)(c:Int)(b:Bs):Option (Bs×Int×Bs):=nw fu fu a c b
def qj2(b:Bs):Option ((Int×Int)×Bs):=bif decide (12000<(b.length:Int)) then(bn 1 (-1)).bind fun d=>some (d,[]) else(qq2 b).bind fun e=>(qq3 fu e 0 []).bind fun a=>bif decide (0<a.2.1) then bif decide (List.length (a.2.2++([13,10]:Bs))<=ax) then(ci).bind fun c=>some (c,a.2.2++([13,10]:Bs)) else none else(ci).bind fun f=>some (f,a.2.2)
def qbp(a:Bs):Option Bool:=bif decide (2<=(a.length:Int)) then(am a 0).bind fun b=>bif b==13 then(am a 1).bind fun c=>some (c==10) else some false else some false
abbrev z4f:=UInt8->Bool->Option (Bs)
def uy:z4f:=fun a f=>bif decide (33<=a) then bif decide (a<=126) then bif a != 61 then some ([a]:Bs) else(lj a).bind fun j=>bif j then bif !f then some ([a]:Bs) else(e7 (jj a (min (4:Int).toNat 8))).bind fun m=>(e7 a).bind fun r=>some ([61,m,r]:Bs) else(e7 (jj a (min (4:Int).toNat 8))).bind fun o=>(e7 a).bind fun l=>some ([61,o,l]:Bs) else(lj a).bind fun k=>bif k then bif !f then some ([a]:Bs) else(e7 (jj a (min (4:Int).toNat 8))).bind fun q=>(e7 a).bind fun i=>some ([61,q,i]:Bs) else(e7 (jj a (min (4:Int).toNat 8))).bind fun p=>(e7 a).bind fun d=>some ([61,p,d]:Bs) else(lj a).bind fun c=>bif c then bif !f then some ([a]:Bs) else(e7 (jj a (min (4:Int).toNat 8))).bind fun h=>(e7 a).bind fun e=>some ([61,h,e]:Bs) else(e7 (jj a (min (4:Int).toNat 8))).bind fun b=>(e7 a).bind fun g=>some ([61,b,g]:Bs)
def qlh(a:UInt8)(b:Bs):Option (Bs):=bif(b.length:Int)==0 then uy a true else(qbp b).bind fun c=>uy a c
abbrev z4o:=Bs->Int->Int->(Int×Int)->Bs->Bs->Option ((Int×Int)×Bs)
abbrev z4n:=Bs->Int->Int->Int->(Int×Int)->Bs->Bs->Option ((Int×Int)×Bs)
abbrev z4m:=Bs->Int->Int->Bool->(Int×Int)->Bs->Bs->Option ((Int×Int)×Bs)
abbrev qds:=Bs->Int->Int->(Int×Int)->Bs->Option ((Int×Int)×Bs)
def qfq(fu:Nat)(f:qds):z4o:=fun e d g c b a=>bif decide (List.length (b++a)<=ax) then f e (af (d+(a.length:Int))) (af (g+1)) c (b++a) else none
def qfp(f:qds):z4n:=fun e d g h c a b=>bif decide (h<(af (d+(b.length:Int)))) then bif decide (List.length (a++([61,13,10]:Bs))<=ax) then qfq fu f e 0 g c (a++([61,13,10]:Bs)) b else none else qfq fu f e d g c a b
def qfo(g:qds):z4m:=fun f e h d a b c=>bif d then qfp fu g f e h 75 a c b else qfp fu g f e h 76 a c b
def qle(e:qds):qds:=fun c f a d b=>bif decide (a<(c.length:Int)) then bif decide (0<=a/\a<=(c.length:Int)) then(qbp (List.drop a.toNat c)).bind fun i=>bif i then bif decide (List.length (b++([13,10]:Bs))<=ax) then e c 0 (af ((af (a+1))+1)) d (b++([13,10]:Bs)) else none else bif decide (0<=af (a+1)/\af (a+1)<=(c.length:Int)) then(am c a).bind fun j=>(qlh j (List.drop (af (a+1)).toNat c)).bind fun g=>bif decide (0<(List.length (List.drop (af (a+1)).toNat c):Int)) then(qbp (List.drop (af (a+1)).toNat c)).bind fun h=>qfo fu e c f a (!h) d g b else qfo fu e c f a false d g b else none else none else(ci).bind fun k=>some (k,b)
def sr(fu:Nat):Nat->qds|0=>fun _ _ _ _ _=>none|n+1=>qle fu (sr fu n)
def qld(a:Bs):Option ((Int×Int)×Bs):=bif decide (12000<(a.length:Int)) then(bn 1 (-1)).bind fun b=>some (b,[]) else sr fu fu a 0 0 (0,0) []
def qge(a:Bs)(q:Bs):Option ((Int×Int)×Bs):=(qgg fu a q).bind fun m=>bh m (fun e=>(c7 e.2.1).bind fun l=>bif l then some (e.2.1,[]) else(ql4 fu a e.2.2).bind fun j=>some (j.1,j.2.2)) (fun p=>bh p (fun i=>(c7 i.2).bind fun d=>bif d then some (i.2,[]) else(qj2 fu a).bind fun c=>some c) (fun o=>bh o (fun h=>(c7 h.2).bind fun g=>bif g then some (h.2,[]) else(qld fu a).bind fun f=>some f) (fun k=>(c7 k.2).bind fun b=>bif b then some (k.2,[]) else none)))
abbrev z4w:=Bs->Bs->Bs->Bs->Option Bool
abbrev z4v:=Bs->Bs->Bool->Bs->(Int×Int)->Bs->Option Bool
def qq1:z4w:=fun e d a b=>(qa1 fu (([(([67,111,110,116,101,110,116,45,84,114,97,110,115,102,101,114,45,69,110,99,111,100,105,110,103]:Bs),e),(([65]:Bs),([98]:Bs))]:List (Bs×Bs)),a) (([(([65]:Bs),([98]:Bs)),(([99,111,110,116,101,110,116,45,116,114,97,110,115,102,101,114,45,101,110,99,111,100,105,110,103]:Bs),d)]:List (Bs×Bs)),b)).bind fun c=>bif c.2.1 != 0 then bif !c.1 then(se fu (([(([67,111,110,116,101,110,116,45,84,114,97,110,115,102,101,114,45,69,110,99,111,100,105,110,103]:Bs),e),(([65]:Bs),([98]:Bs))]:List (Bs×Bs)),a)).bind fun f=>bif f.1 != 0 then some true else(se fu (([(([65]:Bs),([98]:Bs)),(([99,111,110,116,101,110,116,45,116,114,97,110,115,102,101,114,45,101,110,99,111,100,105,110,103]:Bs),d)]:List (Bs×Bs)),b)).bind fun g=>some (g.1 != 0) else some false else some c.1
def qeb:z4v:=fun f e d a b c=>bif d then bif b.1==0 then some true else some ((a.length:Int)==0) else qq1 fu f e a c
def qau(e:Bs)(d:Bs)(c:Bs):Option Bool:=(qj1 fu).bind fun f=>bif !f then some false else(qge fu e d).bind fun a=>(qge fu e c).bind fun b=>bif a.1.1 != 0 then qeb fu d c true a.2 a.1 b.2 else qeb fu d c (b.1.1 != 0) a.2 a.1 b.2
end
end Go.Sym

