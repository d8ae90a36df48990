/- What the claim rests on, part 3: gathered texts. -/
import Derived.RangeFuncRecord
import Derived.Lib.ItoaNum
import Derived.Lib.Index
import Derived.Lib.AtoiAll
import Derived.Shelf.SlSortCmp.Insertion
import Derived.Lib.Replace
import Derived.Lib.Repeat
import Derived.Lib.MapLaws
import Derived.Lib.ValidLaws
import Derived.Lib.BytesEntry
import Derived.Laws.Externs
import Derived.WalkKit
import Derived.ProofKit
import Derived.OpenShut
import Derived.ShutString
import Derived.ChangeOld
import Derived.Carry
import Derived.Handed
import Derived.Deep.DeepHandedRow
import Derived.LaidMore
import Derived.Lay
import Derived.LaidHandle
import Derived.MakeChecks
import Derived.LaidLaws
import Derived.Test.YtiidadfafmcdmaaGreatDoorSyE2
set_option linter.defProp false
namespace Go.Sym
open Go.RowKit
variable[LC]
def lh(i:Nat)(c:Code):Code:=match c with
 |.seq a b=>match i with|0=>a|_=>b
 |.cond _ a b=>match i with|0=>a|_=>b
 |.block _ a=>a|.loop a=>a|.scope a=>a|.rangeFunc _ _ a b=>match i with|0=>a|_=>b
 |c=>c
def sub(body:Code):List Nat->Code|[]=>body|i::p=>lh i (sub body p)
structure d6 where
 kd:Nat
 path:List Nat
 it:Item
def vp(body:Code)(kd:Nat)(p:List Nat):Item:=match kd with
 |0 => .code (sub body p)|1=>match sub body p with|.block id _ => .inBlock id|c => .code c
 |2=>match sub body p with|.loop x => .inLoop x|c => .code c
 |3=>match sub body p with|.scope x => .inScope x|c => .code c
 |_ => .beginRound
def d6.Ok(body:Code)(i:d6):Prop:=i.it=vp body i.kd i.path
abbrev yj:=List (Nat×List Nat)
def mq(body:Code):yj->List d6|[]=>[]|(kd,p)::r=>⟨kd,p,vp body kd p⟩::mq body r
def eh:List d6->List Item|[]=>[]|i::r=>i.it::eh r
def qc1:yj->List d6->Bool|[],[]=>true|(kd,p)::r,i::k=>Nat.beq kd i.kd&&o9 p i.path&&qc1 r k|_,_=>false
def zam{body:Code}:∀{key:yj}{k:List d6},qc1 key k=true->(∀i∈k,i.Ok body)->eh (mq body key)=eh k
 |[],[],_,_=>rfl|(kd,p)::r,⟨kd',p',it⟩::k,h,hk=>by
  simp only[qc1,qA]at h;obtain⟨⟨h1,h2⟩,h3⟩:=h;have h1:=qN h1;have h2:=qox h2;subst h1 h2;have ho:it=vp body kd p:=hk _ qH;simp only[mq,eh];rw[zam h3 (fun i hi=>hk i (qE _ hi)),ho]
 |[],_::_,h,_=>by cases h
 |_::_,[],h,_=>by cases h
def q0e{body:Code}:∀{key:yj},∀i∈mq body key,i.Ok body
 |[],i,h=>by cases h
 |(kd,p)::r,i,h=>by
  rcases List.mem_cons.1 h with rfl|h
  ·rfl
  ·exact q0e i h
def zqa{body:Code}{kd:Nat}{p:List Nat}{c:Code}(h:Item.code c=vp body kd p):sub body p=c:=by
 unfold vp at h;split at h
 ·injection h with h;exact h.symm
 ·split at h
  ·cases h
  ·injection h with h;exact h.symm
 ·split at h
  ·cases h
  ·injection h with h;exact h.symm
 ·split at h
  ·cases h
  ·injection h with h;exact h.symm
 ·cases h
def zqb{body:Code}{kd:Nat}{p:List Nat}{c:Code}(h:Item.inLoop c=vp body kd p):sub body p = .loop c:=by
 unfold vp at h;split at h
 ·cases h
 ·split at h<;>cases h
 ·split at h
  ·rename_i e;injection h with h;subst h;exact e
  ·cases h
 ·split at h<;>cases h
 ·cases h
def pa(id:Nat):List d6->Option (List d6)
 |[]=>none|i::k=>match i.it with|.inBlock id'=>if id'==id then some k else pa id k|_=>pa id k
def qzw{id:Nat}:∀{k k':List d6},pa id k=some k'->exitTo id (eh k)=some (eh k')/\∀i∈k',i∈k
 |[],_,h=>by cases h
 |⟨kd,p,it⟩::k,k',h=>by
  simp only[pa]at h;split at h
  ·rename_i id';split at h
   ·rename_i he;simp only[qI]at h;subst h;exact⟨by simp only[eh,exitTo];rw[qX he],fun i hi=>qE _ hi⟩
   ·rename_i he;obtain⟨h1,h2⟩:=qzw h;exact⟨by simp only[eh,exitTo];rw[qW he];exact h1,fun i hi=>qE _ (h2 i hi)⟩
  ·rename_i hne;obtain⟨h1,h2⟩:=qzw h;refine⟨?_,fun i hi=>qE _ (h2 i hi)⟩
   (try simp only at hne)
   simp only[eh];cases it<;>first
    |(exfalso;exact hne _ rfl)
    |(simp only[exitTo];exact h1)
def qyq(P:Program)(s:St):ResultVar->Option AV
 |.tmp t=>ae s.fr t|.cell t T=>match ae s.fr t with
  |some (.ptr b off)=>match ae s.hp b with|some (.cells cs _)=>np P T cs off|_=>none
  |some (.oel k sz 0 0)=>match ae s.hp k,wi P T,ef P T with|some (.row τ l _),some true,some _=>bif τ.is1&&Nat.beq sz 1 then some (.arr τ l) else none|_,_,_=>none
  |_=>none
def q14(P:Program)(s:St):ResultVar->Bool
 |.tmp _=>true|.cell t T=>match ae s.fr t with
  |some (.oel k _ 0 0)=>match ae s.hp k,ef P T with|some (.row _ l _),some n=>decide (l.length=n)|_,_=>true
  |_=>true
def qjm(P:Program)(s:St):List ResultVar->Bool|[]=>true|x::xs=>q14 P s x&&qjm P s xs
def qcc(P:Program)(s:St):List ResultVar->Option (List AV)
 |[]=>some []|x::xs=>match qyq P s x with
  |some v=>match qcc P s xs with|some vs=>some (v::vs)|none=>none
  |none=>none
def qyr(P:Program)(fn:Func)(s:St):Option AV:=
 match qcc P s fn.results.toList with
 |some vs=>match vs with|[v]=>some v|vs=>some (.tup vs)
 |none=>none
def frzC(p:Pt)(b off:Nat)(s:St):St:=match ae s.hp b with|some (.cells cs _)=>frzL (qpg p (.agg (cs.drop off))) s|_=>s
def coR(bs:List (Nat×be)):List ResultVar->List Pt->St->St
 |[],_,s=>s|x::xs,ps,s=>match ps with
  |[]=>s|p::ps=>match x with
   |.tmp t=>coR bs xs ps (coF bs [(t,p)] s)|.cell t _=>match ae s.fr t with|some (.ptr b off)=>coR bs xs ps (frzC p b off (coB1 bs b [p] off s))|_=>coR bs xs ps s
def qqc:Pt->List Pt|.tup ps=>ps|p=>[p]
def qo4(v:AV)(ids:NM)(p:Pt)(hp:List (Nat×be))(s:St):Option (p.den×fy hp):=
 match p.get v ids with
 |some (d,nm)=>match qk s.hp hp nm with|some (d',nm')=>bif d7 nm'&&th nm' hp then some (d,d') else none|none=>none
 |none=>none
def qzz(P:Program)(fn:Func)(ids:NM)(rv:Option AV)(p:Pt)(hp:List (Nat×be))(s:St):Option (p.den×fy hp):=
 match rv with
 |some v=>qo4 v ids p hp (coB hp ids hp s)|none=>match qyr P fn (coR hp fn.results.toList (qqc p) (coB hp ids hp s)) with|some v=>qo4 v ids p hp (coR hp fn.results.toList (qqc p) (coB hp ids hp s))|none=>none
def qz0(P:Program)(fn:Func)(ids:NM)(rv:Option AV)(p:Pt)(hp:List (Nat×be))(s:St):Bool:=
 match rv with|some _=>true|none=>qjm P (coR hp fn.results.toList (qqc p) (coB hp ids hp s)) fn.results.toList
def RS.fin(P:Program)(fn:Func)(ids:NM)(rv:Option AV)(s:St):{α:Type}->RS α->Option α
 | _,.one p hp _ fro _=>bif qz0 P fn ids rv p hp s then(match qzz P fn ids rv p hp s with
  |some y=>some (fro y)| none=>none) else none
 |_,.two l r=>match l.fin P fn ids rv s with
  |some a=>some (.inl a)|none=>match r.fin P fn ids rv s with|some b=>some (.inr b)|none=>none
structure fc(R:Type) where
 key:yj
 ls:LS
 F:ls.den->Option R
def zo{R:Type}(ids:NM)(s:St)(k:List d6):List (fc R)->Option (fc R)
 |[]=>none| l::ls=>bif qc1 l.key k then(match zo ids s k ls with
   |none=>some l|some l'=>match l.ls.get ids (l.ls.co ids s) with
    |some _=>some l| none=>some l') else zo ids s k ls
structure Cx:Type 1 where
 P:Program
 tb:Tb
 fn:Func
 f:FuncId
 ids:NM
 rd:Option Nat
 tags:List (List Nat×Nat)
def St.noDf(s:St):Bool:=match s.df with|[]=>true|_=>false
def qig:List Nat->St->Option St
 |[],s=>some { s with df:=[] }|n::ns,s=>match ae s.hp n with|some .dfr=>qig ns { s with hp:=(n,.dead)::s.hp,df:=ns }|_=>none
def tx:Option du->Bool|none=>true|some _=>false
def nr(cx:Cx){R:Type}(enc:RS R)(j:Option du)(s:St):Option R:=
 match cx.rd with
 |none=>match qig s.df s with|some s'=>enc.fin cx.P cx.fn cx.ids none s'|none=>none
 |some m=>bif s.noDf then
   (match ae s.hp m with
   |some (.loop _ _ f n fr ps tag D)=>enc.fin cx.P cx.fn cx.ids (some (.val (.bool (tx j)))) { s with hp:=(m,.loop (bif tx j then .ready else .done) j f n fr ps tag D)::s.hp }| _=>none)
  else none
def St.enterRF(s:St)(f:FuncId)(ps:List Tmp)(tag:Nat)(around:Option Nat):Option St:=
 bif a8 s.nx s.hp then
  (match around with
  |none=>some { s with hp:=(s.nx,.loop .ready none f s.n s.fr ps tag (s.nx+1))::(s.nx+1,.dfr)::s.hp,df:=(s.nx+1)::s.df,nx:=s.nx+32 }|some m=>match ae s.hp m with
   |some (.loop _ _ _ _ _ _ _ D)=>some { s with hp:=(s.nx,.loop .ready none f s.n s.fr ps tag D)::s.hp,nx:=s.nx+32 }| _=>none)
 else none
def zer(s:St)(ys:List AV)(d:D):Option St:=match d with
 |.mem names xs hp _ hp'=>
  bif d7 names&&qt names&&a8 s.nx s.hp then
   (match io (ax names) s.hp names,bj false [] (AV.rens (ax names) ys) xs with
   |some hpv,some _=>match jt hpv hp with|some _=>some { s with hp:=lf (ld names hp' s.nx) hp'++(mj names++s.hp),nx:=s.nx+32 }|none=>none
   | _,_=>none)
  else none
 |_=>none
def rm(p:List Nat):List (List Nat×Nat)->Option Nat|[]=>none|(q,t)::r=>bif o9 q p then some t else rm p r
def zc0:LoopState->Bool|.busy=>false|_=>true
def qqi(cx:Cx)(p:List Nat)(g:Operand)(ps:List Tmp)(s:St):Option (Rq×St×List AV):=
 match rm p cx.tags,s.ev g with
 |some tag,some (.fn (.func h) [] cap)=>match s.enterRF cx.f ps tag cx.rd with
  |some s1=>match y8 (qie s1 h (.yld s.nx::cap)) cx.tb.ents with|some q=>some (q,s1,.yld s.nx::cap)|none=>none
  |none=>none
 |_,_=>none
def zet(cx:Cx)(p:List Nat)(g:Operand)(ps:List Tmp)(s:St):Option St:=
 match rm p cx.tags,s.ev g with
 |some tag,some (.fn (.func h) [] cap)=>match s.enterRF cx.f ps tag cx.rd with
  |some s1=>match qov (fun e=>rh h e.key) cx.tb.ents with|some e=>some (coB e.hp (ua s1 e.hp (vy e.args (.yld s.nx::cap))) e.hp (frzL (za e.args (.yld s.nx::cap)) s))|none=>none
  |none=>none
 |_,_=>none
def qqj{R:Type}(nl:Nat)(a:Rq×St×List AV)(K:Option du->St->Option R):Option R:=
 a.1.K fun d=>match zer a.2.1 a.2.2 d with
  |some s3=>match ae s3.hp nl with|some (.loop st pe _ _ _ _ _ _)=>bif zc0 st then K pe { s3 with hp:=(nl,.dead)::s3.hp } else none|_=>none
  |none=>none
def rfR(cx:Cx){R:Type}(p:List Nat)(g:Operand)(ps:List Tmp)(s:St)(K:Option du->St->Option R):Option R:=
 match qqi cx p g ps s with
 |some a=>qqj s.nx a K|none=>match zet cx p g ps s with
  |some s'=>match qqi cx p g ps s' with|some a=>qqj s'.nx a K|none=>none
  |none=>none
def run(cx:Cx){R:Type}(enc:RS R)(labs:List (fc R)):Nat->Bool->List d6->St->Option R
 |0,_,_,_=>none|n+1,chk,k,s=>match(bif chk then zo cx.ids s k labs else none) with
  |some lab=>match lab.ls.get cx.ids (lab.ls.co cx.ids s) with|some d=>lab.F d|none=>none
  |none=>match k with
   |[]=>nr cx enc none s|⟨_,p,it⟩::k'=>match it with
    |.code c=>match c with
     |.skip=>run cx enc labs n true k' s|.label _=>run cx enc labs n true k' s|.seq x y=>run cx enc labs n true (⟨0,0::p,.code x⟩::⟨0,1::p,.code y⟩::k') s|.cond c x y=>match s.ev c with|some (.bool b)=>bif b then run cx enc labs n true (⟨0,0::p,.code x⟩::k') (s.know c true) else run cx enc labs n true (⟨0,1::p,.code y⟩::k') (s.know c false)|some (.val (.bool b))=>bif b then run cx enc labs n true (⟨0,0::p,.code x⟩::k') s else run cx enc labs n true (⟨0,1::p,.code y⟩::k') s|_=>none
     |.block id x=>run cx enc labs n true (⟨0,0::p,.code x⟩::⟨1,p,.inBlock id⟩::k') s|.loop x=>run cx enc labs n true (⟨0,0::p,.code x⟩::⟨2,p,.inLoop x⟩::k') s|.scope x=>run cx enc labs n true (⟨0,0::p,.code x⟩::⟨3,p,.inScope x⟩::k') s|.exit id=>match pa id k' with
      |some k''=>run cx enc labs n true k'' s|none=>match cx.rd with|some _=>nr cx enc (some (.exit id)) s|none=>none
     |.region _ ops d=>bif d then qzo cx.P cx.tb ops s (fun s'=>run cx enc labs n true k' s'.bump) else zm cx.P cx.tb ops ops.toList s (fun s'=>run cx enc labs n true k' s'.bump)
     |.ret=>nr cx enc (some .ret) s|.rangeFunc g ps _ _=>rfR cx p g ps.toList s fun j s'=>match j with
      |none=>run cx enc labs n true k' s'|some .ret=>nr cx enc (some .ret) s'|some (.exit id)=>match pa id k' with
       |some k''=>run cx enc labs n true k'' s'|none=>match cx.rd with|some _=>nr cx enc (some (.exit id)) s'|none=>none
     |_=>none
    |.inBlock _=>run cx enc labs n true k' s|.inScope _=>run cx enc labs n true k' s|.inLoop x=>run cx enc labs n true (⟨0,0::p,.code x⟩::⟨2,p,.inLoop x⟩::k') s|.beginRound=>match cx.rd with
     |some m=>match ae s.hp m with|some (.loop .ready pe f n' fr ps tag D)=>run cx enc labs n true k' { s with hp:=(m,.loop .busy pe f n' fr ps tag D)::s.hp }|_=>none
     |none=>none
    |_=>none
def w6(P:Program)(ro:Option Nat)(f:FuncId)(x:Machine)(cs:List Frame)(Q:Value->World->Prop):Prop:=
 match ro with|none=>∃v w' fr,Q v w'/\Steps P x (lone fr cs w')/\fr.fn=f/\fr.leaving P w' (.returned v)|some _=>∀c cs',cs=c::cs'->∃v w',Q v w'/\Steps P x (lone (c.finish v) cs' w')
def w6.head{P:Program}{ro:Option Nat}{f:FuncId}{x y:Machine}{cs:List Frame}{Q:Value->World->Prop}(h:Steps P x y)(k:w6 P ro f y cs Q):w6 P ro f x cs Q:=by
 cases ro with
 |none=>obtain⟨v,w',fr,h1,h2,h3⟩:=k;exact⟨v,w',fr,h1,h.trans h2,h3⟩
 |some l=>exact fun c cs' e=>by obtain⟨v,w',h1,h2⟩:=k c cs' e;exact⟨v,w',h1,h.trans h2⟩
section
variable{P:Program}{vj6:World}{vj1:Gh}{vj3:List (Nat×ah)}{G:Gh}{s:St}{a:Act}{w:World}
def qdq(tmps:Array Value)(x:ResultVar):Sem Value:=match x with|.tmp t=>pure (tmps.getD t undef)|.cell a t=>do loadVar t (← asAddr (tmps.getD a undef))
def zuc(fn:Func)(tmps:Array Value):results fn tmps=(do let vs ← fn.results.mapM (qdq tmps);pure (if h:vs.size=1 then vs[0] else .tuple vs)):=rfl
def zlv(hr:aj vj6 vj1 vj3 G s a w){x:ResultVar}{v:AV}(hq:q14 P s x=true)(h:qyq P s x=some v):∃u,(qdq a.tmps x).run P w = .ok u w/\ak v G u:=by
 cases x with
 |tmp t=>
  obtain⟨u,h1,h2⟩:=hr.frame t v h;exact⟨u,by simp[qdq,Array.getD_eq_getD_getElem?,h1],h2⟩
 |cell t T=>
  simp only[qyq]at h;split at h
  ·rename_i b off hb;split at h
   ·rename_i cs T' hc;obtain⟨u,h1,B,hB,rfl⟩:=hr.frame _ _ hb;obtain⟨B',vs,k1,k2,k3,_⟩:=hr.fin.mem.holds _ _ hc;rw[k1]at hB;injection hB with hB;subst hB
    obtain⟨z,hz,hrz⟩:=qds (P:=P) (w:=w) h (o:=0) k3 (fun j u hu=>by rw[wO];exact cell_of_heap k2 hu)
    rw[wO]at hz;exact⟨z,by simp[qdq,Array.getD_eq_getD_getElem?,h1,asAddr,hz],hrz⟩
   ·cases h
  ·rename_i k sz hb;split at h
   ·rename_i τ l E n hl hagg hn;simp only[q14,hb,hl,hn,decide_eq_true_eq]at hq;cases hbb:τ.is1&&Nat.beq sz 1<;>rw[hbb]at h<;>simp only[qT,qF,reduceCtorEq,qI]at h
    subst h;simp only[qA]at hbb;have hsz:τ.sz=1:=qdb hbb.1;obtain⟨u,h1,B,n0,c0,ho,rfl⟩:=hr.frame _ _ hb;obtain⟨ad,c',q1,q2⟩:=hr.fin.mem.holds _ _ hl;rw[ho]at q1;simp only[qI,qP]at q1;obtain⟨rfl,rfl,rfl⟩:=q1;rcases q2 with⟨q2,_⟩|⟨g,vs,fz,k1,k2,k3,k4,k5,k6,k7,k8,k9⟩
    ·cases q2
    ·simp only[qI,Addr.mk.injEq,and_true]at k1;subst k1;have hfl:(l.flatMap τ.enc).length=n:=by rw[ll,hsz,hq,Nat.mul_one]
     have hload:np P T (l.flatMap τ.enc) 0=some (.agg (l.flatMap τ.enc)):=by
      unfold np;rw[hagg,hn];have:Nat.ble (0+n) (l.flatMap τ.enc).length=true:=by rw[hfl,wO];simp
      simp only[this,qT,List.drop_zero];rw[List.take_of_length_le (by rw[hfl];exact wF _)]
     obtain⟨u,hu,us,rfl,hru⟩:=qds (P:=P) (w:=w) hload (B:=B) (o:=0) k7 (fun j u hu=>by
      rw[List.getElem?_take]at hu;split at hu
      ·rw[wO];exact cell_of_heap k2 hu
      ·cases hu)
     simp only[Nat.add_zero]at hu;refine⟨.agg us,by simp[qdq,Array.getD_eq_getD_getElem?,h1,asAddr,hu],?_⟩
     have:=q10 (G:=G) hbb.1 hru;simpa using this
   ·cases h
  ·cases h
def q8z(hr:aj vj6 vj1 vj3 G s a w):∀{xs:List ResultVar}{vs:List AV},qjm P s xs=true->qcc P s xs=some vs ->
  ∃us:List Value,(xs.mapM (qdq a.tmps)).run P w = .ok us w/\al vs G us
 |[],vs,_,h=>by simp only[qcc,qI]at h;subst h;exact⟨[],by simp,trivial⟩|x::xs,vs,hq,h=>by
  simp only[qjm,qA]at hq;simp only[qcc]at h;split at h
  ·rename_i v hv;split at h
   ·rename_i us hus;simp only[qI]at h;subst h;obtain⟨u,hu,hru⟩:=zlv hr hq.1 hv;obtain⟨us',hu',hru'⟩:=q8z hr hq.2 hus;refine⟨u::us',?_,hru,hru'⟩;rw[List.mapM_cons];simp only[Sem.run_bind,hu,Result.andThen_ok,hu',Sem.run_pure]
   ·cases h
  ·cases h
def zlw(hr:aj vj6 vj1 vj3 G s a w){fn:Func}{v:AV}(hq:qjm P s fn.results.toList=true)(h:qyr P fn s=some v):∃u,(results fn a.tmps).run P w = .ok u w/\ak v G u:=by
 unfold qyr at h;have key:∀vs,qcc P s fn.results.toList=some vs->∃us:List Value,(results fn a.tmps).run P w = .ok (if h:us.toArray.size=1 then us.toArray[0] else .tuple us.toArray) w/\al vs G us:=fun vs hv=>by
  obtain⟨us,h1,h2⟩:=q8z hr hq hv;refine⟨us,?_,h2⟩;rw[zuc,Array.mapM_eq_mapM_toList];simp only[Sem.run_bind,Sem.run_map,h1,Result.andThen_ok,Sem.run_pure]
 split at h
 ·rename_i vs hv;obtain⟨us,h1,h2⟩:=key _ hv;split at h
  ·simp only[qI]at h;subst h
   match us,h2 with|[u],h2=>exact⟨u,by rw[h1];rfl,h2.1⟩|[],h2=>exact h2.elim|_::_::_,h2=>exact h2.2.elim
  ·rename_i hne;simp only[qI]at h;subst h;refine⟨.tuple us.toArray,?_,us.toArray,rfl,by simpa using h2⟩
   rw[h1,dif_neg];intro he;have hl:=h2.length;simp at he;rw[he]at hl
   match vs,hl,hne with|[x],_,hne=>exact hne x rfl
 ·cases h
def aj.frzC{p:Pt}{b off:Nat}{s:St}{G:Gh}(hr:aj vj6 vj1 vj3 G s a w):∃G',aj vj6 vj1 vj3 G' (frzC p b off s) a w:=by
 unfold Sym.frzC;split
 ·exact hr.frzL
 ·exact⟨G,hr⟩
def aj.coR{bs:List (Nat×be)}:∀{xs:List ResultVar}{ps:List Pt}{s:St}{G:Gh},aj vj6 vj1 vj3 G s a w->∃G',aj vj6 vj1 vj3 G' (coR bs xs ps s) a w
 |[],_,s,G,hr=>⟨G,hr⟩|x::xs,ps,s,G,hr=>by
  unfold Sym.coR;split
  ·exact⟨G,hr⟩
  ·split
   ·obtain⟨G',hr'⟩:=hr.coF (bs:=bs) (l:=[(_,_)]);exact aj.coR hr'
   ·split
    ·obtain⟨G',hr'⟩:=hr.coB1 (bs:=bs);obtain⟨G2,hr2⟩:=hr'.frzC;exact aj.coR hr2
    ·exact aj.coR hr
def qo5(hr:aj vj6 vj1 vj3 G s a w){ids:NM}(hid:∀n bx,ae vj3 n=some bx->a6 ids n=some n){v:AV}{p:Pt}{hp:List (Nat×be)}{y:p.den×fy hp}(h:qo4 v ids p hp s=some y) :
  ∃G',Fin vj6 vj1 vj3 G' (ck hp y.2) w/\∀u,ak v G u->ak (p.put y.1) G' u:=by
 unfold qo4 at h;split at h
 ·rename_i d nm h1;split at h
  ·rename_i d' nm' h2;cases hq:d7 nm'&&th nm' hp<;>rw[hq]at h<;>simp only[qT,qF,reduceCtorEq]at h
   have h:=qJ h;subst h;simp only[qA]at hq;obtain⟨g1,g2⟩:=Pt.get_seen h1;obtain⟨b1,b2⟩:=yu h2;obtain⟨b3,_⟩:=b2 nm' hq.1 (cz.refl _);exact⟨G.view nm',hr.fin.fit hq.1 (fun n bx hb=>b1 _ _ (g1 _ _ (hid n bx hb))) b3,fun u hu=>(g2 nm' hq.1 b1).rep hu⟩
  ·cases h
 ·cases h
def qhx(P:Program)(fn:Func)(rv:Option AV)(a:Act)(w:World)(Q:Value->Prop):Prop:=
 match rv with|none=>∃u,(results fn a.tmps).run P w = .ok u w/\Q u|some x=>∀b,x = .val (.bool b)->Q (.bool b)
def zol(hr:aj vj6 vj1 vj3 G s a w){ids:NM}(hid:∀n bx,ae vj3 n=some bx->a6 ids n=some n){fn:Func}{rv:Option AV}{p:Pt}{hp:List (Nat×be)}{y:p.den×fy hp}(hq:qz0 P fn ids rv p hp s=true)(h:qzz P fn ids rv p hp s=some y) :
  qhx P fn rv a w fun u=>∃G',Fin vj6 vj1 vj3 G' (ck hp y.2) w/\ak (p.put y.1) G' u:=by
 unfold qzz at h;split at h
 ·rename_i x;obtain⟨G1,hr1⟩:=hr.coB (bs:=hp) (nm:=ids) (l:=hp);obtain⟨G',h1,h2⟩:=qo5 hr1 hid h;exact fun b e=>⟨G',h1,h2 _ (by subst e;rfl)⟩
 ·split at h
  ·rename_i v hv;obtain⟨G1,hr1⟩:=hr.coB (bs:=hp) (nm:=ids) (l:=hp);obtain⟨G2,hr2⟩:=hr1.coR (bs:=hp) (xs:=fn.results.toList) (ps:=qqc p);obtain⟨G',h1,h2⟩:=qo5 hr2 hid h;obtain⟨u,hu,hru⟩:=zlw hr2 hq hv;exact⟨u,hu,G',h1,h2 _ hru⟩
  ·cases h
def qhx.mono{fn:Func}{rv:Option AV}{Q Q':Value->Prop}(h:qhx P fn rv a w Q)(k:∀v,Q v->Q' v):qhx P fn rv a w Q':=by
 cases rv with
 |none=>obtain⟨u,h1,h2⟩:=h;exact⟨u,h1,k _ h2⟩
 |some x=>exact fun b e=>k _ (h b e)
def qo6(hr:aj vj6 vj1 vj3 G s a w){ids:NM}(hid:∀n bx,ae vj3 n=some bx->a6 ids n=some n){fn:Func}{rv:Option AV}:∀{α:Type}{enc:RS α}{x:α},enc.fin P fn ids rv s=some x ->
  qhx P fn rv a w fun u=>∃G',Fin vj6 vj1 vj3 G' (enc.res x).2 w/\ak (enc.res x).1 G' u
 |_,.one p hp tq fro ok,x,h=>by
  simp only[RS.fin]at h;cases hq:qz0 P fn ids rv p hp s<;>rw[hq]at h<;>simp only[qT,qF,reduceCtorEq]at h
  split at h
  ·rename_i y hy;have h:=qJ h;subst h;have:=zol (P:=P) hr hid hq hy;simp only[RS.res,ok];exact this
  ·cases h
 |_,.two l r,x,h=>by
  simp only[RS.fin]at h;split at h
  ·rename_i y hy;have h:=qJ h;subst h;have:=qo6 (enc:=l) hr hid hy;exact this
  ·split at h
   ·rename_i y hy;have h:=qJ h;subst h;have:=qo6 (enc:=r) hr hid hy;exact this
   ·cases h
def q9z:∀{ns:List Nat}{s s':St}{G:Gh}{a:Act}{w:World},s.df=ns->qig ns s=some s'->aj vj6 vj1 vj3 G s a w->∀(fr:Frame)(cs:List Frame),fr.mode = .returning->fr.defers=a.defers ->
  ∃w',aj vj6 vj1 vj3 G s' { a with defers:=[] } w'/\Steps P (lone fr cs w) (lone { fr with defers:=[] } cs w')
 |[],s,s',G,a,w,hd,h,hr,fr,cs,hm,hfd=>by
  simp only[qig,qI]at h;subst h;obtain⟨bs,h1,h2⟩:=hr.defers;rw[hd]at h2;have:bs=[]:=by cases bs with|nil=>rfl|cons _ _=>simp at h2
  subst this;refine⟨w,⟨⟨[],rfl,rfl⟩,hr.size,hr.frame,hr.fresh,hr.fin⟩,?_⟩;have e:({ fr with defers:=[] }:Frame)=fr:=by rw[← show fr.defers=[] by rw[hfd,h1];rfl]
  rw[e];exact .refl _ _
 |n::ns,s,s',G,a,w,hd,h,hr,fr,cs,hm,hfd=>by
  simp only[qig]at h;split at h
  ·rename_i hl;obtain⟨bs,h1,h2⟩:=hr.defers;rw[hd]at h2
   cases bs with
   |nil=>simp at h2|cons b bs=>
    simp only[List.map_cons,List.cons.injEq]at h2;obtain⟨B,k1,k2,k3⟩:=hr.fin.mem.holds n _ hl;rw[k1]at h2;obtain⟨e,h2⟩:=h2;injection e with e;subst e
    have hr1:=hr.setBox (bx' := .dead) (o := .deferred none) hl (show G.at n .dfr=some b from k1) (fun c hc=>by cases hc) trivial k3
    have hr2:aj vj6 vj1 vj3 G { s with hp:=(n,.dead)::s.hp,df:=ns } { a with defers:=bs.map (fun b=>{ target := .collected b,args:=#[] }) } (w.putObj b (.deferred none)):=
     ⟨⟨bs,rfl,h2⟩,hr1.size,hr1.frame,hr1.fresh,hr1.fin⟩
    have hs:=step_collected (P:=P) (cs:=cs) (fr:=fr) (by rw[hm];simp) (by rw[hfd,h1];rfl) rfl (run_takeDeferred k2)
    obtain⟨w',i1,i2⟩:=q9z (a:={ a with defers:=bs.map (fun b=>{ target := .collected b,args:=#[] }) }) rfl h hr2 { fr with defers:=[]++bs.map (fun b=>{ target := .collected b,args:=#[] }) } cs hm rfl
    exact⟨w',i1,(Steps.one hs).trans i2⟩
  ·cases h
end
structure Cx.Ok(cx:Cx)(body:Code):Prop where
 ents:∀e∈cx.tb.ents,e.Sound cx.P
 mixed:cx.P.follows .mixedOrders=true
 func:cx.P.funcs[cx.f]? = some cx.fn
 tags:∀p t,rm p cx.tags=some t->∀g ps x y,sub body p = .rangeFunc g ps x y->LC.lc t=some (x,y)
def qf(cx:Cx)(vj1:Gh)(vj3:List (Nat×ah))(b:Frame):Prop:=match cx.rd with|none=>b.roundOf=none|some m=>∃B bx,vj1.box m=some B/\ae vj3 m=some bx/\b.roundOf=some B
section
variable{vj6:World}{vj1:Gh}{vj3:List (Nat×ah)}{G:Gh}{s:St}{a:Act}{w:World}
def zvb{P:Program}(fn:FuncId)(tmps:Array Value)(ps:Array Tmp)(asn bo:Code){l:Nat}{r:Loop}(h:w.heap[l]? = some (.loop r)) :
  (Instr.enterLoop fn tmps ps asn bo (some l)).run P w = .ok (w.heap.size,[]) (w.alloc (.loop { state := .ready,pending:=none,fn,tmps,params:=ps,assign:=asn,body:=bo,defers:=r.defers })):=by
 unfold Instr.enterLoop;simp only[Sem.run_bind,run_getLoop h,run_newObj_alloc,Result.andThen,Sem.run_pure]
def zcd(hr:aj vj6 vj1 vj3 G s a w){k D DB:Nat}{f:FuncId}{ps:Array Tmp}{tag:Nat}{asn bo:Code}(htag:LC.lc tag=some (asn,bo))(hk:ae s.hp k=none)(hkx:s.nx<=k)(hD:G.box D=some DB)(hne:D≠k) :
  aj vj6 vj1 vj3 (G.addBox k w.heap.size) { s with hp:=(k,.loop .ready none f s.n s.fr ps.toList tag D)::s.hp } a (w.alloc (.loop { state := .ready,pending:=none,fn:=f,tmps:=a.tmps,params:=ps,assign:=asn,body:=bo,defers:=DB })):=by
 have hle:G.le (G.addBox k w.heap.size):=Gh.addBox_le (hr.fresh k hkx hk).1;refine hr.newBox hk hkx (fun b hb => ?_) ⟨w.heap.size,a.tmps,DB,Gh.addBox_self,by rw[Gh.addBox_ne hne];exact hD,⟨asn,bo,htag,?_⟩,hr.size,fun i x hx => ?_,fun o => ?_⟩
 ·have hb:(G.addBox k w.heap.size).box k=some b:=hb;rw[Gh.addBox_self]at hb;injection hb with hb;exact hb.symm
 ·rw[pd];simp
 ·obtain⟨v,h1,h2⟩:=hr.frame i x hx;exact⟨v,h1,h2.le hle⟩
 ·cases hq:(G.addBox k w.heap.size).imm w.heap.size o with
  |none=>rfl|some v=>
   have:=World.block_lt_of_cell? _ _ (hr.fin.mem.agree _ _ _ hq);simp at this
def aj.nx(hr:aj vj6 vj1 vj3 G s a w){k:Nat}(h:s.nx<=k):aj vj6 vj1 vj3 G { s with nx:=k } a w:=⟨hr.defers,hr.size,hr.frame,fun m hm hl=>hr.fresh m (Nat.le_trans h hm) hl,hr.fin⟩
def zof(hr:aj vj6 vj1 vj3 G s a w){cx:Cx}{ps:Array Tmp}{tag:Nat}{asn bo:Code}(htag:LC.lc tag=some (asn,bo)){s1:St}(h:s.enterRF cx.f ps.toList tag cx.rd=some s1){b:Frame}(hb:b.fn=cx.f)(hrd:qf cx vj1 vj3 b) :
  ∃G1 l mark w1,(Instr.enterLoop b.fn a.tmps ps asn bo b.roundOf).run cx.P w = .ok (l,mark) w1/\G1.box s.nx=some l/\G.le G1/\aj vj6 vj1 vj3 G1 s1 { a with defers:=mark++a.defers } w1/\s1.nx=s.nx+32:=by
 unfold St.enterRF at h;cases hn:a8 s.nx s.hp<;>rw[hn]at h<;>simp only[qT,qF,reduceCtorEq]at h
 have hk0:=lx hn s.nx (wF _) (by omega)
 have hk1:=lx hn (s.nx+1) (by omega) (by omega)
 unfold qf at hrd;split at h
 ·rename_i hc;rw[hc]at hrd;simp only at hrd;simp only[qI]at h;subst h;have hr1:=hr.newBox (k:=s.nx+1) (bx := .dfr) (o := .deferred (some [])) hk1 (by omega) (fun b hb=>by
   have hb:(G.addBox (s.nx+1) w.heap.size).box (s.nx+1)=some b:=hb;rw[Gh.addBox_self]at hb;injection hb with hb;exact hb.symm)
   ⟨w.heap.size,Gh.addBox_self,pd _ _,fun o=>by
    cases hq:(G.addBox (s.nx+1) w.heap.size).imm w.heap.size o with
    |none=>rfl|some v=>
     have:=World.block_lt_of_cell? _ _ (hr.fin.mem.agree _ _ _ hq);simp at this⟩
  have hk0':ae ((s.nx+1,ah.dfr)::s.hp) s.nx=none:=by
   simp only[ae];have:Nat.beq (s.nx+1) s.nx=false:=by
    cases hq:Nat.beq (s.nx+1) s.nx
    ·rfl
    ·have:=qN hq;omega
   rw[this];exact hk0
  have hr2:=zcd hr1 (k:=s.nx) (D:=s.nx+1) (f:=cx.f) (ps:=ps) htag hk0' (wF _) Gh.addBox_self (by omega)
  have hle1:G.le (G.addBox (s.nx+1) w.heap.size):=Gh.addBox_le (hr.fresh (s.nx+1) (by omega) hk1).1
  have hle2:(G.addBox (s.nx+1) w.heap.size).le ((G.addBox (s.nx+1) w.heap.size).addBox s.nx (w.alloc (.deferred (some []))).heap.size):=Gh.addBox_le (hr1.fresh s.nx (wF _) hk0').1;refine⟨_,w.heap.size+1,[{ target := .collected w.heap.size,args:=#[] }],_,by rw[hrd,hb];exact run_enterLoop_outer _ _ _ _ _,?_,hle1.trans hle2,?_,rfl⟩
  ·rw[Gh.addBox_self,World.size_alloc]
  ·have hr3:=hr2.nx (k:=s.nx+32) (by show s.nx<=_;omega)
   refine⟨?_,hr3.size,hr3.frame,hr3.fresh,hr3.fin⟩;obtain⟨bs,h1,h2⟩:=hr3.defers;refine⟨w.heap.size::bs,by rw[h1];rfl,?_⟩
   simp only[List.map_cons,List.cons.injEq];refine⟨?_,h2⟩;rw[Gh.addBox_ne (by omega),Gh.addBox_self]
 ·rename_i m hc;rw[hc]at hrd;simp only at hrd;obtain⟨B,bx0,e1,e2,e3⟩:=hrd;split at h
  ·rename_i D hm;simp only[qI]at h;subst h;obtain⟨B',tmps,DB,k1,k2,⟨asn',bo',_,k3⟩,_⟩:=hr.fin.mem.holds _ _ hm;have:=hr.fin.keep m bx0 B e2 e1;rw[this]at k1;injection k1 with k1;subst k1
   have hne:D≠s.nx:=fun e=>by subst e;rw[(hr.fresh _ (wF _) hk0).1]at k2;cases k2
   have hr2:=zcd hr (k:=s.nx) (D:=D) (f:=cx.f) (ps:=ps) htag hk0 (wF _) k2 hne;have hle2:G.le (G.addBox s.nx w.heap.size):=Gh.addBox_le (hr.fresh s.nx (wF _) hk0).1;refine⟨_,w.heap.size,[],_,by rw[e3,hb];exact zvb _ _ _ _ _ k3,Gh.addBox_self,hle2,?_,rfl⟩
   exact hr2.nx (k:=s.nx+32) (by show s.nx<=_;omega)
  ·cases h
end
def q0g:Option du->List Item|none=>[]|some j=>[.code j.code]
section
variable{vj6:World}{vj1:Gh}{vj3:List (Nat×ah)}{G:Gh}{s:St}{a:Act}{w:World}{cx:Cx}{body:Code}{R:Type}
def zes(ok:cx.Ok body)(hr:aj vj6 vj1 vj3 G s a w){p:List Nat}{g:Operand}{ps:Array Tmp}{asn bo:Code}(hsub:sub body p = .rangeFunc g ps asn bo){q:Rq×St×List AV}(hq:qqi cx p g ps.toList s=some q)
  {K:Option du->St->Option R} {x:R} (h:qqj s.nx q K=some x) {b:Frame} (cs:List Frame) (hb:b.fn=cx.f) (_hkind:b.kind = .normal) (hrd:qf cx vj1 vj3 b) (k:List Item) :
  ∃j s' G' a' w',K j s'=some x/\aj vj6 vj1 vj3 G' s' a' w'/\Steps cx.P (lone (b.atR a (.code (.rangeFunc g ps asn bo)::k)) cs w) (lone (b.atR a' (q0g j++k)) cs w'):=by
 unfold qqi at hq;split at hq
 ·rename_i tag h0 cap ht hg;split at hq
  ·rename_i s1 hs1;split at hq
   ·rename_i q1 hq1;have hq:=qJ hq;subst hq;obtain⟨G1,l,mark,w1,he,hl,hle,hr1,hnx⟩:=zof hr (ok.tags p tag ht g ps asn bo hsub) hs1 hb hrd;unfold qqj at h;obtain⟨d,hd,h⟩:=Rq.K_some h;simp only at h hd;obtain⟨e,hemem,hc⟩:=y9 hq1;unfold qie at hc;cases hkk:rh h0 e.key<;>rw[hkk]at hc<;>simp only[qT,qF,reduceCtorEq]at hc
    obtain⟨N,x1,x1',y,k1,k2,k3,k4,k5,k6⟩:=qp1 hc hd;subst k2;have hs:=ok.ents e hemem x1 x1' y k1;rw[q0i hkk]at hs;obtain⟨hpl,hct⟩:=hs;unfold zer at h;simp only at h;cases hbb:d7 N&&qt N&&a8 s1.nx s1.hp<;>rw[hbb]at h<;>simp only[qT,qF,reduceCtorEq]at h
    simp only[qA]at hbb;obtain⟨⟨hb1,_⟩,hb2⟩:=hbb
    cases hv:io (ax N) s1.hp N with
    |none=>rw[hv]at h;simp only[reduceCtorEq]at h|some hpv=>
    cases hvs:bj false [] (AV.rens (ax N) (.yld s.nx::cap)) (Pts.put e.args x1) with
    |none=>rw[hv,hvs]at h;simp only[reduceCtorEq]at h|some ps1=>
    rw[hv,hvs]at h;simp only at h
    cases hvw:jt hpv (ck e.hp x1') with
    |none=>rw[hvw]at h;simp only[reduceCtorEq]at h|some ps2=>
    rw[hvw]at h;simp only at h;have p1:=k5 _ hvs;have p2:=k6 _ _ hv hvw;obtain⟨fs,cps,hge,hfs,hcs⟩:=bm hr hg;have hfs0:fs=#[]:=Array.eq_empty_of_size_eq_zero (by simpa using hfs.length.symm)
    subst hfs0;have hge':({ a with defers:=mark++a.defers }:Act).eval g = .func (.func h0) #[] cps:=hge
    have hres:(resolve a.eval (rangeCall g l) 0).run cx.P w1 = .ok { target := .fn (.func h0) cps,args:=#[.func (.yield l) #[] #[]] } w1:=by
     have hy:a.eval (.const (.func (.yield l) #[] #[])) = .func (.yield l) #[] #[]:=rfl;simp[resolve,hge,Deferred.ofValue,hy]
    have hinv:(invoke (.fn (.func h0) cps) #[.func (.yield l) #[] #[]]).run cx.P w1 = .ok (.enter h0 (#[.func (.yield l) #[] #[]]++cps)) w1:=by
     simp[invoke,hpl _ w1]
    have henter:=stepR_rangeFunc (P:=cx.P) (b:=b) (a:=a) (k:=k) (cs:=cs) he hres hinv;have hreps:al (.yld s.nx::cap) G1 (.func (.yield l) #[] #[]::cps.toList):=⟨⟨l,hl,rfl⟩,hcs.le hle⟩;have hm:cn (G1.view N) (ck e.hp x1') w1:=(hr1.fin.mem.view hv (qcz hb1)).vw hvw p2;have hreps2:=kh (Gh.le.refl _) (fun e=>by cases e) hvs p1 (al.ren (G:=G1) (G':=G1.view N) (fun _ _ _ h=>h) (sh N) (ug N) hreps)
    have hcalls:=hct w1 (G1.view N) _ hm hreps2;have e1:(Value.func (.yield l) #[] #[]::cps.toList).toArray=#[.func (.yield l) #[] #[]]++cps:=by simp
    rw[e1]at hcalls;obtain⟨en,w2,fr,hpost,hcomes,hfrfn,hleave⟩:=hcalls (b.atR { a with defers:=mark++a.defers } (.inRangeFunc l::k)::cs)
    obtain⟨G2,v,rfl,_,hle2,hr2⟩:=zcn hr1 hb1 hb2 (wF _) hv hvw p2 hpost;have hsteps:Steps cx.P (lone (b.atR a (.code (.rangeFunc g ps asn bo)::k)) cs w) (lone (b.atR { a with defers:=mark++a.defers } (.endRangeFunc l::k)) cs w2):=by
     refine(Steps.one henter).trans (Steps.trans hcomes (.one ?_));rw[← finish_atR_inRangeFunc l v];exact step_leave_returned hleave
    split at h
    ·rename_i st pe f' n' fr' ps' tag' D' hlk;cases hnb:zc0 st<;>rw[hnb]at h<;>simp only[qT,qF,reduceCtorEq]at h
     obtain⟨B,tmps,DB,i1,i2,⟨asn',bo',_,i3⟩,i4,i5,i6⟩:=hr2.fin.mem.holds _ _ hlk;have:=hle2.box _ _ hl;rw[this]at i1;injection i1 with i1;subst i1
     have hend:=run_endLoop (P:=cx.P) i3 (by intro e;simp only at e;subst e;cases hnb)
     have hst:=stepR_endRangeFunc (b:=b) (a:={ a with defers:=mark++a.defers }) (k:=k) (cs:=cs) hend
     have e2:(Option.map Item.code (Option.map du.code pe)).toList=q0g pe:=by cases pe<;>rfl
     rw[e2]at hst;exact⟨pe,_,G2,{ a with defers:=mark++a.defers },_,h,(hr2.nx (k:=s1.nx+32) (Nat.le_add_right _ _)).setBox (bx' := .dead) hlk (show G2.at s.nx (.loop st pe f' n' fr' ps' tag' D')=some l from this) (fun c hc=>by cases hc) trivial i6,hsteps.trans (.one hst)⟩
    ·cases h
   ·cases hq
  ·cases hq
 ·cases hq
def zuh(ok:cx.Ok body)(hr:aj vj6 vj1 vj3 G s a w){p:List Nat}{g:Operand}{ps:Array Tmp}{asn bo:Code}(hsub:sub body p = .rangeFunc g ps asn bo)
  {K:Option du->St->Option R} {x:R} (h:rfR cx p g ps.toList s K=some x) {b:Frame} (cs:List Frame) (hb:b.fn=cx.f) (hkind:b.kind = .normal) (hrd:qf cx vj1 vj3 b) (k:List Item) :
  ∃j s' G' a' w',K j s'=some x/\aj vj6 vj1 vj3 G' s' a' w'/\Steps cx.P (lone (b.atR a (.code (.rangeFunc g ps asn bo)::k)) cs w) (lone (b.atR a' (q0g j++k)) cs w'):=by
 unfold rfR at h;split at h
 ·rename_i q hq;exact zes ok hr hsub hq h cs hb hkind hrd k
 ·split at h
  ·rename_i s' hs';have:∃G',aj vj6 vj1 vj3 G' s' a w:=by
    unfold zet at hs';split at hs'
    ·split at hs'
     ·split at hs'
      ·have hs':=qJ hs';subst hs';obtain⟨G1,hr1⟩:=hr.frzL;exact hr1.coB
      ·cases hs'
     ·cases hs'
    ·cases hs'
   obtain⟨G',hr'⟩:=this;split at h
   ·rename_i q hq;exact zes ok hr' hsub hq h cs hb hkind hrd k
   ·cases h
  ·cases h
def jj(cx:Cx)(vj3:List (Nat×ah)){R:Type}(enc:RS R)(k:List Item)(s:St)(r:R):Prop:=
 ∀(vj6:World)(vj1 G:Gh)(a:Act)(w:World),aj vj6 vj1 vj3 G s a w->∀(b:Frame)(cs:List Frame),b.fn=cx.f->b.kind = .normal->qf cx vj1 vj3 b ->
  w6 cx.P b.roundOf cx.f (lone (b.atR a k) cs w) cs fun v w'=>∃G',Fin vj6 vj1 vj3 G' (enc.res r).2 w'/\ak (enc.res r).1 G' v
def qsf(cx:Cx)(j:Option du)(k:List Item):Prop:=match j with|none=>k=[]|some .ret=>∃k',k = .code .ret::k'|some (.exit id)=>cx.rd≠none/\∃k',k = .code (.exit id)::k'/\exitTo id k'=none
def qou(ok:cx.Ok body)(hid:∀n bx,ae vj3 n=some bx->a6 cx.ids n=some n){enc:RS R}{j:Option du}{r:R}{k:List Item}(hk:qsf cx j k)(h:nr cx enc j s=some r):jj cx vj3 enc k s r:=by
 intro vj6 vj1 G a w hr b cs hb hkind hrd;unfold nr at h;unfold qf at hrd;split at h
 ·rename_i hrdn;rw[hrdn]at hrd;simp only at hrd;split at h
  ·rename_i s' hs';have h1:Steps cx.P (lone (b.atR a k) cs w) (lone { b.atR a k with mode := .returning } cs w):=by
    cases j with
    |none=>simp only[qsf]at hk;subst hk;exact .one (stepR_end hrd)|some j=>cases j with
     |ret=>obtain⟨k',rfl⟩:=hk;exact .one (stepR_ret hrd)
     |exit id=>exact absurd hrdn hk.1
   obtain⟨w',i1,i2⟩:=q9z (P:=cx.P) rfl hs' hr { b.atR a k with mode := .returning } cs rfl rfl
   obtain⟨u,u1,u2⟩:=qo6 (P:=cx.P) i1 hid h;rw[hrd];exact⟨u,w',_,u2,h1.trans i2,hb,rfl,rfl,hkind,cx.fn,by rw[← ok.func,← hb];rfl,u1⟩
  ·cases h
 ·rename_i m hrdm;rw[hrdm]at hrd;simp only at hrd;obtain⟨B,bx0,e1,e2,e3⟩:=hrd;cases hd:s.noDf<;>rw[hd]at h<;>simp only[qT,qF,reduceCtorEq]at h
  split at h
  ·rename_i st pe f n fr ps tag D hl;obtain⟨B',tmps,DB,i1,i2,⟨asn,bo,i3,i4⟩,i5,i6,i7⟩:=hr.fin.mem.holds _ _ hl;have:=hr.fin.keep m bx0 B e2 e1;rw[this]at i1;injection i1 with i1;subst i1
   have hend:=run_endRound (P:=cx.P) (j.map du.code) i4;have hiso:(j.map du.code).isNone=tx j:=by cases j<;>rfl
   rw[hiso]at hend;have hst:(if tx j=true then LoopState.ready else LoopState.done)=(bif tx j then LoopState.ready else LoopState.done):=by cases tx j<;>rfl
   rw[hst]at hend;have hr2:=hr.setBox (bx' := .loop (bif tx j then .ready else .done) j f n fr ps tag D) (o := .loop { state:=bif tx j then .ready else .done,pending:=j.map du.code,fn:=f,tmps:=tmps,params:=ps.toArray,assign:=asn,body:=bo,defers:=DB }) hl (show G.box m=some B from this)
    (fun c hc=>by have hc:G.box m=some c:=hc;rw[this]at hc;injection hc with hc;exact hc.symm)
    ⟨B,tmps,DB,this,i2,⟨asn,bo,i3,by rw[World.putObj_heap_same (Array.getElem?_eq_some_iff.1 i4).1]⟩,i5,i6,i7⟩ i7
   have hfin:=qo6 (P:=cx.P) hr2 hid h;rw[e3];intro c cs' hcs;subst hcs;refine⟨.bool (tx j),_,hfin _ rfl,.one ?_⟩
   cases j with
   |none=>simp only[qsf]at hk;subst hk;exact stepR_round_end e3 hkind hend|some j=>cases j with
    |ret=>obtain⟨k',rfl⟩:=hk;exact stepR_round_ret e3 hkind hend
    |exit id=>obtain⟨_,k',rfl,hx⟩:=hk;exact stepR_round_exit e3 hkind hx hend
  ·cases h
end
section
variable{vj3:List (Nat×ah)}{s:St}{cx:Cx}{body:Code}{R:Type}{enc:RS R}
def jj.via{k k':List Item}{s':St}{r:R}(h:jj cx vj3 enc k' s' r)(hs:∀vj6 vj1 G a w,aj vj6 vj1 vj3 G s a w->∀(b:Frame)(cs:List Frame),b.fn=cx.f->b.kind = .normal->qf cx vj1 vj3 b ->
  ∃G' a' w',aj vj6 vj1 vj3 G' s' a' w'/\Steps cx.P (lone (b.atR a k) cs w) (lone (b.atR a' k') cs w')):jj cx vj3 enc k s r:=by
 intro vj6 vj1 G a w hr b cs hb hk hrd;obtain⟨G',a',w',h1,h2⟩:=hs vj6 vj1 G a w hr b cs hb hk hrd;exact(h vj6 vj1 G' a' w' h1 b cs hb hk hrd).head h2
def jj.one{k k':List Item}{r:R}(h:jj cx vj3 enc k' s r)(hs:∀(a:Act)(w:World)(b:Frame)(cs:List Frame),step cx.P (lone (b.atR a k) cs w) = .next (lone (b.atR a k') cs w)):jj cx vj3 enc k s r:=
 h.via fun _ _ G a w hr b cs _ _ _=>⟨G,a,w,hr,.one (hs a w b cs)⟩
def qe(cx:Cx)(vj3:List (Nat×ah)){R:Type}(enc:RS R)(body:Code)(l:fc R):Prop:=∀d r,l.F d=some r->jj cx vj3 enc (eh (mq body l.key)) (l.ls.st d) r
def q1n{ids:NM}{s:St}{k:List d6}:∀{ls:List (fc R)}{l:fc R},zo ids s k ls=some l->l∈ls/\qc1 l.key k=true
 |[],_,h=>by cases h
 |x::xs,l,h=>by
  simp only[zo]at h;cases hb:qc1 x.key k<;>rw[hb]at h<;>simp only[qT,qF]at h
  ·obtain⟨h1,h2⟩:=q1n h;exact⟨qE _ h1,h2⟩
  ·split at h
   ·simp only[qI]at h;subst h;exact⟨qH,hb⟩
   ·rename_i l' hl;split at h
    ·simp only[qI]at h;subst h;exact⟨qH,hb⟩
    ·simp only[qI]at h;subst h;obtain⟨h1,h2⟩:=q1n hl;exact⟨qE _ h1,h2⟩
def zda{i:d6}{k:List d6}(h:∀x∈i::k,x.Ok body):i.Ok body/\∀x∈k,x.Ok body:=⟨h _ qH,fun x hx=>h x (qE _ hx)⟩
def li{i:d6}{k:List d6}(h:i.Ok body)(k':∀x∈k,x.Ok body):∀x∈i::k,x.Ok body:=fun x hx=>by
 rcases List.mem_cons.1 hx with rfl|hx
 ·exact h
 ·exact k' x hx
def znf{kd:Nat}{p:List Nat}{c:Code}(h:(d6.mk kd p (.code c)).Ok body):sub body p=c:=zqa h
def qm{p:List Nat}{c:Code}(i:Nat){x:Code}(h:sub body p=c)(hc:lh i c=x):(d6.mk 0 (i::p) (.code x)).Ok body:=by
 show Item.code x = .code (lh i (sub body p));rw[h,hc]
def zmn{p:List Nat}{id:Nat}{x:Code}(h:sub body p = .block id x):(d6.mk 1 p (.inBlock id)).Ok body:=by
 show Item.inBlock id=(match sub body p with | .block id _ => .inBlock id|c => .code c)
 rw[h]
def zcc{p:List Nat}{x:Code}(h:sub body p = .loop x):(d6.mk 2 p (.inLoop x)).Ok body:=by
 show Item.inLoop x=(match sub body p with | .loop x => .inLoop x|c => .code c)
 rw[h]
def zv3{P:Program}{b:Frame}{a:Act}{k:List Item}{cs:List Frame}{w:World}{x:Code}:step P (lone (b.atR a (.inScope x::k)) cs w) = .next (lone (b.atR a k) cs w):=
 step_lone_go (by simp[stepG,stepG.exec,Frame.atR])
def zv4{P:Program}{b:Frame}{a:Act}{k:List Item}{cs:List Frame}{w:World}{c:Code} :
  step P (lone (b.atR a (.code (.scope c)::k)) cs w) = .next (lone (b.atR a (.code c :: .inScope c::k)) cs w):=
 step_lone_go (by simp[stepG,stepG.exec,Frame.atR])
def zvs{p:List Nat}{x:Code}(h:sub body p = .scope x):(d6.mk 3 p (.inScope x)).Ok body:=by
 show Item.inScope x=(match sub body p with | .scope x => .inScope x|c => .code c)
 rw[h]
def qzv{id:Nat}:∀{k:List d6},pa id k=none->(∀i∈k,i.Ok body)->exitTo id (eh k)=none
 |[],_,_=>rfl|⟨kd,p,it⟩::k,h,hk=>by
  simp only[pa]at h;have hk':=(zda hk).2;split at h
  ·rename_i id';split at h
   ·cases h
   ·rename_i he;simp only[eh,exitTo];rw[qW he];exact qzv h hk'
  ·rename_i hne;have:=qzv h hk';simp only[eh];cases it<;>first
    |(exfalso;exact hne _ rfl)
    |(simp only[exitTo];exact this)
abbrev IH(cx:Cx)(vj3:List (Nat×ah)){R:Type}(enc:RS R)(body:Code)(labs:List (fc R))(n:Nat):Prop:=
 ∀(chk:Bool)(k:List d6)(s:St)(r:R),(∀i∈k,i.Ok body)->run cx enc labs n chk k s=some r->jj cx vj3 enc (eh k) s r
def zt(cx:Cx){R:Type}(enc:RS R)(labs:List (fc R))(n:Nat)(p:List Nat)(k':List d6)(s:St)(c:Code):Option R:=match c with
 |.skip=>run cx enc labs n true k' s|.label _=>run cx enc labs n true k' s|.seq x y=>run cx enc labs n true (⟨0,0::p,.code x⟩::⟨0,1::p,.code y⟩::k') s|.cond c x y=>match s.ev c with|some (.bool b)=>bif b then run cx enc labs n true (⟨0,0::p,.code x⟩::k') (s.know c true) else run cx enc labs n true (⟨0,1::p,.code y⟩::k') (s.know c false)|some (.val (.bool b))=>bif b then run cx enc labs n true (⟨0,0::p,.code x⟩::k') s else run cx enc labs n true (⟨0,1::p,.code y⟩::k') s|_=>none
 |.block id x=>run cx enc labs n true (⟨0,0::p,.code x⟩::⟨1,p,.inBlock id⟩::k') s|.loop x=>run cx enc labs n true (⟨0,0::p,.code x⟩::⟨2,p,.inLoop x⟩::k') s|.scope x=>run cx enc labs n true (⟨0,0::p,.code x⟩::⟨3,p,.inScope x⟩::k') s|.exit id=>match pa id k' with
  |some k''=>run cx enc labs n true k'' s|none=>match cx.rd with|some _=>nr cx enc (some (.exit id)) s|none=>none
 |.region _ ops d=>bif d then qzo cx.P cx.tb ops s (fun s'=>run cx enc labs n true k' s'.bump) else zm cx.P cx.tb ops ops.toList s (fun s'=>run cx enc labs n true k' s'.bump)
 |.ret=>nr cx enc (some .ret) s|.rangeFunc g ps _ _=>rfR cx p g ps.toList s fun j s'=>match j with
  |none=>run cx enc labs n true k' s'|some .ret=>nr cx enc (some .ret) s'|some (.exit id)=>match pa id k' with
   |some k''=>run cx enc labs n true k'' s'|none=>match cx.rd with|some _=>nr cx enc (some (.exit id)) s'|none=>none
 |_=>none
def zva{labs:List (fc R)}{n:Nat}(ih:IH cx vj3 enc body labs n){p:List Nat}{k':List d6}{c:Operand}{x y:Code}{r:R}(hsub:sub body p = .cond c x y)(hk':∀i∈k',i.Ok body)(h:zt cx enc labs n p k' s (.cond c x y)=some r):jj cx vj3 enc (.code (.cond c x y)::eh k') s r:=by
 unfold zt at h;simp only at h;split at h
 ·rename_i t ht;cases t<;>simp only[qT,qF]at h
  ·refine(ih true _ _ r (li (qm 1 hsub rfl) hk') h).via fun vj6 vj1 G a w hr b cs _ _ _ => ?_
   have he:a.eval c = .bool false:=bm hr ht;exact⟨G,a,w,hr.know he,.one (stepR_cond he)⟩
  ·refine(ih true _ _ r (li (qm 0 hsub rfl) hk') h).via fun vj6 vj1 G a w hr b cs _ _ _ => ?_
   have he:a.eval c = .bool true:=bm hr ht;exact⟨G,a,w,hr.know he,.one (stepR_cond he)⟩
 ·rename_i t ht;cases t<;>simp only[qT,qF]at h
  ·refine(ih true _ _ r (li (qm 1 hsub rfl) hk') h).via fun vj6 vj1 G a w hr b cs _ _ _ => ?_
   have he:a.eval c = .bool false:=bm hr ht;exact⟨G,a,w,hr,.one (stepR_cond he)⟩
  ·refine(ih true _ _ r (li (qm 0 hsub rfl) hk') h).via fun vj6 vj1 G a w hr b cs _ _ _ => ?_
   have he:a.eval c = .bool true:=bm hr ht;exact⟨G,a,w,hr,.one (stepR_cond he)⟩
 ·cases h
def zvg(ok:cx.Ok body){labs:List (fc R)}{n:Nat}(ih:IH cx vj3 enc body labs n){p:List Nat}{k':List d6}{id:Nat}{ops:Array Oper}{d:Bool}{r:R}(hk':∀i∈k',i.Ok body)(h:zt cx enc labs n p k' s (.region id ops d)=some r):jj cx vj3 enc (.code (.region id ops d)::eh k') s r:=by
 unfold zt at h;simp only at h;cases d<;>simp only[qT,qF]at h
 ·intro vj6 vj1 G a w hr b cs hb hkd hrd;have hops:=zdg (P:=cx.P) (ops:=ops) ok.ents (N:=fun a' w'=>w6 cx.P b.roundOf cx.f (lone (b.atR a' (eh k')) cs w') cs fun v w'=>∃G',Fin vj6 vj1 vj3 G' (enc.res r).2 w'/\ak (enc.res r).1 G' v)
   (fun s' h' G' a' w' hr'=>ih true k' s'.bump r hk' h' vj6 vj1 G' a' w' hr'.bump b cs hb hkd hrd) ops.toList 0 s G a w (fun j hj=>by simp) h hr
  have e:List.range' 0 ops.toList.length=List.range ops.size:=by simp[List.range_eq_range']
  rw[e]at hops;obtain⟨a',w',h1,h2⟩:=znq (id:=id) hops b (eh k') cs hkd;exact h1.head h2
 ·intro vj6 vj1 G a w hr b cs hb hkd hrd;obtain⟨a',w',h1,h2⟩:=zn6 (P:=cx.P) ok.ents ok.mixed h (N:=fun a' w'=>w6 cx.P b.roundOf cx.f (lone (b.atR a' (eh k')) cs w') cs fun v w'=>∃G',Fin vj6 vj1 vj3 G' (enc.res r).2 w'/\ak (enc.res r).1 G' v)
   (fun s' h' G' a' w' hr'=>ih true k' s'.bump r hk' h' vj6 vj1 G' a' w' hr'.bump b cs hb hkd hrd) hr id b (eh k') cs hkd
  exact h1.head h2
def zfd(ok:cx.Ok body)(hid:∀n bx,ae vj3 n=some bx->a6 cx.ids n=some n){labs:List (fc R)}{n:Nat}(ih:IH cx vj3 enc body labs n){k':List d6}{id:Nat}{r:R}(hk':∀i∈k',i.Ok body)
  (h:(match pa id k' with
   |some k''=>run cx enc labs n true k'' s|none=>match cx.rd with
    |some _=>nr cx enc (some (.exit id)) s| none=>none)=some r):jj cx vj3 enc (.code (.exit id)::eh k') s r:=by
 split at h
 ·rename_i k'' hx;obtain⟨h1,h2⟩:=qzw hx;exact(ih true k'' s r (fun i hi=>hk' i (h2 i hi)) h).one fun a w b cs=>stepR_exit h1
 ·rename_i hx;split at h
  ·rename_i m hm;exact qou ok hid (j:=some (.exit id)) ⟨by rw[hm];simp,_,rfl,qzv hx hk'⟩ h
  ·cases h
def zvf(ok:cx.Ok body)(hid:∀n bx,ae vj3 n=some bx->a6 cx.ids n=some n){labs:List (fc R)}{n:Nat}(ih:IH cx vj3 enc body labs n){p:List Nat}{k':List d6}{g:Operand}{ps:Array Tmp}{asn bo:Code}{r:R}(hsub:sub body p = .rangeFunc g ps asn bo)(hk':∀i∈k',i.Ok body)
  (h:zt cx enc labs n p k' s (.rangeFunc g ps asn bo)=some r):jj cx vj3 enc (.code (.rangeFunc g ps asn bo)::eh k') s r:=by
 unfold zt at h;simp only at h;intro vj6 vj1 G a w hr b cs hb hkd hrd;obtain⟨j,s',G',a',w',h1,h2,h3⟩:=zuh ok hr hsub h cs hb hkd hrd (eh k');refine w6.head h3 ?_
 cases j with
 |none=>exact ih true k' s' r hk' h1 vj6 vj1 G' a' w' h2 b cs hb hkd hrd|some j=>cases j with|ret=>exact qou ok hid (j:=some .ret) (k := .code .ret::eh k') ⟨_,rfl⟩ h1 vj6 vj1 G' a' w' h2 b cs hb hkd hrd|exit id=>exact zfd ok hid ih hk' h1 vj6 vj1 G' a' w' h2 b cs hb hkd hrd
def zu9(ok:cx.Ok body)(hid:∀n bx,ae vj3 n=some bx->a6 cx.ids n=some n){labs:List (fc R)}{n:Nat}(ih:IH cx vj3 enc body labs n){kd:Nat}{p:List Nat}{k':List d6}{c:Code}{r:R}(hi:(d6.mk kd p (.code c)).Ok body)(hk':∀i∈k',i.Ok body)
  (h:zt cx enc labs n p k' s c=some r):jj cx vj3 enc (.code c::eh k') s r:=by
 have hsub:=znf hi
 cases c with
 |skip=>exact(ih true k' s r hk' h).one fun a w b cs=>stepR_skip
 |label l=>exact(ih true k' s r hk' h).one fun a w b cs=>stepR_label
 |seq x y=>exact(ih true _ s r (li (qm 0 hsub rfl) (li (qm 1 hsub rfl) hk')) h).one fun a w b cs=>stepR_seq
 |cond c x y=>exact zva ih hsub hk' h|block id x=>exact(ih true _ s r (li (qm 0 hsub rfl) (li (zmn hsub) hk')) h).one fun a w b cs=>stepR_block
 |loop x=>exact(ih true _ s r (li (qm 0 hsub rfl) (li (zcc hsub) hk')) h).one fun a w b cs=>stepR_loop
 |scope x=>exact(ih true _ s r (li (qm 0 hsub rfl) (li (zvs hsub) hk')) h).one fun a w b cs=>zv4
 |exit id=>exact zfd ok hid ih hk' h|region id ops d=>exact zvg ok ih hk' h|ret=>exact qou ok hid (j:=some .ret) ⟨_,rfl⟩ h|rangeFunc g ps asn bo=>exact zvf ok hid ih hsub hk' h|_=>cases h
def zu8{labs:List (fc R)}{n:Nat}(ih:IH cx vj3 enc body labs n){k':List d6}{r:R}(hk':∀i∈k',i.Ok body)
  (h:(match cx.rd with
   |some m=>match ae s.hp m with|some (.loop .ready pe f n' fr ps tag D)=>run cx enc labs n true k' { s with hp:=(m,.loop .busy pe f n' fr ps tag D)::s.hp }|_=>none
   | none=>none)=some r):jj cx vj3 enc (.beginRound::eh k') s r:=by
 split at h
 ·rename_i m hm;split at h
  ·rename_i pe f n' fr ps tag D hl;refine(ih true k' _ r hk' h).via fun vj6 vj1 G a w hr b cs _ _ hrd => ?_
   unfold qf at hrd;rw[hm]at hrd;simp only at hrd;obtain⟨B,bx0,e1,e2,e3⟩:=hrd;obtain⟨B',tmps,DB,i1,i2,⟨asn,bo,i3,i4⟩,i5,i6,i7⟩:=hr.fin.mem.holds _ _ hl;have:=hr.fin.keep m bx0 B e2 e1;rw[this]at i1;injection i1 with i1;subst i1
   have hbr:=run_beginRound (P:=cx.P) i4 rfl;exact⟨G,a,_,hr.setBox (bx' := .loop .busy pe f n' fr ps tag D) hl (show G.box m=some B from this)
    (fun c hc=>by have hc:G.box m=some c:=hc;rw[this]at hc;injection hc with hc;exact hc.symm)
    ⟨B,tmps,DB,this,i2,⟨asn,bo,i3,by rw[World.putObj_heap_same (Array.getElem?_eq_some_iff.1 i4).1]⟩,i5,i6,i7⟩ i7,.one (stepR_beginRound e3 hbr)⟩
  ·cases h
 ·cases h
def q2d(ok:cx.Ok body)(hid:∀n bx,ae vj3 n=some bx->a6 cx.ids n=some n){labs:List (fc R)}(hlab:∀l∈labs,qe cx vj3 enc body l) :
  ∀(n:Nat)(chk:Bool)(k:List d6)(s:St)(r:R),(∀i∈k,i.Ok body)->run cx enc labs n chk k s=some r->jj cx vj3 enc (eh k) s r:=by
 intro n
 induction n with
 |zero=>intro chk k s r _ h;cases h
 |succ n ih=>
  intro chk k s r hk h;unfold run at h
  cases hl:(bif chk then zo cx.ids s k labs else none) with
  |some lab=>
   rw[hl]at h;have hl:zo cx.ids s k labs=some lab:=by cases chk<;>simp only[qT,qF,reduceCtorEq]at hl;exact hl
   obtain⟨hm,hkey⟩:=q1n hl;simp only at h;split at h
   ·rename_i d hd;have hg:=hlab lab hm d r h;rw[zam hkey hk]at hg;refine hg.via fun vj6 vj1 G a w hr b cs _ _ _ => ?_
    obtain⟨G1,hr1⟩:=hr.co lab.ls cx.ids;obtain⟨G2,hr2⟩:=hr1.fit hid hd;exact⟨G2,a,w,hr2,.refl _ _⟩
   ·cases h
  |none=>
   rw[hl]at h;simp only at h;clear hl
   cases k with
   |nil=>exact qou ok hid (by rfl) h|cons i k'=>
    obtain⟨kd,p,it⟩:=i;obtain⟨hi,hk'⟩:=zda hk;clear hk
    cases it with
    |code c=>exact zu9 ok hid ih hi hk' h|inBlock id=>exact(ih true k' s r hk' h).one fun a w b cs=>stepR_inBlock
    |inScope id=>exact(ih true k' s r hk' h).one fun a w b cs=>zv3
    |inLoop x=>
     have hsub:sub body p = .loop x:=zqb hi;exact(ih true _ s r (li (qm 0 hsub rfl) (li (zcc hsub) hk')) h).one fun a w b cs=>stepR_inLoop
    |beginRound=>exact zu8 ih hk' h|_=>cases h
end
def St.reCell(s:St)(b off:Nat):St:=
 match ae s.hp b with
 |some (.cells cs T)=>match cs[off]? with
  |some (.own k)=>match ae s.hp k with|some (.row τ l E)=>bif a8 s.nx s.hp then{ s with hp:=(b,.cells (cs.set off (.own s.nx)) T)::(s.nx,.row τ l E)::(k,.dead)::s.hp,nx:=s.nx+32 } else s|_=>s
  |_=>s
 |_=>s
def qpr:Pt->Bool|.own _=>true|_=>false
def reB1(b:Nat):List Pt->Nat->St->St|[],_,s=>s|p::ps,off,s=>reB1 b ps (off+1) (bif qpr p then s.reCell b off else s)
def reB:List (Nat×be)->St->St
 |[],s=>s|(n,p)::r,s=>match p with|.cells ps _=>reB r (reB1 n ps 0 s)|_=>reB r s
def St.reSlot(s:St)(i:Nat):St:=
 match ae s.fr i with
 |some (.own k)=>match ae s.hp k with|some (.row τ l E)=>bif a8 s.nx s.hp&&Nat.blt i s.n then{ s with fr:=(i,.own s.nx)::s.fr,hp:=(s.nx,.row τ l E)::(k,.dead)::s.hp,nx:=s.nx+32 } else s|_=>s
 |_=>s
def reA:List Pt->Nat->St->St|[],_,s=>s|p::ps,i,s=>reA ps (i+1) (bif qpr p then s.reSlot i else s)
section
variable{vj6:World}{vj1:Gh}{vj3:List (Nat×ah)}{G:Gh}{s:St}{a:Act}{w:World}
def Fin.rename{hp:List (Nat×ah)}(hf:Fin vj6 vj1 vj3 G hp w){k k':Nat}{τ:Ty}{l:List τ.den}{E:TypeId}{v:Option Addr×Nat×Nat}(hk:ae hp k=some (.row τ l E))(hk':ae hp k'=none)(hfr:G.own k'=none)(ho:G.own k=some v) :
  Fin vj6 vj1 vj3 (G.addOwn k' v) ((k',.row τ l E)::(k,.dead)::hp) w:=by
 have hle:G.le (G.addOwn k' v):=Gh.addOwn_le hfr;have hlk:∀m b,ae ((k',ah.row τ l E)::(k,.dead)::hp) m=some b->(m=k'/\b = .row τ l E)\/b = .dead\/(m≠k/\ae hp m=some b):=fun m b h=>by
  simp only[ae]at h;cases hb:Nat.beq k' m
  ·rw[hb]at h;cases hb2:Nat.beq k m
   ·rw[hb2]at h;exact .inr (.inr ⟨fun e=>by subst e;simp at hb2,h⟩)
   ·rw[hb2]at h;simp only[qT,qF,qI]at h;exact .inr (.inl h.symm)
  ·rw[hb]at h;simp only[qT,qI]at h;exact .inl ⟨(qN hb).symm,h.symm⟩
 have hat:(G.addOwn k' v).at k' (.row τ l E)=G.at k (.row τ l E):=by simp only[Gh.at,Gh.addOwn_self,ho]
 refine⟨⟨hf.mem.agree,hf.mem.one,?_,?_,hf.mem.tab⟩,hf.bel,hf.imm_le,hf.imm_new,?_,fun n bx B h1 h2=>hle.box _ _ (hf.keep n bx B h1 h2),fun n bx B h1 h2=>hle.own _ _ (hf.keepOwn n bx B h1 h2)⟩
 ·intro m b h;rcases hlk m b h with⟨rfl,rfl⟩|rfl|⟨_,h⟩
  ·obtain⟨ad,c,i1,i2⟩:=hf.mem.holds k _ hk;rw[ho]at i1;injection i1 with i1;subst i1
   exact⟨ad,c,Gh.addOwn_self,i2⟩
  ·trivial
  ·exact(hf.mem.holds m b h).mono hle (fun _ _=>rfl) (fun _ _ _ h => .inl h)
 ·intro m m' b b' c h1 h2 h3 h4;rcases hlk m b h1 with⟨rfl,rfl⟩|rfl|⟨n1,g1⟩<;>rcases hlk m' b' h2 with⟨e2,rfl⟩|rfl|⟨n2,g2⟩
  ·exact e2.symm
  ·cases h4
  ·rw[hat]at h3;rw[(hf.mem.holds m' b' g2).at_le hle]at h4;exact absurd (hf.mem.apart m' k b' _ c g2 hk h4 h3) n2
  ·cases h3
  ·cases h3
  ·cases h3
  ·subst e2;rw[hat]at h4;rw[(hf.mem.holds m b g1).at_le hle]at h3;exact absurd (hf.mem.apart m k b _ c g1 hk h3 h4) n1
  ·cases h4
  ·rw[(hf.mem.holds m b g1).at_le hle]at h3;rw[(hf.mem.holds m' b' g2).at_le hle]at h4;exact hf.mem.apart m m' b b' c g1 g2 h3 h4
 ·intro m b c h1 h2;rcases hlk m b h1 with⟨rfl,rfl⟩|rfl|⟨n1,h1⟩
  ·rw[hat]at h2;exact hf.base k _ c hk h2
  ·cases h2
  ·rw[(hf.mem.holds m b h1).at_le hle]at h2;exact hf.base m b c h1 h2
def aj.reCell(hr:aj vj6 vj1 vj3 G s a w)(b off:Nat):∃G',aj vj6 vj1 vj3 G' (s.reCell b off) a w:=by
 unfold St.reCell;split
 ·rename_i cs T hb0;split
  ·rename_i k hx0;split
   ·rename_i τ l E hk0;cases hn:a8 s.nx s.hp
    ·exact⟨G,hr⟩
    ·simp only[qT];have hk:=lx hn s.nx (wF _) (by omega)
     obtain⟨ad,c,i1,_⟩:=hr.fin.mem.holds k _ hk0;have hfresh:=hr.fresh s.nx (wF _) hk;have hle:G.le (G.addOwn s.nx (ad,l.length,c)):=Gh.addOwn_le hfresh.2;have hf:=hr.fin.rename hk0 hk hfresh.2 i1;have hne:s.nx≠b:=fun e=>by rw[e,hb0]at hk;cases hk
     have hne2:k≠b:=fun e=>by rw[e,hb0]at hk0;cases hk0
     have hb1:ae ((s.nx,ah.row τ l E)::(k,.dead)::s.hp) b=some (.cells cs T):=by
      simp only[ae];cases hq:Nat.beq s.nx b
      ·cases hq2:Nat.beq k b
       ·exact hb0
       ·exact absurd (qN hq2) hne2
      ·exact absurd (qN hq) hne
     obtain⟨B,vs,k1,k2,k3,k4,k5⟩:=hf.mem.holds _ _ hb1;have hv:vs.toList[off]? = some (.slice ad l.length c):=by
      obtain⟨v,h1,h2⟩:=jy k3 hx0;obtain⟨a',n',c',q1,q2⟩:=h2;rw[hle.own _ _ i1]at q1;simp only[qI,qP]at q1;obtain⟨rfl,rfl,rfl⟩:=q1;subst q2;exact h1
     have hset:vs.toList.set off (.slice ad l.length c)=vs.toList:=by
      obtain⟨hlt,he⟩:=List.getElem?_eq_some_iff.1 hv;rw[← he,List.set_getElem_self]
     refine⟨G.addOwn s.nx (ad,l.length,c),⟨by obtain⟨bs,q1,q2⟩:=hr.defers;exact⟨bs,q1,qr hle.box q2⟩,hr.size,fun j x hx=>by obtain⟨v,h1,h2⟩:=hr.frame j x hx;exact⟨v,h1,h2.le hle⟩,fun m hm hl => ?_,?_⟩⟩
     ·simp only at hm;have hmn:s.nx≠m:=by omega
      simp only[ae]at hl;cases hq:Nat.beq b m<;>rw[hq]at hl<;>simp only[qT,qF,reduceCtorEq]at hl
      cases hq1:Nat.beq s.nx m<;>rw[hq1]at hl<;>simp only[qT,qF,reduceCtorEq]at hl
      cases hq2:Nat.beq k m<;>rw[hq2]at hl<;>simp only[qT,qF,reduceCtorEq]at hl
      obtain⟨h1,h2⟩:=hr.fresh m (by omega) hl
      refine⟨h1,?_⟩;show(bif Nat.beq m s.nx then some _ else G.own m)=none
      cases hbm:Nat.beq m s.nx
      ·exact h2
      ·exact absurd (qN hbm).symm hmn
     ·refine hf.update (bx := .cells cs T) (bx' := .cells (cs.set off (.own s.nx)) T) hb1 (B:=B) k1 k1 ⟨rfl,rfl,rfl,wF _,fun _ _ _=>rfl⟩ ⟨B,vs,k1,k2,?_,k4,k5⟩ k5
      have:=qjl off k3 (x := .own s.nx) (v := .slice ad l.length c) ⟨ad,l.length,c,Gh.addOwn_self,rfl⟩
      rwa [hset]at this
   ·exact⟨G,hr⟩
  ·exact⟨G,hr⟩
 ·exact⟨G,hr⟩
def aj.reSlot(hr:aj vj6 vj1 vj3 G s a w)(i:Nat):∃G',aj vj6 vj1 vj3 G' (s.reSlot i) a w:=by
 unfold St.reSlot;split
 ·rename_i k hx0;split
  ·rename_i τ l E hk0;cases hn:a8 s.nx s.hp&&Nat.blt i s.n
   ·exact⟨G,hr⟩
   ·simp only[qT];simp only[qA]at hn;have hk:=lx hn.1 s.nx (wF _) (by omega)
    obtain⟨ad,c,i1,_⟩:=hr.fin.mem.holds k _ hk0;have hfresh:=hr.fresh s.nx (wF _) hk;have hle:G.le (G.addOwn s.nx (ad,l.length,c)):=Gh.addOwn_le hfresh.2;refine⟨G.addOwn s.nx (ad,l.length,c),⟨by obtain⟨bs,q1,q2⟩:=hr.defers;exact⟨bs,q1,qr hle.box q2⟩,hr.size,fun j x hx => ?_,fun m hm hl => ?_,hr.fin.rename hk0 hk hfresh.2 i1⟩⟩
    ·simp only[ae]at hx;cases hq:Nat.beq i j
     ·rw[hq]at hx;obtain⟨v,h1,h2⟩:=hr.frame j x hx;exact⟨v,h1,h2.le hle⟩
     ·rw[hq]at hx;simp only[qT,qI]at hx;subst hx;have:=qN hq;subst this;obtain⟨v,h1,a',n',c',q1,q2⟩:=hr.frame i _ hx0;rw[i1]at q1;simp only[qI,qP]at q1;obtain⟨rfl,rfl,rfl⟩:=q1;exact⟨v,h1,ad,l.length,c,Gh.addOwn_self,q2⟩
    ·simp only at hm;have hmn:s.nx≠m:=by omega
     simp only[ae]at hl;cases hq1:Nat.beq s.nx m<;>rw[hq1]at hl<;>simp only[qT,qF,reduceCtorEq]at hl
     cases hq2:Nat.beq k m<;>rw[hq2]at hl<;>simp only[qT,qF,reduceCtorEq]at hl
     obtain⟨h1,h2⟩:=hr.fresh m (by omega) hl
     refine⟨h1,?_⟩;show(bif Nat.beq m s.nx then some _ else G.own m)=none
     cases hbm:Nat.beq m s.nx
     ·exact h2
     ·exact absurd (qN hbm).symm hmn
  ·exact⟨G,hr⟩
 ·exact⟨G,hr⟩
def aj.reA:∀{ps:List Pt}{i:Nat}{s:St}{G:Gh},aj vj6 vj1 vj3 G s a w->∃G',aj vj6 vj1 vj3 G' (reA ps i s) a w
 |[],_,s,G,hr=>⟨G,hr⟩|p::ps,i,s,G,hr=>by
  unfold Sym.reA;cases qpr p
  ·exact aj.reA hr
  ·obtain⟨G',hr'⟩:=hr.reSlot i;exact aj.reA hr'
def aj.reB1{b:Nat}:∀{ps:List Pt}{off:Nat}{s:St}{G:Gh},aj vj6 vj1 vj3 G s a w->∃G',aj vj6 vj1 vj3 G' (reB1 b ps off s) a w
 |[],_,s,G,hr=>⟨G,hr⟩|p::ps,off,s,G,hr=>by
  unfold Sym.reB1;cases qpr p
  ·exact aj.reB1 hr
  ·obtain⟨G',hr'⟩:=hr.reCell b off;exact aj.reB1 hr'
def aj.reB:∀{l:List (Nat×be)}{s:St}{G:Gh},aj vj6 vj1 vj3 G s a w->∃G',aj vj6 vj1 vj3 G' (reB l s) a w
 |[],s,G,hr=>⟨G,hr⟩|(n,p)::r,s,G,hr=>by
  unfold Sym.reB;split
  ·obtain⟨G',hr'⟩:=hr.reB1;exact aj.reB hr'
  ·exact aj.reB hr
end
def ew:List (Nat×be)->NM|[]=>[]|(n,_)::r=>(n,n)::ew r
def jo(N:NM)(n:Nat):Bool:=match ax N n with|some m=>Nat.beq m n|none=>false
def vn{N:NM}{n:Nat}(h:jo N n=true):ax N n=some n:=by
 unfold jo at h;split at h
 ·rename_i m hm;have:=qN h;subst this;exact hm
 ·cases h
mutual
def q1w(N:NM):Pt->Bool|.agg ps=>rx N ps|.tup ps=>rx N ps|.ptr b _=>jo N b|.own k=>jo N k|.el k _=>jo N k|.iel _ k _=>jo N k|.yld k=>jo N k|.pn k=>jo N k|.fn _ ps=>rx N ps|_=>true
def rx(N:NM):List Pt->Bool|[]=>true|p::ps=>q1w N p&&rx N ps
end
def zmb{ρ:Nat->Option Nat}:∀{τ:Ty}{d:τ.den},(τ.av d).ren ρ=τ.av d|.int _,_=>rfl|.byte,_=>rfl|.bool,_=>rfl|.str,_=>rfl|.unit,_=>rfl|.list _,_=>rfl|.prod a b,d=>by show AV.agg (AV.rens ρ ((Ty.prod a b).enc d))=_;rw[Ty.enc_ren];rfl|.tree a,d=>by show AV.agg (AV.rens ρ ((Ty.tree a).enc d))=_;rw[Ty.enc_ren];rfl
mutual
def zd1{N:NM}:∀{p:Pt}{d:p.den},q1w N p=true->(p.put d).ren (ax N)=p.put d|.h τ,d,_=>zmb|.c _,_,_=>rfl|.agg ps,d,h=>congrArg AV.agg (zq (ps:=ps) (d:=d) h)|.tup ps,d,h=>congrArg AV.tup (zq (ps:=ps) (d:=d) h)|.ptr b off,_,h=>by show AV.ren (ax N) (.ptr b off)=_;simp only[AV.ren,vn (show jo N b=true from h)];rfl|.own k,_,h=>by show AV.ren (ax N) (.own k)=_;simp only[AV.ren,vn (show jo N k=true from h)];rfl|.arr _,_,_=>rfl|.el k sz,_,h=>by show AV.ren (ax N) (.oel k sz 0 0)=_;simp only[AV.ren,vn (show jo N k=true from h)];rfl|.iel t k sz,_,h=>by show AV.ren (ax N) (.iface t (.oel k sz 0 0))=_;simp only[AV.ren,vn (show jo N k=true from h)];rfl|.yld k,_,h=>by show AV.ren (ax N) (.yld k)=_;simp only[AV.ren,vn (show jo N k=true from h)];rfl|.pn k,_,h=>by show AV.ren (ax N) (.pn k)=_;simp only[AV.ren,vn (show jo N k=true from h)];rfl|.fn f ps,d,h=>congrArg (AV.fn (.func f) []) (zq (ps:=ps) (d:=d) h)|.u,_,_=>rfl
def zq{N:NM}:∀{ps:List Pt}{d:Pts.den ps},rx N ps=true->AV.rens (ax N) (Pts.put ps d)=Pts.put ps d
 |[],_,_=>rfl|p::ps,d,h=>by
  simp only[rx,qA]at h;have h1:=zd1 (p:=p) (d:=d.1) h.1;have h2:=zq (ps:=ps) (d:=d.2) h.2;show AV.ren (ax N) (p.put d.1)::AV.rens (ax N) (Pts.put ps d.2)=p.put d.1::Pts.put ps d.2;rw[h1,h2]
end
def fIn(N:NM):List (Nat×Pt)->Bool|[]=>true|(_,p)::r=>q1w N p&&fIn N r
def zbb{N:NM}:∀{l:List (Nat×Pt)}{d:pb l},fIn N l=true->ob (ax N) (ju l d)=ju l d
 |[],_,_=>rfl|(i,p)::r,d,h=>by
  simp only[fIn,qA]at h;have h1:=zd1 (p:=p) (d:=d.1) h.1;have h2:=zbb (l:=r) (d:=d.2) h.2;show(i,AV.ren (ax N) (p.put d.1))::ob (ax N) (ju r d.2)=(i,p.put d.1)::ju r d.2;rw[h1,h2]
def qy3(N:NM):be->Bool|.cells ps _=>rx N ps|.loop _ _ _ _ fr _ _ D=>jo N D&&fIn N fr|_=>true
def bIn(N:NM):List (Nat×be)->Bool|[]=>true|(n,p)::r=>jo N n&&qy3 N p&&bIn N r
def zmr{N:NM}:∀{p:be}{d:p.den},qy3 N p=true->dy (ax N) (p.put d)=p.put d
 |.cells ps T,d,h=>congrArg (fun l=>ah.cells l T) (zq (ps:=ps) (d:=d) h)
 |.row _ _,_,_=>rfl|.loop st pe f n fr ps tag D,d,h=>by
  simp only[qy3,qA]at h;have h2:=zbb (l:=fr) (d:=d) h.2;have h3:dy (ax N) (.loop st pe f n (ju fr d) ps tag D) = .loop st pe f n (ob (ax N) (ju fr d)) ps tag D:=by simp only[dy,vn h.1]
  exact h3.trans (congrArg (fun l=>ah.loop st pe f n l ps tag D) h2)
 |.dfr,_,_=>rfl|.it,_,_=>rfl|.dead,_,_=>rfl|.dat τ T,d,_=>congrArg (fun l=>ah.cells l T) (Ty.enc_ren (ax N) τ d)
def qyv{N:NM}:∀{l:List (Nat×be)}{d:fy l},bIn N l=true->∀n b,ae (ck l d) n=some b->ax N n=some n/\dy (ax N) b=b
 |[],_,_,_,_,h=>by cases h
 |(m,p)::r,d,h,n,b,hl=>by
  simp only[bIn,qA]at h;have hl:(bif Nat.beq m n then some (p.put d.1) else ae (ck r d.2) n)=some b:=hl
  cases hb:Nat.beq m n
  ·rw[hb]at hl;exact qyv (d:=d.2) h.2 n b hl
  ·rw[hb]at hl;have:=qN hb;subst this;simp only[qT,qI]at hl;subst hl;exact⟨vn h.1.1,zmr h.1.2⟩
def cn.only{G:Gh}{hp:List (Nat×ah)}{w:World}{N:NM}(hm:cn G hp w)(h:∀n b,ae hp n=some b->ax N n=some n/\dy (ax N) b=b):cn (G.view N) hp w:=by
 have hb:∀n b,ae hp n=some b->(G.view N).box n=G.box n/\(G.view N).own n=G.own n:=fun n b hl=>by
  have:=rz (h n b hl).1;exact⟨by simp[Gh.view,this],by simp[Gh.view,this]⟩
 have hat:∀n b c,ae hp n=some b->(G.view N).at n b=some c->G.at n b=some c:=fun n b c hl hc=>by
  have:=(h n b hl).2;exact qj (G:=G) (G':=G.view N) (ρ:=ax N) (hb n b hl).1 (hb n b hl).2 (by rw[this];exact hc)
 refine⟨hm.agree,hm.one,fun n b hl => ?_,fun n m b b' c h1 h2 h3 h4=>hm.apart n m b b' c h1 h2 (hat _ _ _ h1 h3) (hat _ _ _ h2 h4),hm.tab⟩
 have:=dj.ren (G:=G) (G':=G.view N) (ρ:=ax N) (n:=n) (m:=n) (fun _ _ _ h=>h) (fun _ _ _ h=>h) (sh N) (ug N) (fun B hB=>by rw[(hb n b hl).1];exact hB) (fun B hB=>by rw[(hb n b hl).2];exact hB) (hm.holds n b hl)
 rw[(h n b hl).2]at this;exact this
def Fin.only{G G':Gh}{hp hp':List (Nat×ah)}{w w':World}{N:NM}(h:∀n b,ae hp n=some b->ax N n=some n/\dy (ax N) b=b)(hf:Fin w (G.view N) hp G' hp' w'):Fin w G hp G' hp' w':=by
 have hb:∀n b,ae hp n=some b->(G.view N).box n=G.box n/\(G.view N).own n=G.own n:=fun n b hl=>by
  have:=rz (h n b hl).1;exact⟨by simp[Gh.view,this],by simp[Gh.view,this]⟩
 have hblk:∀c,o7 (G.view N) hp c->o7 G hp c:=fun c⟨n,b,h1,h2⟩=>⟨n,b,h1,qj (G:=G) (G':=G.view N) (ρ:=ax N) (hb n b h1).1 (hb n b h1).2 (by rw[(h n b h1).2];exact h2)⟩
 refine⟨hf.mem,⟨hf.bel.os,hf.bel.tape,hf.bel.output,hf.bel.size,fun k hk hS=>hf.bel.block k hk fun hx=>hS (hblk k hx)⟩,hf.imm_le,fun b o v hv => ?_,fun n b c h1 h2 => ?_,fun n b B h1 h2=>hf.keep n b B h1 (by rw[(hb n b h1).1];exact h2),fun n b B h1 h2=>hf.keepOwn n b B h1 (by rw[(hb n b h1).2];exact h2)⟩
 ·rcases hf.imm_new b o v hv with h|h|h
  ·exact .inl h
  ·exact .inr (.inl h)
  ·exact .inr (.inr (hblk _ h))
 ·rcases hf.base n b c h1 h2 with h|h
  ·exact .inl h
  ·exact .inr (hblk _ h)
def qi2:List AV->Nat->List (Nat×AV)|[],_=>[]|x::xs,i=>(i,x)::qi2 xs (i+1)
def zbr:∀{xs:List AV}{G:Gh}{vs:List Value}(i:Nat),al xs G vs->∀j x,ae (qi2 xs i) j=some x->i<=j/\∃v,vs[j-i]? = some v/\ak x G v
 |[],_,[],_,_,j,x,h=>by cases h
 |x::xs,G,v::vs,i,hr,j,y,h=>by
  simp only[qi2,ae]at h;cases hb:Nat.beq i j
  ·rw[hb]at h;obtain⟨h1,u,h2,h3⟩:=zbr (i+1) hr.2 j y h;refine⟨by omega,u,?_,h3⟩
   rw[show j-i=(j-(i+1))+1 by omega];simpa using h2
  ·rw[hb]at h;have:=qN hb;subst this;simp only[qT,qI]at h;subst h;exact⟨wF _,v,by simp,hr.1⟩
 |[],_,_::_,_,h,_,_,_=>h.elim|_::_,_,[],_,h,_,_,_=>h.elim
def qcj{G:Gh}{w:World}{hp:List (Nat×ah)}(hm:cn G hp w):Fin w G hp G hp w:=
 ⟨hm,⟨rfl,rfl,rfl,wF _,fun _ _ _=>rfl⟩,fun _ _ _ h=>h,fun _ _ _ h => .inl h,fun n bx _b h1 h2 => .inr ⟨n,bx,h1,h2⟩,fun _ _ _ _ h=>h,fun _ _ _ _ h=>h⟩
def NX:Nat:=64
def q2b(cx:Cx)(body:Code){R:Type}(enc:RS R)(labs:List (fc R))(asn:List Pt)(pts:List (Nat×be))(xs:List AV)(hp:List (Nat×ah)):Option R:=
 run cx enc labs 1000000 true [⟨0,[],.code body⟩] (reB pts (reA (bif cx.tb.sub then asn else[]) 0 { n:=cx.fn.ntmps,fr:=qi2 xs 0,hp:=hp,nx:=NX,df:=[] }))
def qpb(cx:Cx)(args:List Pt)(hp:List (Nat×be)):Bool:=rx (ew hp) args&&bIn (ew hp) hp&&Nat.ble args.length cx.fn.ntmps
def qpo:∀{l:List (Nat×be)}{d:fy l}{n:Nat}{b:ah},ae (ck l d) n=some b->a6 (ew l) n=some n
 |[],_,_,_,h=>by cases h
 |(m,p)::r,d,n,b,h=>by
  have h:(bif Nat.beq m n then some (p.put d.1) else ae (ck r d.2) n)=some b:=h
  simp only[ew,a6];cases hb:Nat.beq m n
  ·rw[hb]at h;exact qpo (d:=d.2) h
  ·have:=qN hb;subst this;rfl
def q08{m:Nat}:∀{l:List (Nat×be)}{d:fy l},ae (ck l d) m=none->a6 (ew l) m=none
 |[],_,_=>rfl|(n,p)::r,d,h=>by
  have h:(bif Nat.beq n m then some (p.put d.1) else ae (ck r d.2) m)=none:=h
  simp only[ew,a6];cases hb:Nat.beq n m
  ·rw[hb]at h;exact q08 (d:=d.2) h
  ·rw[hb]at h;cases h
def zd2:∀{ps:List Pt}{d:Pts.den ps},(Pts.put ps d).length=ps.length|[],_=>rfl|p::ps,d=>by show(p.put d.1::Pts.put ps d.2).length=_;simp[zd2]
def d5.sound_fn{e:d5}{cx:Cx}{body:Code}{labs:List (fc e.R)}(ok:cx.Ok body)(hkey:e.key = .fn cx.f)(hbody:cx.fn.body=some body)(hrd:cx.rd=none)(hids:cx.ids=ew e.hp)(hpl:ta cx.P cx.f)
  (hfine:qpb cx e.args e.hp=true) (hlab:∀d',∀l∈labs,qe cx (ck e.hp d') e.out body l) (hF:∀d d',q2b cx body e.out labs e.args e.hp (Pts.put e.args d) (ck e.hp d')=e.F d d'):e.Sound cx.P:=by
 intro d d' r hr;rw[hkey];refine⟨hpl,fun w G vs hm hreps => ?_⟩
 simp only[qpb,qA]at hfine;obtain⟨⟨f1,f2⟩,f3⟩:=hfine;have f3:=Nat.le_of_ble_eq_true f3;have hin:=qyv (d:=d') f2;have hm':=hm.only hin;have hreps':al (Pts.put e.args d) (G.view (ew e.hp)) vs:=by
  have:=al.ren (ρ:=ax (ew e.hp)) (G:=G) (G':=G.view (ew e.hp)) (fun _ _ _ h=>h) (sh _) (ug _) hreps
  rwa [zq f1]at this
 have hlv:=hreps.length;rw[zd2]at hlv;have hrun:=hF d d';rw[hr]at hrun;have hg:=q2d (enc:=e.out) ok (vj3:=ck e.hp d') (fun n bx h=>by rw[hids];exact qpo h) (hlab d') _ _ _ _ _ (fun i hi=>by
  rcases List.mem_cons.1 hi with rfl|hi
  ·rfl
  ·cases hi) hrun
 have hr0:aj w (G.view (ew e.hp)) (ck e.hp d') (G.view (ew e.hp)) { n:=cx.fn.ntmps,fr:=qi2 (Pts.put e.args d) 0,hp:=ck e.hp d',nx:=NX,df:=[] } { tmps:=vs.toArray++Array.replicate (cx.fn.ntmps-vs.toArray.size) undef,defers:=[] } w:=by
  refine⟨⟨[],rfl,rfl⟩,by simp;omega,fun i x hx => ?_,fun m _ hl => ?_,qcj hm'⟩
  ·obtain⟨_,v,h2,h3⟩:=zbr 0 hreps' i x hx;refine⟨v,?_,h3⟩;have hlt:i<vs.length:=by have:=(List.getElem?_eq_some_iff.1 h2).1;simpa using this
   rw[Array.getElem?_append_left (by simpa using hlt)]
   simpa using h2
  ·have:a6 (ew e.hp) m=none:=q08 hl;simp[Gh.view,this]
 obtain⟨G0,hr0'⟩:=hr0.reA (ps:=bif cx.tb.sub then e.args else[]) (i:=0)
 obtain⟨G1,hr1⟩:=hr0'.reB (l:=e.hp);intro cs
 let b:Frame:={ (default:Frame) with fn:=cx.f,kind := .normal }
 have henter:Frame.enter cx.P cx.f vs.toArray .normal=b.atR { tmps:=vs.toArray++Array.replicate (cx.fn.ntmps-vs.toArray.size) undef,defers:=[] } [.code body]:=by
  simp[Frame.enter,Frame.atR,ok.func,hbody,b];rfl
 have:=hg w _ _ _ w hr1 b cs rfl rfl (by unfold qf;rw[hrd];rfl)
 obtain⟨v,w',fr,⟨G',h1,h2⟩,h3,h4,h5⟩:=this;exact⟨.returned v,w',fr,⟨v,G',rfl,h1.only hin,h2⟩,by rw[henter];exact h3,h4,h5⟩
def qjj:List Tmp->List AV->List (Nat×AV)->List (Nat×AV)|p::ps,x::xs,fr=>qjj ps xs ((p,x)::fr)|_,_,fr=>fr
def qh8(n:Nat):List Nat->Bool|[]=>true|p::ps=>Nat.blt p n&&qh8 n ps
def zd7{G:Gh}{n:Nat}:∀{ps:List Tmp}{xs:List AV}{vs:List Value}{fr:List (Nat×AV)}{tmps:Array Value},qh8 n ps=true->tmps.size=n->ps.length=xs.length->al xs G vs->(∀i x,ae fr i=some x->∃v,tmps[i]? = some v/\ak x G v) ->
  ((ps.zip vs).foldl (fun(tmps:Array Value)(q:Tmp×Value)=>tmps.setIfInBounds q.1 q.2) tmps).size=n/\∀i x,ae (qjj ps xs fr) i=some x->∃v,((ps.zip vs).foldl (fun(tmps:Array Value)(q:Tmp×Value)=>tmps.setIfInBounds q.1 q.2) tmps)[i]? = some v/\ak x G v
 |[],[],[],fr,tmps,_,hn,_,_,hfr=>⟨hn,hfr⟩|p::ps,x::xs,v::vs,fr,tmps,hlt,hn,hl,hr,hfr=>by
  simp only[qh8,qA]at hlt;have hp:p<n:=by have:=hlt.1;simpa using this
  simp only[List.zip_cons_cons,List.foldl_cons,qjj];refine zd7 hlt.2 (by simp[hn]) (by simpa using hl) hr.2 (fun i y hy => ?_)
  simp only[ae]at hy;cases he:Nat.beq p i
  ·rw[he]at hy;simp only[qF]at hy;have hne:p≠i:=fun e=>by subst e;simp at he
   obtain⟨u,h1,h2⟩:=hfr i y hy;exact⟨u,by simp[hne,h1],h2⟩
  ·rw[he]at hy;simp only[qT,qI]at hy;subst hy;have:=qN he;subst this;exact⟨v,by simp[hn,hp],hr.1⟩
 |[],_::_,_,_,_,_,_,h,_,_=>by simp at h|_::_,[],_,_,_,_,_,h,_,_=>by simp at h|[],[],_::_,_,_,_,_,_,h,_=>h.elim|_::_,_::_,[],_,_,_,_,_,h,_=>h.elim
def zu(cx:Cx)(body:Code)(p:List Nat)(m:Nat){R:Type}(enc:RS R)(labs:List (fc R))(pts:List (Nat×be))(xs:List AV)(hp:List (Nat×ah)):Option R:=
 match ae hp m with
 |some (.loop .ready none f n fr ps tag _)=>bif Nat.beq f cx.f&&qh8 n ps&&eqLen ps xs&&tagIs tag p cx.tags then
   run cx enc labs 1000000 true (mq body [(0,0::p),(4,[]),(0,1::p)]) (reB pts { n:=n,fr:=qjj ps xs fr,hp:=hp,nx:=NX,df:=[] })
  else none
 |_=>none
where
 eqLen:List Tmp->List AV->Bool
  |[],[]=>true|_::ps,_::xs=>eqLen ps xs|_,_=>false
 tagIs (tag:Nat) (p:List Nat) (tags:List (List Nat×Nat)):Bool:=match rm p tags with|some t=>Nat.beq t tag|none=>false
def zan:∀{ps:List Tmp}{xs:List AV},zu.eqLen ps xs=true->ps.length=xs.length
 |[],[],_=>rfl|_::ps,_::xs,h=>by simp[zan (ps:=ps) (xs:=xs) h]|[],_::_,h=>by cases h
 |_::_,[],h=>by cases h
def zbu:Code->Bool|.rangeFunc _ _ _ _=>true|_=>false
def d5.sound_yld{e:d5}{cx:Cx}{body:Code}{p:List Nat}{m:Nat}{labs:List (fc e.R)}(ok:cx.Ok body)(hkey:e.key = .yld m)(hrd:cx.rd=some m)(hids:cx.ids=ew e.hp)(hrf:zbu (sub body p)=true)
  (hfine:(rx (ew e.hp) e.args&&bIn (ew e.hp) e.hp)=true) (hlab:∀d',∀l∈labs,qe cx (ck e.hp d') e.out body l) (hF:∀d d',zu cx body p m e.out labs e.hp (Pts.put e.args d) (ck e.hp d')=e.F d d'):e.Sound cx.P:=by
 intro d d' r hr;rw[hkey];intro w G vs B hm hreps hB;simp only[qA]at hfine;obtain⟨f1,f2⟩:=hfine;have hin:=qyv (d:=d') f2;have hm':=hm.only hin;have hreps':al (Pts.put e.args d) (G.view (ew e.hp)) vs:=by
  have:=al.ren (ρ:=ax (ew e.hp)) (G:=G) (G':=G.view (ew e.hp)) (fun _ _ _ h=>h) (sh _) (ug _) hreps
  rwa [zq f1]at this
 have hrun:=hF d d';rw[hr]at hrun;unfold zu at hrun;split at hrun
 ·rename_i f n fr ps tag D hl;cases hb:Nat.beq f cx.f&&qh8 n ps&&zu.eqLen ps (Pts.put e.args d)&&zu.tagIs tag p cx.tags<;>rw[hb]at hrun<;>simp only[qT,qF,reduceCtorEq]at hrun
  simp only[qA]at hb;obtain⟨⟨⟨b1,b2⟩,b3⟩,b4⟩:=hb;have b1:=qN b1;subst b1;have b3:=zan b3;unfold zu.tagIs at b4;split at b4
  rotate_left
  ·cases b4
  rename_i t ht;have b4:=qN b4;subst b4;obtain⟨B',tmps,DB,i1,i2,⟨asn,bo,i3,i4⟩,i5,i6,i7⟩:=hm'.holds m _ hl;have hBv:(G.view (ew e.hp)).box m=some B:=by
   have:=rz (hin m _ hl).1;simp[Gh.view,this,hB]
  rw[hBv]at i1;injection i1 with i1;subst i1
  obtain⟨g,ps0,x,y,hs⟩:∃g ps x y,sub body p = .rangeFunc g ps x y:=by
   cases hc:sub body p<;>rw[hc]at hrf<;>first|exact⟨_,_,_,_,rfl⟩|cases hrf
  have hcode:=ok.tags p t ht g ps0 x y hs;rw[i3]at hcode;simp only[qI,qP]at hcode;obtain⟨rfl,rfl⟩:=hcode;have hg:=q2d (enc:=e.out) ok (vj3:=ck e.hp d') (fun n bx h=>by rw[hids];exact qpo h) (hlab d') _ _ _ _ _ q0e hrun
  have hlv:=hreps.length;obtain⟨j1,j2⟩:=zd7 (n:=n) b2 i5 b3 hreps' i6;have hr0:aj w (G.view (ew e.hp)) (ck e.hp d') (G.view (ew e.hp)) { n:=n,fr:=qjj ps (Pts.put e.args d) fr,hp:=ck e.hp d',nx:=NX,df:=[] } { tmps:=(ps.zip vs).foldl (fun(tmps:Array Value)(q:Tmp×Value)=>tmps.setIfInBounds q.1 q.2) tmps,defers:=[] } w:=
   ⟨⟨[],rfl,rfl⟩,j1,j2,fun k _ hk=>by simp[Gh.view,q08 hk],qcj hm'⟩
  obtain⟨G1,hr1⟩:=hr0.reB (l:=e.hp);refine⟨_,i4,fun c cs=>⟨by simp;omega,?_⟩⟩
  let b:Frame:={ (default:Frame) with fn:=cx.f,kind := .normal,roundOf:=some B }
  have:=hg w _ _ _ w hr1 b (c::cs) rfl rfl (by unfold qf;rw[hrd];exact⟨B,_,hBv,hl,rfl⟩)
  obtain⟨v,w',⟨G',h1,h2⟩,h3⟩:=this c cs rfl;refine⟨v,w',⟨v,G',rfl,h1.only hin,h2⟩,?_⟩;have e1:Frame.round B cx.f ((ps.toArray.zip vs.toArray).foldl (fun tmps(t,a)=>tmps.setIfInBounds t a) tmps) asn bo .normal=b.atR { tmps:=(ps.zip vs).foldl (fun(tmps:Array Value)(q:Tmp×Value)=>tmps.setIfInBounds q.1 q.2) tmps,defers:=[] } (eh (mq body [(0,0::p),(4,[]),(0,1::p)])):=by
   simp[Frame.round,Frame.atR,b,eh,mq,vp,sub,hs,lh,List.zip_toArray]
  simp only at e1 ⊢;rw[e1];exact h3
 ·cases hrun
def qe.of_run{cx:Cx}{body:Code}{vj3:List (Nat×ah)}{R:Type}{enc:RS R}{labs:List (fc R)}(ok:cx.Ok body)(hid:∀n bx,ae vj3 n=some bx->a6 cx.ids n=some n)(hlab:∀l∈labs,qe cx vj3 enc body l){l:fc R}
  (h:∀d,run cx enc labs 1000000 false (mq body l.key) (l.ls.st d)=l.F d):qe cx vj3 enc body l:=fun d r hr=>by
 have:=h d;rw[hr]at this;exact q2d ok hid hlab _ _ _ _ _ q0e this
end Go.Sym
namespace Go.Sym
open Go.RowKit
def ql(f:Func):Code:=match f.body with|some c=>c|none => .skip
def af(n:Int):Int:=IntKind.i64.wrap n
section
variable[LC]{cx:Cx}{vj3:List (Nat×ah)}{R:Type}{enc:RS R}{body:Code}{P:Program}
def ao:∀p t,rm p []=some t->∀g ps x y,sub body p = .rangeFunc g ps x y->LC.lc t=some (x,y):=fun _ _ h=>by cases h
def wk{p:List Nat}{t:Nat}{tags:List (List Nat×Nat)}(h:LC.lc t=some (lh 0 (sub body p),lh 1 (sub body p)))(k:∀p t,rm p tags=some t->∀g ps x y,sub body p = .rangeFunc g ps x y->LC.lc t=some (x,y)) :
  ∀q u,rm q ((p,t)::tags)=some u->∀g ps x y,sub body q = .rangeFunc g ps x y->LC.lc u=some (x,y):=fun q u hq g ps x y hs=>by
 simp only[rm]at hq;cases hb:o9 p q
 ·rw[hb]at hq;exact k q u hq g ps x y hs
 ·rw[hb]at hq;simp only[qT,qI]at hq;subst hq;have:=qox hb;subst this;rw[h,hs];rfl
end
abbrev Bs:Type:=List UInt8
def zdp:Nat->Nat->List Nat|0,_=>[]|f+1,n=>bif Nat.ble n 1 then[] else Nat.mod n 2::zdp f (Nat.div n 2)
def ai:List (Nat×Nat)->yj|[]=>[]|(k,n)::r=>(k,zdp 200 n)::ai r
mutual
def Pt.ts:Pt->List Type->List Type|.h τ,a=>τ.den::a|.agg ps,a=>Pts.ts ps a|.tup ps,a=>Pts.ts ps a|.fn _ ps,a=>Pts.ts ps a|.arr τ,a=>List τ.den::a|_,a=>a
def Pts.ts:List Pt->List Type->List Type|[],a=>a|p::ps,a=>p.ts (Pts.ts ps a)
end
def HL:List Type->Type|[]=>Unit|t::l=>t×HL l
abbrev pf:HL []:=()
mutual
def Pt.pk:(p:Pt)->{a:List Type}->p.den->HL a->HL (p.ts a)|.h _,_,d,x=>(d,x)|.agg ps,_,d,x=>Pts.pk ps d x|.tup ps,_,d,x=>Pts.pk ps d x|.fn _ ps,_,d,x=>Pts.pk ps d x|.arr _,_,d,x=>(d,x)|.c _,_,_,x=>x|.ptr _ _,_,_,x=>x|.own _,_,_,x=>x|.el _ _,_,_,x=>x|.iel _ _ _,_,_,x=>x|.yld _,_,_,x=>x|.pn _,_,_,x=>x|.u,_,_,x=>x
def Pts.pk:(ps:List Pt)->{a:List Type}->Pts.den ps->HL a->HL (Pts.ts ps a)|[],_,_,x=>x|p::ps,_,d,x=>p.pk d.1 (Pts.pk ps d.2 x)
end
mutual
def Pt.un:(p:Pt)->{a:List Type}->HL (p.ts a)->p.den×HL a|.h _,_,x=>x|.agg ps,_,x=>Pts.un ps x|.tup ps,_,x=>Pts.un ps x|.fn _ ps,_,x=>Pts.un ps x|.arr _,_,x=>x|.c _,_,x=>((),x)|.ptr _ _,_,x=>((),x)|.own _,_,x=>((),x)|.el _ _,_,x=>((),x)|.iel _ _ _,_,x=>((),x)|.yld _,_,x=>((),x)|.pn _,_,x=>((),x)|.u,_,x=>((),x)
def Pts.un:(ps:List Pt)->{a:List Type}->HL (Pts.ts ps a)->Pts.den ps×HL a|[],_,x=>((),x)|p::ps,_,x=>(((p.un x).1,(Pts.un ps (p.un x).2).1),(Pts.un ps (p.un x).2).2)
end
mutual
def Pt.un_pk:∀(p:Pt){a:List Type}(d:p.den)(x:HL a),p.un (p.pk d x)=(d,x)|.h _,_,_,_=>rfl|.agg ps,_,d,x=>Pts.un_pk ps d x|.tup ps,_,d,x=>Pts.un_pk ps d x|.fn _ ps,_,d,x=>Pts.un_pk ps d x|.arr _,_,_,_=>rfl|.c _,_,_,_=>rfl|.ptr _ _,_,_,_=>rfl|.own _,_,_,_=>rfl|.el _ _,_,_,_=>rfl|.iel _ _ _,_,_,_=>rfl|.yld _,_,_,_=>rfl|.pn _,_,_,_=>rfl|.u,_,_,_=>rfl
def Pts.un_pk:∀(ps:List Pt){a:List Type}(d:Pts.den ps)(x:HL a),Pts.un ps (Pts.pk ps d x)=(d,x)
 |[],_,_,_=>rfl|p::ps,_,d,x=>by
  show(((p.un (p.pk d.1 (Pts.pk ps d.2 x))).1,(Pts.un ps (p.un (p.pk d.1 (Pts.pk ps d.2 x))).2).1),(Pts.un ps (p.un (p.pk d.1 (Pts.pk ps d.2 x))).2).2)=(d,x);rw[Pt.un_pk p,Pts.un_pk ps];rfl
end
def fts:List (Nat×Pt)->List Type->List Type|[],a=>a|(_,p)::r,a=>p.ts (fts r a)
def mp:(l:List (Nat×Pt))->{a:List Type}->pb l->HL a->HL (fts l a)|[],_,_,x=>x|(_,p)::r,_,d,x=>p.pk d.1 (mp r d.2 x)
def qc5:(l:List (Nat×Pt))->{a:List Type}->HL (fts l a)->pb l×HL a|[],_,x=>((),x)|(_,p)::r,_,x=>(((p.un x).1,(qc5 r (p.un x).2).1),(qc5 r (p.un x).2).2)
def zbe:∀(l:List (Nat×Pt)){a:List Type}(d:pb l)(x:HL a),qc5 l (mp l d x)=(d,x)
 |[],_,_,_=>rfl|(_,p)::r,_,d,x=>by
  show(((p.un (p.pk d.1 (mp r d.2 x))).1,(qc5 r (p.un (p.pk d.1 (mp r d.2 x))).2).1),(qc5 r (p.un (p.pk d.1 (mp r d.2 x))).2).2)=(d,x);rw[Pt.un_pk p,zbe r];rfl
def be.ts:be->List Type->List Type|.cells ps _,a=>Pts.ts ps a|.row τ _,a=>List τ.den::a|.loop _ _ _ _ fr _ _ _,a=>fts fr a|.dfr,a=>a|.it,a=>List UInt8::Nat::a|.dead,a=>a|.dat τ _,a=>τ.den::a
def be.pk:(p:be)->{a:List Type}->p.den->HL a->HL (p.ts a)|.cells ps _,_,d,x=>Pts.pk ps d x|.row _ _,_,d,x=>(d,x)|.loop _ _ _ _ fr _ _ _,_,d,x=>mp fr d x|.dfr,_,_,x=>x|.it,_,d,x=>(d.1,(d.2,x))|.dead,_,_,x=>x|.dat _ _,_,d,x=>(d,x)
def be.un:(p:be)->{a:List Type}->HL (p.ts a)->p.den×HL a|.cells ps _,_,x=>Pts.un ps x|.row _ _,_,x=>x|.loop _ _ _ _ fr _ _ _,_,x=>qc5 fr x|.dfr,_,x=>((),x)|.it,_,x=>((x.1,x.2.1),x.2.2)|.dead,_,x=>((),x)|.dat _ _,_,x=>x
def be.un_pk:∀(p:be){a:List Type}(d:p.den)(x:HL a),p.un (p.pk d x)=(d,x)|.cells ps _,_,d,x=>Pts.un_pk ps d x|.row _ _,_,_,_=>rfl|.loop _ _ _ _ fr _ _ _,_,d,x=>zbe fr d x|.dfr,_,_,_=>rfl|.it,_,_,_=>rfl|.dead,_,_,_=>rfl|.dat _ _,_,_,_=>rfl
def bts:List (Nat×be)->List Type->List Type|[],a=>a|(_,p)::r,a=>p.ts (bts r a)
def gp:(l:List (Nat×be))->{a:List Type}->fy l->HL a->HL (bts l a)|[],_,_,x=>x|(_,p)::r,_,d,x=>p.pk d.1 (gp r d.2 x)
def yx:(l:List (Nat×be))->{a:List Type}->HL (bts l a)->fy l×HL a|[],_,x=>((),x)|(_,p)::r,_,x=>(((p.un x).1,(yx r (p.un x).2).1),(yx r (p.un x).2).2)
def q9l:∀(l:List (Nat×be)){a:List Type}(d:fy l)(x:HL a),yx l (gp l d x)=(d,x)
 |[],_,_,_=>rfl|(_,p)::r,_,d,x=>by
  show(((p.un (p.pk d.1 (gp r d.2 x))).1,(yx r (p.un (p.pk d.1 (gp r d.2 x))).2).1),(yx r (p.un (p.pk d.1 (gp r d.2 x))).2).2)=(d,x);rw[be.un_pk p,q9l r];rfl
abbrev Cur:List Type->Type->Type|[],R=>R|t::l,R=>t->Cur l R
def app{R:Type}:{l:List Type}->Cur l R->HL l->R|[],f,_=>f|_::_,f,x=>app (f x.1) x.2
abbrev Nc:List Type->Type|[]=>Unit|[t]=>t|t::u::l=>t×Nc (u::l)
def Nc.fro:(l:List Type)->HL l->Nc l|[],_=>()|[_],x=>x.1|_::u::l,x=>(x.1,Nc.fro (u::l) x.2)
def Nc.to:(l:List Type)->Nc l->HL l|[],_=>()|[_],x=>(x,())|_::u::l,x=>(x.1,Nc.to (u::l) x.2)
def Nc.to_fro:∀(l:List Type)(x:HL l),Nc.to l (Nc.fro l x)=x
 |[],_=>rfl|[_],_=>rfl|_::u::l,x=>by
  show(x.1,Nc.to (u::l) (Nc.fro (u::l) x.2))=x;rw[Nc.to_fro];rfl
def RS.mk(p:Pt)(hp:List (Nat×be)):RS (Nc (p.ts (bts hp []))):=
 .one p hp (fun x=>((p.un (Nc.to _ x)).1,(yx hp (p.un (Nc.to _ x)).2).1)) (fun y=>Nc.fro _ (p.pk y.1 (gp hp y.2 pf))) fun y=>by
  obtain⟨d,d'⟩:=y;show((p.un (Nc.to _ (Nc.fro _ (p.pk d (gp hp d' pf))))).1,(yx hp (p.un (Nc.to _ (Nc.fro _ (p.pk d (gp hp d' pf))))).2).1)=(d,d');rw[Nc.to_fro,Pt.un_pk,q9l]
structure IF:Type 1 where
 key:yi
 args:List Pt
 hp:List (Nat×be)
 R:Type
 out:RS R
abbrev IF.T(i:IF):Type:=Cur (Pts.ts i.args (bts i.hp [])) (Option i.R)
def IF.e(i:IF)(r:i.T):d5:=⟨i.key,i.args,i.hp,i.R,fun d d'=>app r (Pts.pk i.args d (gp i.hp d' pf)),i.out⟩
abbrev KL:Type:=yj×LS
abbrev KL.T(l:KL)(R:Type):Type:=Cur (fts l.2.fr (bts l.2.hp [])) (Option R)
def KL.lab{R:Type}(l:KL)(r:l.T R):fc R:=⟨l.1,l.2,fun d=>app r (mp l.2.fr d.1 (gp l.2.hp d.2 pf))⟩
def kl:Nat->List KL->KL|_,[]=>([],⟨0,[],[],0,[]⟩)|0,l::_=>l|n+1,_::r=>kl n r
def q1y:yi->Option Nat|.yld m=>some m|_=>none
section
variable[LC]{P:Program}{i:IF}
structure EP(P:Program):Type 1 where
 e:d5
 h:e.Sound P
structure EI(P:Program)(i:IF) where
 f:i.T
 h:(i.e f).Sound P
def EI.p(s:EI P i):EP P:=⟨i.e s.f,s.h⟩
def EP.es{P:Program}:List (EP P)->List d5|[]=>[]|x::l=>x.e::EP.es l
def EP.es_ok{P:Program}:∀{l:List (EP P)},∀e∈EP.es l,e.Sound P
 |[],_,h=>by cases h
 |x::_,e,h=>by
  rcases List.mem_cons.1 h with rfl|h
  ·exact x.h
  ·exact EP.es_ok e h
structure Fx(P:Program)(i:IF):Type 1 where
 etys:List (Nat×Ty)
 hm:P.follows .mixedOrders=true
 fn:Func
 f:FuncId
 hf:P.funcs[f]? = some fn
 calls:List (EP P)
 sub:Bool
 tags:List (List Nat×Nat)
 ht:∀p t,rm p tags=some t->∀g ps x y,Sym.sub (ql fn) p = .rangeFunc g ps x y->LC.lc t=some (x,y)
 ls:List KL
def Fx.body(x:Fx P i):Code:=ql x.fn
def Fx.cx(x:Fx P i):Cx:={ P,tb:=⟨EP.es x.calls,x.etys,x.sub⟩,fn:=x.fn,f:=x.f,ids:=ew i.hp,rd:=q1y i.key,tags:=x.tags }
def Fx.ok(x:Fx P i):x.cx.Ok x.body:=⟨EP.es_ok,x.hm,x.hf,x.ht⟩
structure PL(x:Fx P i)(k:Nat) where
 f:(kl k x.ls).T i.R
 h:∀d',qe x.cx (ck i.hp d') i.out x.body ((kl k x.ls).lab f)
abbrev Fx.L(x:Fx P i)(k:Nat):=PL x k
structure SL(x:Fx P i) where
 q:fc i.R
 h:∀d',qe x.cx (ck i.hp d') i.out x.body q
def PL.s{x:Fx P i}{k:Nat}(p:PL x k):SL x:=⟨(kl k x.ls).lab p.f,p.h⟩
def SL.qs{x:Fx P i}:List (SL x)->List (fc i.R)|[]=>[]|s::l=>s.q::SL.qs l
def SL.qs_ok{x:Fx P i}{d':fy i.hp}:∀{l:List (SL x)},∀q∈SL.qs l,qe x.cx (ck i.hp d') i.out x.body q
 |[],_,h=>by cases h
 |s::_,q,h=>by
  rcases List.mem_cons.1 h with rfl|h
  ·exact s.h d'
  ·exact SL.qs_ok q h
def Fx.jn{x:Fx P i}{k:Nat}(f:(kl k x.ls).T i.R)(l:List (SL x))
  (h:∀d,run x.cx i.out (SL.qs l) 1000000 false (mq x.body (kl k x.ls).1) ((kl k x.ls).2.st d)=app f (mp (kl k x.ls).2.fr d.1 (gp (kl k x.ls).2.hp d.2 ()))):PL x k:=
 ⟨f,fun _=>qe.of_run x.ok (fun _ _ h=>qpo h) (SL.qs_ok) h⟩
def Fx.lp{x:Fx P i}{k:Nat}(g:Nat->(kl k x.ls).T i.R)(b:(kl k x.ls).T i.R->(kl k x.ls).T i.R)(h0:∀d:(kl k x.ls).2.den,app (g 0) (mp (kl k x.ls).2.fr d.1 (gp (kl k x.ls).2.hp d.2 ()))=none)(hg:∀n,g (n+1)=b (g n))(l:PL x k->List (SL x))
  (h:∀r d,run x.cx i.out (SL.qs (l r)) 1000000 false (mq x.body (kl k x.ls).1) ((kl k x.ls).2.st d)=app (b r.f) (mp (kl k x.ls).2.fr d.1 (gp (kl k x.ls).2.hp d.2 ()))) (n:Nat):PL x k:=
 ⟨g n,by
  induction n with
  |zero=>intro d' d r hr;have:=h0 d;rw[show((kl k x.ls).lab (g 0)).F d=none from this]at hr;cases hr
  | succ n ih=>rw[hg];exact(Fx.jn (b (g n)) (l ⟨g n,ih⟩) (h ⟨g n,ih⟩)).h⟩
def Fx.fin(x:Fx P i)(f:i.T)(l:List (SL x))(hp:ta P x.f)(hk:i.key = .fn x.f)(hb:x.fn.body=some x.body)(hfine:qpb x.cx i.args i.hp=true)
  (h:∀d d',q2b x.cx x.body i.out (SL.qs l) i.args i.hp (Pts.put i.args d) (ck i.hp d')=app f (Pts.pk i.args d (gp i.hp d' pf))):EI P i:=
 ⟨f,d5.sound_fn (e:=i.e f) (cx:=x.cx) (labs:=SL.qs l) x.ok hk hb (show q1y i.key=none by rw[hk];rfl) rfl hp hfine (fun _=>SL.qs_ok) h⟩
def Fx.fiy(x:Fx P i)(f:i.T)(l:List (SL x))(m:Nat)(hk:i.key = .yld m)(p:List Nat)(hb:zbu (Sym.sub x.body p)=true)(hfine:(rx (ew i.hp) i.args&&bIn (ew i.hp) i.hp)=true)
  (h:∀d d',zu x.cx x.body p m i.out (SL.qs l) i.hp (Pts.put i.args d) (ck i.hp d')=app f (Pts.pk i.args d (gp i.hp d' pf))):EI P i:=
 ⟨f,d5.sound_yld (e:=i.e f) (cx:=x.cx) (labs:=SL.qs l) (p:=p) (m:=m) x.ok hk (show q1y i.key=some m by rw[hk];rfl) rfl hb hfine (fun _=>SL.qs_ok) h⟩
def EI.rc(g:Nat->i.T)(b:i.T->i.T)(h0:∀d d',app (g 0) (Pts.pk i.args d (gp i.hp d' pf))=none)(hg:∀n,g (n+1)=b (g n))(s:EI P i->EI P i)(hs:∀r,(s r).f=b r.f)(n:Nat):EI P i:=
 ⟨g n,by
  induction n with
  |zero=>intro d d' r hr;have:=h0 d d';rw[show(i.e (g 0)).F d d'=none from this]at hr;cases hr
  | succ n ih=>rw[hg,← hs ⟨g n,ih⟩];exact(s ⟨g n,ih⟩).h⟩
end
end Go.Sym
namespace Go.Sym
def ov(n:Int):Option Bs:=bif decide (-9223372036854775808<=n/\n<=9223372036854775807) then some (Lib.itoa n) else none
def oq(s sep:Bs):Option Int:=bif decide (2<=List.length sep/\List.length s<4294967281/\List.length sep<=maxLen) then some (Lib.index s sep) else none
def dm{α:Type}(l:List α):Option (List α):=bif decide (List.length l<=a7) then some l else none
def gx(s:Bs)(most:Int):Int×Bool:=match Lib.atoiAll s with|.ok v=>if Lib.itoa v=s/\0<=v/\v<=most then(v,true) else(0,false)|_=>(0,false)
def xt(s:Bs)(most:Int):Option (Int×Bool):=bif decide (List.length s<=281474976710656) then some (gx s most) else none
abbrev Pc:Type:=Bs×Int×Bool×Bs
abbrev Pq:Type:={ x:Pc // -1125899906842624<=x.2.1/\x.2.1<=1125899906842624 }
instance:Inhabited Pq:=⟨⟨([],0,false,[]),by decide⟩⟩
def jc(x y:Pq):Int:=af (x.1.2.1-y.1.2.1)
def il(l:List Pq):List Pq:=(Go.Sort.pdq (Go.Proofs.ltOf jc) l.toArray 0 l.length (Lib.bitLen l.length) true true).toList
def pw:List Pc->Option (List Pq)|[]=>some []|x::l=>if h : -1125899906842624<=x.2.1/\x.2.1<=1125899906842624 then(match pw l with|some r=>some (⟨x,h⟩::r)|none=>none) else none
def ye(l:List Pc):Option (List Pc):=bif decide (List.length l<=a7) then(match pw l with|some q=>some ((il q).map (·.1))|none=>none) else none

def vu(rep:Bs):Nat->Bool->Bs->Bs
 |0,_,_=>[]|_+1,_,[]=>[]|n+1,inv,c::l=>if(Lib.decodeL (c::l)).1=65533/\(Lib.decodeL (c::l)).2=1 then(if inv then[] else rep)++vu rep n true l
  else(c::l).take (Lib.decodeL (c::l)).2++vu rep n false ((c::l).drop (Lib.decodeL (c::l)).2)
def yf(s rep:Bs):Option Bs:=bif decide (List.length s<=1000000/\List.length rep<=1000) then some (vu rep s.length false s) else none
def yg(s:Bs):Option Bool:=bif decide (List.length s<=9223372036854775807) then some (Lib.validD s) else none
def nt(a b:UInt8)(na nb:Bs)(c:UInt8):Bs:=if c=a then na else if c=b then nb else[c]
def ej(a b:UInt8)(na nb:Bs)(s:Bs):Bs:=s.flatMap (nt a b na nb)
def jd(a b:UInt8)(l:Bs):Nat:=l.count a+l.count b
def qoy(a b:UInt8)(na nb s t:Bs):ej a b na nb (s++t)=ej a b na nb s++ej a b na nb t:=List.flatMap_append
def qy9(a b:UInt8)(s t:Bs):jd a b (s++t)=jd a b s+jd a b t:=by unfold jd;rw[List.count_append,List.count_append];omega
def qza{a b:UInt8}(hab:a≠b)(c:UInt8):jd a b [c]=if c=a then 1 else if c=b then 1 else 0:=by
 unfold jd;simp only[List.count_cons,List.count_nil,beq_iff_eq];by_cases h:c=a
 ·subst h;simp[hab]
 ·by_cases h2:c=b
  ·subst h2;simp[h]
  ·simp[h,h2]
def qoz{a b:UInt8}(hab:a≠b)(a1 a2 b1 b2:UInt8):∀l:Bs,(ej a b [a1,a2] [b1,b2] l).length=l.length+jd a b l
 |[]=>rfl|c::l=>by
  have h:=qoz hab a1 a2 b1 b2 l;rw[show c::l=[c]++l from rfl,qoy,qM,qM,qy9,h,qza hab]
  have:(ej a b [a1,a2] [b1,b2] [c]).length=1+(if c=a then 1 else if c=b then 1 else 0):=by
   show(nt a b [a1,a2] [b1,b2] c++[]).length=_;unfold nt;split
   ·rfl
   ·split<;>rfl
  rw[this];simp only[qL,qZ];omega
def zao{a b:UInt8}(hab:a≠b)(na nb:Bs):∀l:Bs,jd a b l=0->ej a b na nb l=l
 |[],_=>rfl|c::l,h=>by
  rw[show c::l=[c]++l from rfl,qy9,qza hab]at h
  rw[show c::l=[c]++l from rfl,qoy,zao hab na nb l (by omega)]
  congr 1;show nt a b na nb c++[]=[c];unfold nt;by_cases h1:c=a
  ·rw[qX h1]at h;omega
  ·by_cases h2:c=b
   ·rw[qW h1,qX h2]at h;omega
   ·rw[qW h1,qW h2];rfl
def zf5{α:Type}(l:List α)(i:Nat)(h:i<l.length):l.take (i+1)=l.take i++[l[i]]:=by
 rw[List.take_add_one,List.getElem?_eq_getElem h];rfl
def u6(s:Bs)(p0 p1 _p2:Int)(on:List Bs):Option Bs:=
 match on with|[[a],[a1,a2],[b],[b1,b2]]=>bif decide (p0=0/\p1=0/\a≠b/\List.length s<=1000000) then some (ej a b [a1,a2] [b1,b2] s) else none|_=>none
def zua{s r:Bs}{p0 p1 p2:Int}{on:List Bs}(h:u6 s p0 p1 p2 on=some r) :
  ∃a a1 a2 b b1 b2,on=[[a],[a1,a2],[b],[b1,b2]]/\p0=0/\p1=0/\a≠b/\List.length s<=1000000/\r=ej a b [a1,a2] [b1,b2] s:=by
 unfold u6 at h;split at h
 ·rename_i a a1 a2 b b1 b2;cases hd:decide (p0=0/\p1=0/\a≠b/\List.length s<=1000000)<;>rw[hd]at h<;>simp only[qT,qF,reduceCtorEq]at h
  obtain⟨h1,h2,h3,h4⟩:=of_decide_eq_true hd;exact⟨a,a1,a2,b,b1,b2,rfl,h1,h2,h3,h4,(qJ h).symm⟩
 ·cases h
open Go.RowKit
variable[LC]
def uu(b:List UInt8)(c:UInt8):Option Int:=some (Lib.indexByte b c)
def qul(f:FuncId)(r:List UInt8->UInt8->Option Int):d5:={ key := .ext f,args:=[.h (.list .byte),.h .byte],hp:=[],R:=Int,F:=fun d _=>r d.1 d.2.1,out := .one (α:=Int) (.h (.int .i64)) [] (fun r=>(r,())) (fun y=>y.1) (fun _=>rfl) }
def quk(f:FuncId)(r:List UInt8->UInt8->Option Int):d5:={ key := .ext f,args:=[.h .str,.h .byte],hp:=[],R:=Int,F:=fun d _=>r d.1 d.2.1,out := .one (α:=Int) (.h (.int .i64)) [] (fun r=>(r,())) (fun y=>y.1) (fun _=>rfl) }
def q9p(c:UInt8):((c.toNat:Int)).toNat.toUInt8=c:=by simp
def zpy {P : Program} {f : FuncId} {fn : Func} (hf : P.funcs[f]? = some fn) (hname : (fn.name == "runtime.NumGoroutine") = false) (hb : fn.body.isNone = true) (hn : Extern.findNext fn = none) (he : Extern.find fn = some Extern.BytealgIndexByte.indexByte) (b : List UInt8) (c : UInt8) :
  qkx P f [.str b,.byte c] (.int .i64 (Lib.indexByte b c)):=fun w G vs _ hr=>by
 match vs,hr with
 |[v1,v2],⟨h1,h2,_⟩=>
  have h1:v1 = .string ⟨b.toArray⟩:=h1;have h2:v2 = .int .u8 c.toNat:=h2;subst h1 h2;refine⟨.int .i64 (Lib.indexByte b c),?_,rfl⟩;rw[run_callFunc_extern hf hname hb hn he,show([Value.string ⟨b.toArray⟩,.int .u8 c.toNat]:List Value).toArray=#[.string ⟨b.toArray⟩,.int .u8 c.toNat] from rfl,Lib.run_indexByteString,q9p]
  rfl
def zpz {P : Program} {f : FuncId} {fn : Func} (hf : P.funcs[f]? = some fn) (hname : (fn.name == "runtime.NumGoroutine") = false) (hb : fn.body.isNone = true) (hn : Extern.findNext fn = none) (he : Extern.find fn = some Extern.BytealgIndexByte.indexByte) (b : List UInt8) (c : UInt8) :
  qkx P f [.sl .byte b,.byte c] (.int .i64 (Lib.indexByte b c)):=fun w G vs hm hr=>by
 match vs,hr with
 |[v1,v2],⟨h1,h2,_⟩=>
  have h2:v2 = .int .u8 c.toNat:=h2;subst h2;obtain⟨a,cp,rfl,hc,hl⟩:ja 1 (Ty.byte.At G.imm) b v1:=h1;refine⟨.int .i64 (Lib.indexByte b c),?_,rfl⟩;rw[run_callFunc_extern hf hname hb hn he];have key:∀k:Int,(Extern.BytealgIndexByte.indexByte #[.slice a b.length cp,.int .u8 c.toNat]).run P w = .ok (.int .i64 k) w->((Extern.BytealgIndexByte.indexByte ([Value.slice a b.length cp,.int .u8 c.toNat]:List Value).toArray).run P w).andThen (fun v w'=>Result.ok (Next.value v) w') = .ok (.value (.int .i64 k)) w:=by
   intro k hk;have e:([Value.slice a b.length cp,.int .u8 c.toNat]:List Value).toArray=#[.slice a b.length cp,.int .u8 c.toNat]:=rfl;rw[e,hk];rfl
  refine key _ ?_;have bb:Lib.bytesOf (b.map fun x=>(x.toNat:Int))=b:=by
   unfold Lib.bytesOf;rw[List.map_map];have:((fun n:Int=>UInt8.ofNat n.toNat) ∘ fun x:UInt8=>(x.toNat:Int))=id:=by funext x;simp
   rw[this,List.map_id]
  rcases hl with rfl|⟨g,o,rfl,hcells⟩
  ·have hs:=Lib.run_indexByteString (P:=P) .empty (c.toNat:Int) w
   cases a with|none=>exact hs|some ad=>exact hs
  ·have:=Lib.run_indexByteSlice (P:=P) (w:=w) g o b.length cp (b.map fun x=>(x.toNat:Int)) (by simp) (fun i hi=>by
    have hk:G.imm g (o+i*1)=some (.int .u8 b[i].toNat):=hcells i _ (List.getElem?_eq_getElem hi);have:=hm.agree _ _ _ hk;rw[Nat.mul_one]at this;rw[this];simp[List.getD_eq_getElem?_getD,hi]) (c.toNat:Int)
   rw[bb,q9p]at this;exact this
def zj5 {P : Program} {f : FuncId} {fn : Func} (hf : P.funcs[f]? = some fn) (hname : (fn.name == "runtime.NumGoroutine") = false) (hb : fn.body.isNone = true) (hn : Extern.findNext fn = none) (he : Extern.find fn = some Extern.BytealgIndexByte.indexByte) :
  (quk f uu).Sound P:=fun d d' r h=>by
 have h:some (Lib.indexByte (show List UInt8 from d.1) (show UInt8 from d.2.1))=some r:=h
 have h:=qJ h;subst h;exact zpy hf hname hb hn he _ _
def zj7 {P : Program} {f : FuncId} {fn : Func} (hf : P.funcs[f]? = some fn) (hname : (fn.name == "runtime.NumGoroutine") = false) (hb : fn.body.isNone = true) (hn : Extern.findNext fn = none) (he : Extern.find fn = some Extern.BytealgIndexByte.indexByte) :
  (qul f uu).Sound P:=fun d d' r h=>by
 have h:some (Lib.indexByte (show List UInt8 from d.1) (show UInt8 from d.2.1))=some r:=h
 have h:=qJ h;subst h;exact zpz hf hname hb hn he _ _
end Go.Sym
namespace Go.Sym
open Go.ChangeShapes Go.WideShapes Go.ChangeAt Go.RowKit
variable[LC]
def Gw(w:World):Gh:=⟨fun b o=>match w.cell? ⟨b,o,none⟩ with|some v=>if v.oneCell'=true then some v else none|none=>none,fun _=>none,fun _=>none⟩
def qxw{w:World}{b o:Nat}{v:Value}(h:w.cell? ⟨b,o,none⟩=some v)(h1:v.oneCell'=true):(Gw w).imm b o=some v:=by
 simp only[Gw];rw[h];simp[h1]
def zke(w:World)(ht:LC.tab (Gw w).imm w):cn (Gw w) [] w:=by
 have key:∀b o v,(Gw w).imm b o=some v->w.cell? ⟨b,o,none⟩=some v/\v.oneCell'=true:=by
  intro b o v h;simp only[Gw]at h;split at h
  ·rename_i u hu;split at h
   ·rename_i h1;cases h;exact⟨hu,h1⟩
   ·cases h
  ·cases h
 exact⟨fun b o v h=>(key b o v h).1,fun b o v h=>(key b o v h).2,fun n bx h=>(by cases h),fun n m bx bx' b h=>(by cases h),ht⟩
inductive qx8{α:Type}(p:α->Prop):Tree α->Prop
 |mk (a:α) (l:List (Tree α)):p a->l.length<=maxLen->(∀x∈l,qx8 p x)->qx8 p (.node a l)
def Ty.bd:(τ:Ty)->τ.den->Prop|.int k,n=>(Lit.int k n).wf=true|.str,s=>List.length s<=maxLen|.prod a b,x=>a.bd x.1/\b.bd x.2|.list a,l=>List.length l<=maxLen/\∀x∈(show List a.den from l),a.bd x|.tree a,t=>qx8 a.bd t|_,_=>True
def qc4(P:Program)(rec:Ty->TypeId->Bool):Ty->List Field->Nat->Bool|τ,[f],o=>f.offset==o&&(P.cellsOf f.type==τ.sz&&rec τ f.type)|.prod a b,f::fs,o=>f.offset==o&&(P.cellsOf f.type==a.sz&&(rec a f.type&&qc4 P rec b fs (o+a.sz)))|_,_,_=>false
def qqt(P:Program)(t g:TypeId):Bool:=match P.underlying g with|some (.slice e)=>e==t|_=>false
def z8(P:Program)(rec:Ty->TypeId->Bool)(t:TypeId):Ty->List Field->Nat->Bool|τ,[f,g],o=>f.offset==o&&(P.cellsOf f.type==τ.sz&&(rec τ f.type&&(g.offset==o+τ.sz&&(P.cellsOf g.type==1&&qqt P t g.type))))|.prod a b,f::fs,o=>f.offset==o&&(P.cellsOf f.type==a.sz&&(rec a f.type&&z8 P rec t b fs (o+a.sz)))|_,_,_=>false
def dp(P:Program):Nat->Ty->TypeId->Bool
 |0,_,_=>false|_+1,.int k,t=>match P.underlying t with|some (.int k')=>decide (k'=k)|_=>false
 |_+1,.byte,t=>match P.underlying t with|some (.int k')=>decide (k' = .u8)|_=>false
 |_+1,.bool,t=>match P.underlying t with|some .bool=>true|_=>false
 |_+1,.str,t=>match P.underlying t with|some .string=>true|_=>false
 |n+1,.list a,t=>match P.underlying t with|some (.slice e)=>P.cellsOf e==a.sz&&(decide (0<a.sz)&&dp P n a e)|_=>false
 |n+1,.prod a b,t=>match P.underlying t with|some (.struct fs)=>P.cellsOf t==(Ty.prod a b).sz&&qc4 P (dp P n) (.prod a b) fs.toList 0|_=>false
 |n+1,.tree a,t=>match P.underlying t with|some (.struct fs)=>P.cellsOf t==(Ty.tree a).sz&&z8 P (dp P n) t a fs.toList 0|_=>false
 |_+1,_,_=>false
def zgm{P:Program}{n:Nat}{k:IntKind}{t:TypeId}(h:dp P (n+1) (.int k) t=true):P.underlying t=some (.int k):=by
 unfold dp at h;split at h
 ·rename_i k' e;rw[e,of_decide_eq_true h]
 ·cases h
def zgl{P:Program}{n:Nat}{t:TypeId}(h:dp P (n+1) .byte t=true):P.underlying t=some (.int .u8):=by
 unfold dp at h;split at h
 ·rename_i k' e;rw[e,of_decide_eq_true h]
 ·cases h
def zgk{P:Program}{n:Nat}{t:TypeId}(h:dp P (n+1) .bool t=true):P.underlying t=some .bool:=by
 unfold dp at h;split at h
 ·rename_i e;exact e
 ·cases h
def zgn{P:Program}{n:Nat}{t:TypeId}(h:dp P (n+1) .str t=true):P.underlying t=some .string:=by
 unfold dp at h;split at h
 ·rename_i e;exact e
 ·cases h
def al.app{G:Gh}:∀{xs ys:List AV}{us vs:List Value},al xs G us->al ys G vs->al (xs++ys) G (us++vs)|[],_,[],_,_,h=>h|[],_,_::_,_,h,_=>by simp[al]at h|_::_,_,[],_,h,_=>by simp[al]at h|_::_,_,_::_,_,h,k=>⟨h.1,al.app h.2 k⟩
def qot{G:Gh}:∀(τ:Ty)(x:τ.den)(cs:List Value),al (τ.enc x) G cs->∀v∈cs,v.oneCell'=true
 |.int k,n,[v],h,u,hu=>by
  rw[List.mem_singleton]at hu;subst hu;have h1:u = .int k n:=h.1;rw[h1];rfl
 |.byte,c,[v],h,u,hu=>by
  rw[List.mem_singleton]at hu;subst hu;have h1:u = .int .u8 (UInt8.toNat c):=h.1;rw[h1];rfl
 |.bool,c,[v],h,u,hu=>by
  rw[List.mem_singleton]at hu;subst hu;have h1:u = .bool c:=h.1;rw[h1];rfl
 |.str,s,[v],h,u,hu=>by
  rw[List.mem_singleton]at hu;subst hu;have h1:u = .string ⟨List.toArray s⟩:=h.1;rw[h1];rfl
 |.list a,l,[v],h,u,hu=>by
  rw[List.mem_singleton]at hu;subst hu;obtain⟨ad,c,rfl,_⟩:ja a.sz (a.At G.imm) l u:=h.1;rfl
 |.unit,_,[],_,u,hu=>by cases hu
 |.unit,_,_::_,h,_,_=>by simp[Ty.enc,al]at h|.prod a b,x,cs,h,u,hu=>by
  have key:∀(xs ys:List AV)(cs:List Value),al (xs++ys) G cs->∃us vs,cs=us++vs/\al xs G us/\al ys G vs:=by
   intro xs
   induction xs with
   |nil=>intro ys cs h;exact⟨[],cs,rfl,trivial,h⟩|cons x xs ih=>
    intro ys cs h
    cases cs with
    |nil=>simp[al]at h|cons c cs=>
     obtain⟨us,vs,e,h1,h2⟩:=ih ys cs h.2;exact⟨c::us,vs,by rw[e];rfl,⟨h.1,h1⟩,h2⟩
  obtain⟨us,vs,rfl,h1,h2⟩:=key _ _ _ h;rcases List.mem_append.1 hu with q|q
  ·exact qot a x.1 us h1 u q
  ·exact qot b x.2 vs h2 u q
 |.tree a,x,cs,h,u,hu=>by
  have key:∀(xs ys:List AV)(cs:List Value),al (xs++ys) G cs->∃us vs,cs=us++vs/\al xs G us/\al ys G vs:=by
   intro xs
   induction xs with
   |nil=>intro ys cs h;exact⟨[],cs,rfl,trivial,h⟩|cons x xs ih=>
    intro ys cs h
    cases cs with
    |nil=>simp[al]at h|cons c cs=>
     obtain⟨us,vs,e,h1,h2⟩:=ih ys cs h.2;exact⟨c::us,vs,by rw[e];rfl,⟨h.1,h1⟩,h2⟩
  obtain⟨us,vs,rfl,h1,h2⟩:=key _ _ _ h;rcases List.mem_append.1 hu with q|q
  ·exact qot a _ us h1 u q
  ·cases vs with
   |nil=>cases q
   |cons v vs=>
    cases vs with
    |cons v' vs=>simp[al]at h2|nil=>
     rw[List.mem_singleton]at q;subst q;obtain⟨ad,c,rfl,_⟩:ja (Ty.tree a).sz ((Ty.tree a).At G.imm) (Tree.kids x) u:=h2.1;rfl
 |.int _,_,[],h,_,_=>by simp[Ty.enc,al]at h|.int _,_,_::_::_,h,_,_=>by simp[Ty.enc,al]at h|.byte,_,[],h,_,_=>by simp[Ty.enc,al]at h|.byte,_,_::_::_,h,_,_=>by simp[Ty.enc,al]at h|.bool,_,[],h,_,_=>by simp[Ty.enc,al]at h|.bool,_,_::_::_,h,_,_=>by simp[Ty.enc,al]at h|.str,_,[],h,_,_=>by simp[Ty.enc,al]at h|.str,_,_::_::_,h,_,_=>by simp[Ty.enc,al]at h|.list _,_,[],h,_,_=>by simp[Ty.enc,al]at h|.list _,_,_::_::_,h,_,_=>by simp[Ty.enc,al]at h
def al.cells{w:World}{b:Nat}:∀(xs:List AV)(cs:List Value)(o:Nat),al xs (Gw w) cs->(∀v∈cs,v.oneCell'=true)->(∀(j:Nat)(v:Value),cs[j]? = some v->w.cell? ⟨b,o+j,none⟩=some v)->ce xs (Gw w) b o
 |[],[],_,_,_,_=>trivial|[],_::_,_,h,_,_=>by simp[al]at h|_::_,[],_,h,_,_=>by simp[al]at h|x::xs,c::cs,o,h,h1,h2=>by
  refine⟨⟨c,qxw (h2 0 c rfl) (h1 c qH),h.1⟩,al.cells xs cs (o+1) h.2 (fun v hv=>h1 v (qE _ hv)) (fun j v hj => ?_)⟩
  have:=h2 (j+1) v hj;rw[show o+1+j=o+(j+1) by omega];exact this
structure su(H:Type) where
 b:DataW H->Nat
 ba:List (DataW H)->Nat
 str:∀s,b (.lit (.string s))=s.length+1
 lit:∀l,1<=b (.lit l)
 nilb:b .nil=1
 sl:∀e r,b (.slice e r)=ba e+ba r+1
 agg:∀l,b (.agg l)=ba l+1
 nil:ba []=0
 cons:∀d r,ba (d::r)=b d+ba r
def su.app{H:Type}(B:su H):∀(l r:List (DataW H)),B.ba (l++r)=B.ba l+B.ba r|[],r=>by rw[List.nil_append,B.nil,wO]|d::l,r=>by rw[wK,B.cons,B.cons,B.app l r,Nat.add_assoc]
mutual
def qdx{α:Type}(f:α->Nat):Tree α->Nat|.node a l=>f a+qj1 f l+2
def qj1{α:Type}(f:α->Nat):List (Tree α)->Nat|[]=>0|t::l=>qdx f t+qj1 f l
end
def zge{α:Type}(f:α->Nat):∀l:List (Tree α),qj1 f l=(l.map (qdx f)).sum|[]=>by simp[qj1]|t::l=>by rw[qj1,zge f l,List.map_cons,List.sum_cons]
def zgd{α:Type}(f:α->Nat)(a:α)(l:List (Tree α)):qdx f (.node a l)=f a+(l.map (qdx f)).sum+2:=by
 rw[← zge];simp only[qdx]
def Ty.bk:(τ:Ty)->τ.den->Nat|.str,s=>List.length s+1|.prod a b,x=>a.bk x.1+b.bk x.2|.list a,l=>((show List a.den from l).map a.bk).sum+1|.unit,_=>0|.tree a,t=>qdx a.bk t|_,_=>1
section
variable{H:Type}{enc:TypeId×Value->H}{P:Program}{w:World}{base:Nat}{spare:Nat->Bool}{held:Bool}
def za5(B:su H)(n m:Nat)(cs:List Value)
  (ih:∀(τ:Ty)(t:TypeId)(cs:List Value)(y:DataW H×List MemPlace),dp P n τ t=true->DataW.trod enc P w base spare held m t cs=some y->∃x:τ.den,τ.bd x/\al (τ.enc x) (Gw w) cs/\τ.bk x<=B.b y.1) :
  ∀(fs:List Field)(τ:Ty)(o:Nat)(xs:List (DataW H×List MemPlace)),qc4 P (dp P n) τ fs o=true->xs.length=fs.length->(∀(i:Nat)(f:Field),fs[i]? = some f->DataW.trod enc P w base spare held m f.type ((cs.drop f.offset).take (P.cellsOf f.type))=xs[i]?) ->
   ∃x:τ.den,τ.bd x/\al (τ.enc x) (Gw w) ((cs.drop o).take τ.sz)/\τ.bk x<=B.ba (xs.map (·.1))
 |[],τ,o,xs,h,_,_=>by cases τ<;>simp[qc4]at h
 |[f],τ,o,xs,h,hl,hf=>by
  have h':(f.offset==o&&(P.cellsOf f.type==τ.sz&&dp P n τ f.type))=true:=by cases τ<;>exact h
  simp only[qA,beq_iff_eq]at h'
  match xs,hl with
  |[y],_=>
   have hy:DataW.trod enc P w base spare held m f.type ((cs.drop f.offset).take (P.cellsOf f.type))=some y:=hf 0 f rfl;rw[h'.1,h'.2.1]at hy;obtain⟨x,x1,x2,x3⟩:=ih τ f.type _ y h'.2.2 hy;exact⟨x,x1,x2,by simp only[List.map_cons,List.map_nil,B.cons,B.nil];omega⟩
 |f::g::fs,τ,o,xs,h,hl,hf=>by
  cases τ with
  |prod a b=>
   have h':(f.offset==o&&(P.cellsOf f.type==a.sz&&(dp P n a f.type&&qc4 P (dp P n) b (g::fs) (o+a.sz))))=true:=h;simp only[qA,beq_iff_eq]at h'
   match xs,hl with
   |y::ys,hl=>
    have hy:DataW.trod enc P w base spare held m f.type ((cs.drop f.offset).take (P.cellsOf f.type))=some y:=hf 0 f rfl;rw[h'.1,h'.2.1]at hy;obtain⟨x1,b1,r1,k1⟩:=ih a f.type _ y h'.2.2.1 hy;obtain⟨x2,b2,r2,k2⟩:=za5 B n m cs ih (g::fs) b (o+a.sz) ys h'.2.2.2 (by simpa using hl) (fun i f' hf'=>hf (i+1) f' hf')
    refine⟨(x1,x2),⟨b1,b2⟩,?_,?_⟩
    ·show al (a.enc x1++b.enc x2) (Gw w) ((cs.drop o).take (a.sz+b.sz));rw[List.take_add,List.drop_drop];exact al.app r1 r2
    ·show a.bk x1+b.bk x2<=_;rw[List.map_cons,B.cons];omega
  |_=>simp[qc4]at h
def zgg(B:su H)(n m:Nat)(cs:List Value){vj2:Ty}(t:TypeId)
  (ih:∀(τ:Ty)(t:TypeId)(cs:List Value)(y:DataW H×List MemPlace),dp P n τ t=true->DataW.trod enc P w base spare held m t cs=some y->∃x:τ.den,τ.bd x/\al (τ.enc x) (Gw w) cs/\τ.bk x<=B.b y.1)
  (ihk:∀(g:TypeId)(cs:List Value)(y:DataW H×List MemPlace),qqt P t g=true->DataW.trod enc P w base spare held m g cs=some y->∃l:List (Ty.tree vj2).den,(Ty.list (.tree vj2)).bd l/\al [.sl (.tree vj2) l] (Gw w) cs/\(l.map (Ty.tree vj2).bk).sum+1<=B.b y.1) :
  ∀(fs:List Field)(τ:Ty)(o:Nat)(xs:List (DataW H×List MemPlace)),z8 P (dp P n) t τ fs o=true->xs.length=fs.length->(∀(i:Nat)(f:Field),fs[i]? = some f->DataW.trod enc P w base spare held m f.type ((cs.drop f.offset).take (P.cellsOf f.type))=xs[i]?) ->
   ∃(x:τ.den)(l:List (Ty.tree vj2).den),τ.bd x/\(Ty.list (.tree vj2)).bd l/\al (τ.enc x++[.sl (.tree vj2) l]) (Gw w) ((cs.drop o).take (τ.sz+1))/\τ.bk x+((l.map (Ty.tree vj2).bk).sum+1)<=B.ba (xs.map (·.1))
 |[],τ,o,xs,h,_,_=>by cases τ<;>simp[z8]at h
 |[f],τ,o,xs,h,_,_=>by cases τ<;>simp[z8]at h
 |[f,g],τ,o,xs,h,hl,hf=>by
  have h':(f.offset==o&&(P.cellsOf f.type==τ.sz&&(dp P n τ f.type&&(g.offset==o+τ.sz&&(P.cellsOf g.type==1&&qqt P t g.type)))))=true:=by cases τ<;>exact h
  simp only[qA,beq_iff_eq]at h'
  match xs,hl with
  |[y,z],_=>
   have hy:DataW.trod enc P w base spare held m f.type ((cs.drop f.offset).take (P.cellsOf f.type))=some y:=hf 0 f rfl;have hz:DataW.trod enc P w base spare held m g.type ((cs.drop g.offset).take (P.cellsOf g.type))=some z:=hf 1 g rfl;rw[h'.1,h'.2.1]at hy;rw[h'.2.2.2.1,h'.2.2.2.2.1]at hz;obtain⟨x,x1,x2,x3⟩:=ih τ f.type _ y h'.2.2.1 hy;obtain⟨l,l1,l2,l3⟩:=ihk g.type _ z h'.2.2.2.2.2 hz;refine⟨x,l,x1,l1,?_,by simp only[List.map_cons,List.map_nil,B.cons,B.nil];omega⟩
   rw[List.take_add,List.drop_drop];exact al.app x2 l2
 |f::g::k::fs,τ,o,xs,h,hl,hf=>by
  cases τ with
  |prod a b=>
   have h':(f.offset==o&&(P.cellsOf f.type==a.sz&&(dp P n a f.type&&z8 P (dp P n) t b (g::k::fs) (o+a.sz))))=true:=h;simp only[qA,beq_iff_eq]at h'
   match xs,hl with
   |y::ys,hl=>
    have hy:DataW.trod enc P w base spare held m f.type ((cs.drop f.offset).take (P.cellsOf f.type))=some y:=hf 0 f rfl;rw[h'.1,h'.2.1]at hy;obtain⟨x1,b1,r1,k1⟩:=ih a f.type _ y h'.2.2.1 hy;obtain⟨x2,l,b2,bl,r2,k2⟩:=zgg B n m cs t ih ihk (g::k::fs) b (o+a.sz) ys h'.2.2.2 (by simpa using hl) (fun i f' hf'=>hf (i+1) f' hf')
    refine⟨(x1,x2),l,⟨b1,b2⟩,bl,?_,?_⟩
    ·show al ((a.enc x1++b.enc x2)++[.sl (.tree vj2) l]) (Gw w) ((cs.drop o).take ((a.sz+b.sz)+1));rw[qS,Nat.add_assoc,List.take_add,List.drop_drop];exact al.app r1 r2
    ·show(a.bk x1+b.bk x2)+_<=_;rw[List.map_cons,B.cons];omega
  |_=>simp[z8]at h
def zr9(B:su H):∀(m n:Nat)(τ:Ty)(t:TypeId)(cs:List Value)(y:DataW H×List MemPlace),dp P n τ t=true->DataW.trod enc P w base spare held m t cs=some y->∃x:τ.den,τ.bd x/\al (τ.enc x) (Gw w) cs/\τ.bk x<=B.b y.1:=by
 intro m
 induction m with
 |zero=>intro n τ t cs y _ h;simp[DataW.trod]at h|succ m ih=>
  intro n τ t cs y ht h
  cases n with
  |zero=>simp[dp]at ht|succ n=>
   cases τ with
   |int k=>
    obtain⟨n,rfl,rfl,hw⟩:=DataW.trod_int (zgm ht) h;exact⟨n,hw,⟨rfl,trivial⟩,B.lit _⟩
   |byte=>
    obtain⟨n,rfl,rfl,hw⟩:=DataW.trod_int (zgl ht) h;have hb:0<=n/\n<=255:=by simp only[Lit.wf,qA,decide_eq_true_eq]at hw;exact hw
    refine⟨UInt8.ofNat n.toNat,trivial,⟨?_,trivial⟩,B.lit _⟩;show Value.int .u8 n = .int .u8 ((UInt8.ofNat n.toNat).toNat:Int);rw[UInt8.toNat_ofNat',Nat.mod_eq_of_lt (by omega)]
    congr 1;omega
   |bool=>
    obtain⟨b,rfl,rfl⟩:=DataW.trod_bool (zgk ht) h;exact⟨b,trivial,⟨rfl,trivial⟩,B.lit _⟩
   |str=>
    obtain⟨s,rfl,rfl,hs⟩:=DataW.trod_string (zgn ht) h;refine⟨s.data.toList,?_,⟨?_,trivial⟩,Nat.le_of_eq (B.str _).symm⟩
    ·show s.data.toList.length<=maxLen;rw[Array.length_toList];exact hs
    ·show Value.string s = .string ⟨s.data.toList.toArray⟩;simp
   |unit=>simp[dp]at ht|tree a=>
    have ht0:=ht;unfold dp at ht;split at ht
    ·rename_i fs hu;simp only[qA,beq_iff_eq]at ht;obtain⟨xs,n',e1,rfl,ac,hxl,hg⟩:=DataW.trod_struct hu h;cases e1
     obtain⟨x,l,hb,hbl,hr,hk⟩:=zgg B n m cs t (fun τ t cs y=>ih n τ t cs y) (fun g cs y hg hy=>by
      have hg':dp P (n+2) (.list (.tree a)) g=true:=by
       unfold qqt at hg;unfold dp;split at hg
       ·rename_i e he;have:e=t:=by simpa using hg
        subst this;simp only[qA,beq_iff_eq,decide_eq_true_eq];exact⟨ht.1,by simp[Ty.sz],ht0⟩
       ·cases hg
      exact ih (n+2) (.list (.tree a)) g cs y hg' hy) fs.toList a 0 xs ht.2 (by rw[hxl,Array.length_toList]) (fun i f hf=>hg i f (by rw[← Array.getElem?_toList];exact hf))
     refine⟨.node x l,.mk x l hb hbl.1 hbl.2,?_,?_⟩
     ·rw[List.drop_zero,List.take_of_length_le (by rw[ac,ht.1];exact wF _)]at hr
      exact hr
     ·rw[B.agg];have e:(Ty.tree a).bk (.node x l)=a.bk x+(l.map (Ty.tree a).bk).sum+2:=zgd a.bk x l;omega
    ·cases ht
   |prod a b=>
    unfold dp at ht;split at ht
    ·rename_i fs hu;simp only[qA,beq_iff_eq]at ht;obtain⟨xs,n',e1,rfl,ac,hxl,hg⟩:=DataW.trod_struct hu h;cases e1
     obtain⟨x,hb,hr,hk⟩:=za5 B n m cs (fun τ t cs y=>ih n τ t cs y) fs.toList (.prod a b) 0 xs ht.2 (by rw[hxl,Array.length_toList]) (fun i f hf=>hg i f (by rw[← Array.getElem?_toList];exact hf))
     refine⟨x,hb,?_,by rw[B.agg];omega⟩
     rw[List.drop_zero,List.take_of_length_le (by rw[ac,ht.1];exact wF _)]at hr
     exact hr
    ·cases ht
   |list a=>
    unfold dp at ht;split at ht
    ·rename_i e hu;simp only[qA,beq_iff_eq,decide_eq_true_eq]at ht;obtain⟨hsz,hpos,hte⟩:=ht;rcases DataW.trod_slice hu h with⟨rfl,rfl⟩|⟨ad,len,cap,elems,rest,n',e1,rfl,rfl,_,hlc,hcm,hel,hget,_⟩
     ·exact⟨[],⟨Nat.zero_le _,fun x hx=>by cases hx⟩,⟨⟨none,0,rfl,wF _,.inl rfl⟩,trivial⟩,Nat.le_of_eq (show 0+1=_ by rw[B.nilb])⟩
     ·cases e1
      have each:∀i,i<len->∃(x:a.den)(h:i<elems.length),a.bd x/\ad.spot=none/\a.At (Gw w).imm x ad.block (ad.off+i*a.sz)/\a.bk x<=B.b elems[i].1:=by
       intro i hi;have h1:=hget i hi;rw[List.getElem?_eq_getElem (by omega)]at h1
       obtain⟨cs,hc,hc2⟩:=Option.bind_eq_some_iff.1 h1;obtain⟨x,hb,hr,hk⟩:=ih n a e cs _ hte hc2;unfold World.cells? at hc;split at hc
       ·have hl:=mapM_some_length hc;rw[List.length_range,hsz]at hl;have hcell:∀(j:Nat)(v:Value),cs[j]? = some v->w.cell? ((ad.add (i*P.cellsOf e)).add j)=some v:=by
         intro j v hj;have hj':j<cs.length:=by
          by_cases q:j<cs.length
          ·exact q
          ·rw[List.getElem?_eq_none (by omega)]at hj;cases hj
         have:=mapM_some_get hc j j (by rw[List.getElem?_range (by omega)])
         rw[this,hj]
        have hspot:ad.spot=none:=by
         have g0:=hget 0 (by omega)
         rw[List.getElem?_eq_getElem (by omega)]at g0
         obtain⟨cs0,hc0,_⟩:=Option.bind_eq_some_iff.1 g0;unfold World.cells? at hc0;split at hc0
         ·have pf:=mapM_some_length hc0;rw[List.length_range,hsz]at pf;have:=mapM_some_get hc0 0 0 (by rw[List.getElem?_range (by omega)])
          rw[List.getElem?_eq_getElem (by omega)]at this
          simp only[Nat.zero_mul,Addr.add,if_true]at this;unfold World.cell? at this
          cases hs:ad.spot with
          |none=>rfl|some q=>
           rw[hs]at this;split at this
           ·simp at this
           ·cases this
         ·cases hc0
        refine⟨x,by omega,hb,hspot,?_,hk⟩
        refine ss.1 (al.cells _ cs _ hr (qot a x cs hr) (fun j v hj => ?_))
        have:=hcell j v hj;rw[hsz]at this;have ea:(ad.add (i*a.sz)).add j=⟨ad.block,ad.off+i*a.sz+j,none⟩:=by
         obtain⟨b,o,s⟩:=ad;simp only[]at hspot;subst hspot;unfold Addr.add;by_cases q1:i*a.sz=0
         ·by_cases q2:j=0
          ·simp[q1,q2]
          ·simp[q1,q2]
         ·by_cases q2:j=0
          ·simp[q1,q2]
          ·simp[q1,q2]
        rw[ea]at this;exact this
       ·cases hc
      have lst:∀k,k<=len->∃l:List a.den,l.length=k/\(∀x∈l,a.bd x)/\(∀(j:Nat)(x:a.den),l[j]? = some x->a.At (Gw w).imm x ad.block (ad.off+j*a.sz))/\(l.map a.bk).sum<=B.ba ((elems.take k).map (·.1)):=by
       intro k
       induction k with
       |zero=>intro _;exact⟨[],rfl,fun x hx=>(by cases hx),fun j x hj=>(by simp at hj),by simp⟩
       |succ k ihk=>
        intro hk;obtain⟨l,l1,l2,l3,l4⟩:=ihk (by omega)
        obtain⟨x,hx,x1,_,x2,x3⟩:=each k (by omega)
        refine⟨l++[x],by simp[l1],fun y hy => ?_,fun j y hj => ?_,?_⟩
        ·rcases List.mem_append.1 hy with q|q
         ·exact l2 y q
         ·rw[List.mem_singleton]at q;subst q;exact x1
        ·by_cases q:j<l.length
         ·rw[List.getElem?_append_left q]at hj;exact l3 j y hj
         ·rw[List.getElem?_append_right (by omega)]at hj
          have:j=k:=by
           by_cases q2:j-l.length=0
           ·omega
           ·rw[List.getElem?_eq_none (by simp;omega)]at hj;cases hj
          subst this;rw[l1,Nat.sub_self]at hj;cases hj
          exact x2
        ·rw[List.take_succ_eq_append_getElem hx,List.map_append,List.map_append,B.app,List.sum_append];simp only[List.map_cons,List.map_nil,B.cons,B.nil,List.sum_cons,List.sum_nil];omega
      obtain⟨l,l1,l2,l3,l4⟩:=lst len (wF _);refine⟨l,⟨by show l.length<=maxLen;omega,l2⟩,⟨⟨some ad,cap,by rw[← l1],by omega,?_⟩,trivial⟩,?_⟩
      rotate_left
      ·rw[List.take_of_length_le (by omega)]at l4
       rw[B.sl];show(l.map a.bk).sum+1<=_;omega
      by_cases q:l=[]
      ·exact .inl q
      ·obtain⟨_,_,_,hs,_⟩:=each 0 (by have:=List.length_pos_iff.2 q;omega)
       refine .inr ⟨ad.block,ad.off,?_,l3⟩;cases ad;simp only[]at hs;subst hs;rfl
    ·cases ht
def zr8(B:su H){r:Reach}{bb n:Nat}{τ:Ty}{t:TypeId}{v:Value}{d:DataW H}{ps:List MemPlace}(ht:dp P n τ t=true)(hv:Value.okWide P w r bb t v)(h:DataW.Trod enc P w base spare held t v d ps) :
  ∃x:τ.den,τ.bd x/\ak (τ.av x) (Gw w) v/\τ.bk x<=B.b d:=by
 obtain⟨m,hm⟩:=h;obtain⟨x,hb,hr,hk⟩:=zr9 B m n τ t _ _ ht hm;refine⟨x,hb,?_,hk⟩
 cases n with
 |zero=>simp[dp]at ht|succ n=>
  cases τ with
  |int k=>obtain⟨_,rfl⟩:=okWide_int (zgm ht) hv;exact hr.1
  |byte=>obtain⟨_,rfl⟩:=okWide_int (zgl ht) hv;exact hr.1
  |bool=>obtain⟨_,rfl⟩:=okWide_bool (zgk ht) hv;exact hr.1
  |str=>obtain⟨_,rfl⟩:=okWide_string (zgn ht) hv;exact hr.1
  |unit=>simp[dp]at ht|tree a=>
   unfold dp at ht;split at ht
   ·rename_i fs hu;obtain⟨cs,rfl,_⟩:=okWide_struct hu hv;exact⟨cs,rfl,hr⟩
   ·cases ht
  |prod a b=>
   unfold dp at ht;split at ht
   ·rename_i fs hu;obtain⟨cs,rfl,_⟩:=okWide_struct hu hv;exact⟨cs,rfl,hr⟩
   ·cases ht
  |list a=>
   unfold dp at ht;split at ht
   ·rename_i e hu;obtain⟨_,_,_,rfl⟩:=okWide_slice hu hv;exact hr.1
   ·cases ht
end
end Go.Sym
namespace Go.Sym
open Go.ChangeShapes Go.WideShapes Go.ChangeAt Go.RowKit
variable[LC]
def qaa(P:Program)(n:Nat):List Ty->List TypeId->Bool|[],[]=>true|τ::τs,t::ts=>dp P n τ t&&qaa P n τs ts|_,_=>false
def bds:(τs:List Ty)->Pts.den (τs.map .h)->Prop|[],_=>True|τ::τs,x=>τ.bd x.1/\bds τs x.2
mutual
def cnt{H:Type}:DataW H->Nat|.lit (.string s)=>s.length+1|.slice e r=>qok e+qok r+1|.agg l=>qok l+1|_=>1
def qok{H:Type}:List (DataW H)->Nat|[]=>0|d::l=>cnt d+qok l
end
section
variable{H:Type}{enc:TypeId×Value->H}{P:Program}{w:World}{base:Nat}{spare:Nat->Bool}{held:Bool}
def bks:(τs:List Ty)->Pts.den (τs.map .h)->Nat|[],_=>0|τ::τs,x=>τ.bk x.1+bks τs x.2
def zdf(B:su H){r:Reach}{bb n:Nat}:∀(τs:List Ty)(ts:List TypeId)(vs:List Value)(ds:List (DataW H))(ps:List MemPlace),qaa P n τs ts=true ->
  (∀(j:Nat) t v,ts[j]? = some t->vs[j]? = some v->Value.okWide P w r bb t v)->DataW.TrodAll enc P w base spare held ts vs ds ps ->
  ∃x:Pts.den (τs.map .h),bds τs x/\al (Pts.put (τs.map .h) x) (Gw w) vs/\bks τs x<=B.ba ds
 |[],[],vs,ds,ps,_,_,h=>by
  obtain⟨rfl,rfl,_⟩:=trodAll_nil h;exact⟨(),trivial,trivial,Nat.zero_le _⟩
 |τ::τs,t::ts,vs,ds,ps,h1,h2,h=>by
  obtain⟨v,vs',d,ds',p,q,rfl,rfl,rfl,hd,hr⟩:=trodAll_cons h;simp only[qaa,qA]at h1;obtain⟨x,xb,xr,xk⟩:=zr8 B h1.1 (h2 0 t v rfl rfl) hd;obtain⟨y,yb,yr,yk⟩:=zdf B τs ts vs' ds' q h1.2 (fun j t v ht hv=>h2 (j+1) t v ht hv) hr
  exact⟨(x,y),⟨xb,yb⟩,⟨xr,yr⟩,by rw[B.cons];show τ.bk x+bks τs y<=_;omega⟩
 |[],_::_,_,_,_,h,_,_=>by simp[qaa]at h|_::_,[],_,_,_,h,_,_=>by simp[qaa]at h
def zfu{W W':World}(laid:laidOutB P=true)(hb:Below W.heap.size W W'):∀(ts:List TypeId)(vs:List Value)(ds:List (DataW H))(ps:List MemPlace),
  ts.all (fun t=>P.readableRec t&&decide (t<P.types.size))=true->DataW.TrodAll enc P W 0 (fun _=>true) true ts vs ds ps->DataW.TrodAll enc P W' 0 (fun b=>decide (b<W.heap.size)) true ts vs ds ps
 |[],vs,ds,ps,_,h=>by
  obtain⟨rfl,rfl,rfl⟩:=trodAll_nil h;exact trodAll_mk0
 |t::ts,vs,ds,ps,h1,h=>by
  obtain⟨v,vs',d,ds',p,q,rfl,rfl,rfl,hd,hr⟩:=trodAll_cons h;simp only[List.all_cons,qA,decide_eq_true_eq]at h1;have lt:∀x∈p,x.block<W.heap.size:=by obtain⟨m,hm⟩:=hd;exact DataW.trod_lt m _ _ _ hm
  exact trodAll_cons_mk (Below.trod laid h1.1.1 h1.1.2 hd hb lt) (zfu laid hb ts vs' ds' q h1.2 hr)
end
def zxs{P:Program}{f:FuncId}{xs:List AV}(h:dd P f xs [] (.bool true) [])(vs:List Value)(w:World)(ht:LC.tab (Gw w).imm w)(hr:al xs (Gw w) vs) :
  Calls P f vs.toArray w fun e w'=>e = .returned (.bool true)/\Below w.heap.size w w':=by
 refine(h w (Gw w) vs (zke w ht) hr).mono ?_;rintro e w' ⟨v,G,rfl,hfin,hrep⟩
 have hv:v = .bool true:=hrep;subst hv;refine⟨rfl,hfin.bel.os,hfin.bel.tape,hfin.bel.output,hfin.bel.size,fun k hk=>hfin.bel.block k hk ?_⟩
 rintro⟨n,bx,hl,_⟩
 cases hl
end Go.Sym
namespace Go.Sym
open Go.ChangeShapes Go.WideShapes Go.ChangeAt Go.RowKit
variable[LC]
def zqw{H:Type}{enc:TypeId×Value->H}{C:Checked}{os:Os}{f:FuncId}{fn:Func}{s:ChangeSpec}{so:OpenSpec}{F:Stop.Interp}{conds:List PathCond}{t:TypeId}{n:Nat}(τs:List Ty)(l:List (String×DataW Unit))(B:su H)(M:Nat)
  (js:(H:Type)->List (DataW H)->Bool) (hso:so={ OpenSpec.ofChange s with cond:=some js }) (hsm:∀ds:List (DataW H),js H ds=true->B.ba ds<=M)
  (own:ownKnob C.prog.godebug=none) (laid:laidOutB C.prog=true) (started:os.Started) (noInit:C.prog.inits.idxOf? f=none) (hfn:C.prog.funcs[f]? = some fn)
  (witness:∃(w:World)(tape:Tape)(i:Input),w.os=os/\(w.forCall tape i).Shaped C.prog/\i.vars=[]/\Input.okWide C.prog (w.forCall tape i) .any w.heap.size f i /\
   so.preRow enc C.prog fn conds false l (w.forCall tape i).memory i.args/\({}:Assume).holds C.prog (lone (Frame.enter C.prog f i.args .normal) [] (w.forCall tape i)))
  (hvars:s.vars=[]) (hspec:∀ds:List (DataW H),ds.length=fn.params.size->s.fn H ds={ results:=[.lit (.bool true)],args:=ds })
  (htys:qaa C.prog n τs fn.params.toList=true) (hread:fn.params.toList.all (fun t=>C.prog.readableRec t&&decide (t<C.prog.types.size))=true)
  (hres:fn.resultTypes=#[t]) (hbool:C.prog.underlying t=some .bool)
  (htab:∀W:World,laidMetH C.prog l W->W.ShapedOpen C.prog->LC.tab (Gw W).imm W)
  (hcall:∀x:Pts.den (τs.map .h),bds τs x->bks τs x<=M->dd C.prog f (Pts.put (τs.map .h) x) [] (.bool true) []) :
  ReturnsInHanded {} C os f .any (so.preRow enc C.prog fn conds false l) ((so.at F).post enc C.prog fn false true false false):=by
 subst hso;refine returnsInHanded_of_row own started noInit hfn witness ?_;intro W base args ds gs before hval hW _ hcond _ hlaid hsh _;have hW':=hW;obtain⟨p,q,hA,hV,rfl,_,_⟩:=hW;rw[show({ OpenSpec.ofChange s with cond:=some js }:OpenSpec).vars=[] from hvars]at hV
 obtain⟨rfl,rfl⟩:=trodVars_none hV;have hk:=hsm _ (hcond js rfl);rw[List.append_nil]at hk;have hl:ds.length=fn.params.size:=by
  have key:∀(ts:List TypeId)(vs:List Value)(ds:List (DataW H))(ps:List MemPlace),DataW.TrodAll enc C.prog W 0 (fun _=>true) true ts vs ds ps->ds.length=ts.length:=by
   intro ts
   induction ts with
   |nil=>intro vs ds ps h;obtain⟨_,rfl,_⟩:=trodAll_nil h;rfl
   |cons t ts ih=>
    intro vs ds ps h;obtain⟨v,vs',d,ds',p,q,_,rfl,_,_,hr⟩:=trodAll_cons h;rw[qL,qL,ih _ _ _ hr]
  rw[key _ _ _ _ hA,Array.length_toList]
 obtain⟨x,xb,xr,xk⟩:=zdf B τs fn.params.toList args.toList ds p htys (fun j t v ht hv=>hval j t v (by rw[← Array.getElem?_toList];exact ht) (by rw[← Array.getElem?_toList];exact hv)) hA
 have hc:=zxs (hcall x xb (Nat.le_trans xk hk)) args.toList W (htab W hlaid hsh) xr;rw[Array.toArray_toList]at hc;refine hc.mono fun e W'⟨he,bel⟩ => ?_
 subst he;refine⟨_,rfl,ds,[],p++[],[],p,[],hW',?_⟩;show DataW.TrodAll _ _ _ _ _ _ _ _ _ _/\_;rw[List.append_nil,show((OpenSpec.at { OpenSpec.ofChange s with cond:=some js } F).fn H ds)=s.fn H ds from rfl,hspec ds hl,hres]
 exact⟨trodAll_mk1 (shut_bool hbool _),zfu laid bel _ _ _ _ hread hA,(by rw[show((OpenSpec.at { OpenSpec.ofChange s with cond:=some js } F).vars)=[] from hvars];rfl),bel.frame _,fun h=>by cases h⟩
def zb(a b:Int):Bool:=decide (a=b)
def qcr:(τ:Ty)->τ.den->DataW Unit->Bool|.int k,x,.lit (.int k' n)=>decide (k'=k)&&zb n x|.byte,x,.lit (.int k' n)=>decide (k' = .u8)&&zb n x.toNat|.prod .byte .byte,x,.agg [.lit (.int _ a),.lit (.int _ b)]=>zb a x.1.toNat&&zb b x.2.toNat|_,_,_=>false
def qcs(τ:Ty):List τ.den->List (DataW Unit)->Bool|[],[]=>true|x::l,d::ds=>qcr τ x d&&qcs τ l ds|_,_=>false
def qps(P:Program)(t:TypeId):Bool:=match P.underlying t with|some (.int .u8)=>Nat.beq (P.cellsOf t) 1|_=>false
def qor(P:Program)(t:TypeId):Ty->Bool
 |.int k=>match P.underlying t with|some (.int k')=>decide (k'=k)|_=>false
 |.byte=>match P.underlying t with|some (.int .u8)=>true|_=>false
 |.prod .byte .byte=>match P.underlying t with
  |some (.struct fs)=>match fs.toList with|[f,g]=>Nat.beq f.offset 0&&Nat.beq g.offset 1&&qps P f.type&&qps P g.type&&Nat.beq (P.cellsOf t) 2|_=>false
  |_=>false
 |_=>false
section
variable{P:Program}{w:World}{base:Nat}{sp:Nat->Bool}
def zoc{m:Nat}{τ:Ty}{t:TypeId}{cs:List Value}{y:DataW Unit×List MemPlace}{x:τ.den}(ht:qor P t τ=true)(h:DataW.trod (fun _=>()) P w base sp false m t cs=some y)(hx:qcr τ x y.1=true):al (τ.enc x) (Gw w) cs/\∀v∈cs,v.oneCell'=true:=by
 unfold qor at ht;split at ht
 ·rename_i k;split at ht
  ·rename_i k' hu;have hk:k'=k:=of_decide_eq_true ht;subst hk;obtain⟨n,rfl,rfl,_⟩:=DataW.trod_int hu h;simp only[qcr,zb,qA,decide_eq_true_eq]at hx;obtain⟨_,rfl⟩:=hx;exact⟨⟨rfl,trivial⟩,fun v hv=>by rw[List.mem_singleton]at hv;subst hv;rfl⟩
  ·cases ht
 ·split at ht
  ·rename_i hu;obtain⟨n,rfl,rfl,_⟩:=DataW.trod_int hu h;simp only[qcr,zb,qA,decide_eq_true_eq]at hx;obtain⟨_,rfl⟩:=hx;exact⟨⟨rfl,trivial⟩,fun v hv=>by rw[List.mem_singleton]at hv;subst hv;rfl⟩
  ·cases ht
 ·split at ht
  ·rename_i fs hu;split at ht
   ·rename_i f g hfs;simp only[qA]at ht;obtain⟨⟨⟨⟨o1,o2⟩,u1⟩,u2⟩,c2⟩:=ht;have o1:=qN o1;have o2:=qN o2;have c2:=qN c2;have key:∀t,qps P t=true->P.underlying t=some (.int .u8)/\P.cellsOf t=1:=fun t h=>by
     unfold qps at h;split at h
     ·rename_i hu;exact⟨hu,qN h⟩
     ·cases h
    obtain⟨k1,s1⟩:=key _ u1;obtain⟨k2,s2⟩:=key _ u2;obtain⟨xs,n,rfl,rfl,hl,hxl,hg⟩:=DataW.trod_struct hu h;have g0:=hg 0 f (by rw[← Array.getElem?_toList,hfs];rfl)
    have g1:=hg 1 g (by rw[← Array.getElem?_toList,hfs];rfl)
    have hsz:fs.size=2:=by rw[← Array.length_toList,hfs];rfl
    rw[hsz]at hxl;rw[c2]at hl
    match cs,hl with
    |[a,b],_=>
     match xs,hxl with
     |[p,q],_=>
      rw[o1,s1]at g0;rw[o2,s2]at g1;obtain⟨n1,e1,rfl,_⟩:=DataW.trod_int k1 g0;obtain⟨n2,e2,rfl,_⟩:=DataW.trod_int k2 g1;simp only[List.drop_zero,List.take_succ_cons,List.take_zero,List.cons.injEq,and_true]at e1;simp only[List.drop_succ_cons,List.drop_zero,List.take_succ_cons,List.take_zero,List.cons.injEq,and_true]at e2;subst e1 e2;simp only[List.map_cons,List.map_nil,qcr,zb,qA,decide_eq_true_eq]at hx;obtain⟨rfl,rfl⟩:=hx;exact⟨⟨rfl,rfl,trivial⟩,fun v hv=>by
       rcases List.mem_cons.1 hv with rfl|hv
       ·rfl
       ·rw[List.mem_singleton]at hv;subst hv;rfl⟩
   ·cases ht
  ·cases ht
 ·cases ht
def q99{τ:Ty}:∀{l:List τ.den}{ds:List (DataW Unit)},qcs τ l ds=true->l.length=ds.length/\∀(j:Nat)(x:τ.den),l[j]? = some x->∃d,ds[j]? = some d/\qcr τ x d=true
 |[],[],_=>⟨rfl,fun j x h=>by simp at h⟩
 |[],_::_,h=>by simp[qcs]at h|_::_,[],h=>by simp[qcs]at h|y::l,d::ds,h=>by
  simp only[qcs,qA]at h;obtain⟨i1,i2⟩:=q99 h.2;refine⟨by simp[i1],fun j x hx => ?_⟩
  match j with|0=>simp only[List.getElem?_cons_zero,qI]at hx;subst hx;exact⟨d,rfl,h.1⟩|j+1=>exact i2 j x hx
def qqn(P:Program)(g:Nat)(τ:Ty)(l:List τ.den)(n:Nat)(d:DataW Unit):Bool:=match(P.globals[g]?).map (·.type) with
 |some t=>match P.underlying t,d with|some (.array _m E),.agg ds=>qor P E τ&&(Nat.beq (P.cellsOf E) τ.sz&&(Nat.beq (P.cellsOf t) n&&qcs τ l ds))|_,_=>false
 |none=>false
def zus{g:Nat}{τ:Ty}{l:List τ.den}{n:Nat}{d:DataW Unit}(h:qqn P g τ l n d=true){t:TypeId}{cs:Array Value}{fuel:Nat}{p:List MemPlace}(ht:(P.globals[g]?).map (·.type)=some t)
  (hc:∃u fr,w.heap[g]? = some (.cells cs u fr)) (hd:DataW.trod (fun _=>()) P w base sp false fuel t cs.toList=some (d,p)) :
  cs.size=n/\∀(j:Nat)(x:τ.den),l[j]? = some x->τ.At (Gw w).imm x g (j*τ.sz):=by
 unfold qqn at h;rw[ht]at h;simp only at h;split at h
 ·rename_i m E ds hu;simp only[qA]at h;obtain⟨h1,h2,h3,h4⟩:=h;have h2:=qN h2;have h3:=qN h3;obtain⟨xs,m',rfl,e,hl,hxl,hg⟩:=DataW.trod_array hu hd;simp only[qP,DataW.agg.injEq]at e;obtain⟨rfl,rfl⟩:=e;obtain⟨dl,dg⟩:=q99 h4;refine⟨by rw[← Array.length_toList,hl,h3],fun j x hx => ?_⟩
  obtain⟨d,hd1,hd2⟩:=dg j x hx;rw[List.getElem?_map]at hd1;obtain⟨y,hy,rfl⟩:=Option.map_eq_some_iff.1 hd1;have hj:j<m:=by rw[← hxl];exact(List.getElem?_eq_some_iff.1 hy).1
  have:=hg j hj;rw[hy]at this;obtain⟨r1,r2⟩:=zoc h1 this hd2;refine ss.1 (al.cells _ _ _ r1 r2 fun i v hv => ?_)
  rw[h2,List.getElem?_take]at hv;split at hv
  ·rw[List.getElem?_drop]at hv;obtain⟨u,fr,hh⟩:=hc;simp only[World.cell?,hh];rw[← Array.getElem?_toList];exact hv
  ·cases hv
 ·cases h
def q0j{laid:List (String×DataW Unit)}{n:String}{d:DataW Unit}:∀{l:List (String×DataW Unit)}{ps:List MemPlace},DataW.LaidVars P w l ps->(n,d)∈l ->
  ∃g t cs fuel p,P.globalNamed n=some g/\(P.globals[g]?).map (·.type)=some t/\(∃u fr,w.heap[g]? = some (.cells cs u fr))/\DataW.trod (fun _=>()) P w 0 (fun _=>true) false fuel t cs.toList=some (d,p)
 |[],_,_,h=>by cases h
 |(n',d')::r,ps,hl,h=>by
  obtain⟨g,t,cs,fuel,p,q,h1,h2,h3,h4,h5,_⟩:=hl;rcases List.mem_cons.1 h with e|h
  ·simp only[qP]at e;obtain⟨rfl,rfl⟩:=e;refine⟨g,t,cs,fuel,p,h1,h2,?_,h4⟩;unfold World.var? at h3;rw[h1,qB]at h3;split at h3
   ·rename_i c u fr hh;have:=qJ h3;subst this;exact⟨u,fr,hh⟩
   ·cases h3
  ·exact q0j (laid:=laid) h5 h
end
def q2o(P:Program)(laid:List (String×DataW Unit))(e:Nat×Nat):Bool:=match LC.glob e.1 with
 |some ⟨τ,l⟩=>Nat.blt 0 l.length&&laid.any fun x=>match P.globalNamed x.1 with|some g=>Nat.beq g e.1&&qqn P e.1 τ l e.2 x.2|none=>false
 |none=>false
def zpw(P:Program)(laid:List (String×DataW Unit))(g:Nat):Bool:=laid.any fun x=>match P.globalNamed x.1 with
 | some g'=>Nat.beq g' g&&(match(P.globals[g]?).map (·.type) with
  |some t=>match P.underlying t,x.2 with|some (.interface _),.iface _ _=>true|_,_=>false
  | none=>false)
 |none=>false
def zpn{P:Program}{laid:List (String×DataW Unit)}{W:World}(h:laidMetH P laid W)(hh:(laid.all fun x=>x.2.handleName?.isNone)=true)
  (hg:∀g τ l,LC.glob g=some ⟨τ,l⟩->∃n,(g,n)∈LC.sizes) (hs:LC.sizes.all (q2o P laid)=true) (hi:LC.ifs.all (zpw P laid)=true) (hn:∀g∈LC.ints,∃k,W.cell? ⟨g,0,none⟩=some (.int .i64 k)):LC.tab (Gw W).imm W:=by
 rw[MakeChecks.laidMetH_plain _ _ _ hh]at h;obtain⟨ps,hl,_⟩:=h;have key:∀e∈LC.sizes,∃τ l,LC.glob e.1=some ⟨τ,l⟩/\0<l.length/\∃(cs:Array Value)(u:TypeId)(fr:Nat×Nat),W.heap[e.1]? = some (.cells cs u fr)/\cs.size=e.2/\∀(j:Nat)(x:τ.den),l[j]? = some x->τ.At (Gw W).imm x e.1 (j*τ.sz):=fun e he=>by
  have h1:=List.all_eq_true.1 hs e he;unfold q2o at h1;split at h1
  ·rename_i τ l hgl;rw[qA]at h1;obtain⟨x,hx,h2⟩:=List.any_eq_true.1 h1.2;split at h2
   ·rename_i g hgn;rw[qA]at h2;have:=qN h2.1;subst this;obtain⟨g',t,cs,fuel,p,k1,k2,⟨u,fr,k3⟩,k4⟩:=q0j (laid:=laid) hl (n:=x.1) (d:=x.2) hx;rw[hgn]at k1;have:=qJ k1;subst this;obtain⟨r1,r2⟩:=zus h2.2 k2 ⟨u,fr,k3⟩ k4;exact⟨τ,l,hgl,Nat.le_of_ble_eq_true h1.1,cs,u,fr,k3,r1,r2⟩
   ·cases h2
  ·cases h1
 refine⟨fun g τ l hgl j x hx => ?_,fun g hgi => ?_,fun g hgi => ?_,fun e he => ?_⟩
 ·obtain⟨n,hn⟩:=hg g τ l hgl;obtain⟨τ',l',h1,_,cs,u,fr,_,_,h5⟩:=key _ hn;rw[hgl]at h1;cases h1
  exact h5 j x hx
 ·obtain⟨k,hk⟩:=hn g hgi;exact⟨k,qxw hk rfl⟩
 ·have h1:=List.all_eq_true.1 hi g hgi;obtain⟨x,hx,h2⟩:=List.any_eq_true.1 h1;split at h2
  ·rename_i g' hgn;rw[qA]at h2;have:=qN h2.1;subst this;obtain⟨g2,t,cs,fuel,p,k1,k2,⟨u,fr,k3⟩,k4⟩:=q0j (laid:=laid) hl (n:=x.1) (d:=x.2) hx;rw[hgn]at k1;have:=qJ k1;subst this;have h3:=h2.2;rw[k2]at h3;simp only at h3;split at h3
   ·rename_i ms nm d hu hd;rw[hd]at k4;obtain⟨_,u',v,hcs,_,_⟩:=iface_of_trod hu k4;refine⟨u',v,qxw ?_ rfl⟩;simp only[World.cell?,k3];rw[← Array.getElem?_toList,hcs];rfl
   ·cases h3
  ·cases h2
 ·obtain⟨τ,l,h1,h2,cs,u,fr,h3,h4,h5⟩:=key e he;refine⟨?_,cs,u,fr,h3,h4⟩;have h6:=h5 0 l[0] (by simp[h2])
  have:∃o v,(Gw W).imm e.1 o=some v:=by
   have hx:=List.all_eq_true.1 hs e he;unfold q2o at hx;rw[h1]at hx;simp only[qA]at hx;obtain⟨x,_,hx⟩:=List.any_eq_true.1 hx.2;split at hx
   ·rw[qA]at hx;have hx:=hx.2;unfold qqn at hx;split at hx
    ·split at hx
     ·simp only[qA]at hx;have hx:=hx.1;unfold qor at hx;split at hx
      ·exact⟨_,_,h6⟩
      ·exact⟨_,_,h6⟩
      ·exact⟨_,_,h6.1⟩
      ·cases hx
     ·cases hx
    ·cases hx
   ·cases hx
  exact this
section
variable{H:Type}{enc:TypeId×Value->H}
def zxw{C:Checked}{os:Os}{f:FuncId}{fn:Func}{s:OpenSpec}{conds:List PathCond}{apart:Bool}{laid:List (String×DataW Unit)}(modest:Bool)(w0:World)(args:Array Value)(hos:w0.os=os)
  (hsh:(w0.forCall (fun _ _=>0) ⟨#[],args,[]⟩).Shaped C.prog) (hok:Input.okWideB C.prog (w0.forCall (fun _ _=>0) ⟨#[],args,[]⟩) f ⟨#[],args,[]⟩=true)
  (hrow:s.preRow enc C.prog fn conds apart laid (w0.forCall (fun _ _=>0) ⟨#[],args,[]⟩).memory args) :
  ∃(w:World)(tape:Tape)(i:Input),w.os=os/\(w.forCall tape i).Shaped C.prog/\i.vars=[]/\Input.okWide C.prog (w.forCall tape i) .any w.heap.size f i /\
   s.preRow enc C.prog fn conds apart laid (w.forCall tape i).memory i.args/\({ modest:=modest }:Assume).holds C.prog (lone (Frame.enter C.prog f i.args .normal) [] (w.forCall tape i)):=
 ⟨w0,fun _ _=>0,⟨#[],args,[]⟩,hos,hsh,(Input.okWide_of_okWideB (base:=0) hok).1,(Input.okWide_of_okWideB hok).2,hrow,by
  simp only[Assume.holds];exact⟨by simp,by simp,fun _=>Modest.zero,by simp,by simp⟩⟩
end
end Go.Sym
namespace Go.Sym
set_option linter.unusedVariables false
abbrev wU : Type := Tree (List (Bs × Bs) × Bs)
abbrev wV : Type := List (Bs × Bs)
section
variable(fu:Nat)
def qqw:List UInt8:=[240,240,240,240,240,240,240,240,240,240,240,240,240,240,240,240,240,240,240,240,240,240,240,240,240,240,240,240,240,240,240,240,240,240,240,240,240,240,240,240,240,240,240,240,240,240,240,240,240,240,240,240,240,240,240,240,240,240,240,240,240,240,240,240,240,240,240,240,240,240,240,240,240,240,240,240,240,240,240,240,240,240,240,240,240,240,240,240,240,240,240,240,240,240,240,240,240,240,240,240,240,240,240,240,240,240,240,240,240,240,240,240,240,240,240,240,240,240,240,240,240,240,240,240,240,240,240,240,241,241,241,241,241,241,241,241,241,241,241,241,241,241,241,241,241,241,241,241,241,241,241,241,241,241,241,241,241,241,241,241,241,241,241,241,241,241,241,241,241,241,241,241,241,241,241,241,241,241,241,241,241,241,241,241,241,241,241,241,241,241,241,241,241,241,2,2,2,2,2,2,2,2,2,2,2,2,2,2,2,2,2,2,2,2,2,2,2,2,2,2,2,2,2,2,19,3,3,3,3,3,3,3,3,3,3,3,3,35,3,3,52,4,4,4,68,241,241,241,241,241,241,241,241,241,241,241]
def qqx:List (UInt8×UInt8):=[(128,191),(160,191),(128,159),(144,191),(128,143),(0,0),(0,0),(0,0),(0,0),(0,0),(0,0),(0,0),(0,0),(0,0),(0,0),(0,0)]
def zwf:List Int:=[1,10,100,1000,10000,100000,1000000,10000000,100000000,1000000000,10000000000,100000000000,1000000000000,10000000000000,100000000000000,1000000000000000,10000000000000000,100000000000000000,1000000000000000000,10000000000000000000]
abbrev zkf:=wU
def quc:Option zkf:=bif decide (0<List.length ([97]:Bs)) then bif decide (0<List.length ([98,13,10]:Bs)) then some (Tree.node (([(([67,111,110,116,101,110,116,45,84,121,112,101]:Bs),([109,117,108,116,105,112,97,114,116,47,109,105,120,101,100]:Bs))]:List (Bs×Bs)),[]) ([(Tree.node ([],([97]:Bs)) []),(Tree.node ([],([98,13,10]:Bs)) [])]:List wU)) else none else none
abbrev zkm:=wU
def qmp(a:Tree (wV×Bs)):Option zkm:=some (Tree.node a.val a.kids)
def da(b:Int)(a:Int):Option ((Int×Int)):=some (b,a)
abbrev q70:=((Int×Int)×Bool) ⊕ ((Int×Int)×Bool)
def qvp(c:Int)(h:List (Bs×Bs))(f:Bs)(g:List wU)(d:Int)(b:Int×Int)(a:Bool):Option q70:=bif decide (40<=c) then(da 2 (-1)).bind fun e=>some (.inl (e,a)) else bif a then some (.inr (b,true)) else some (.inr (b,decide (8<d)))
abbrev qnk:=(Int×(Int×Int)×Bool) ⊕ (Int×(Int×Int)×Bool)
abbrev x4T:=wU->Int->Int->(Int×Int)->Bool->Option qnk
abbrev q5c:=Int->(List wU)->Int->Int->Int->(Int×Int)->Bool->Option qnk
def qvt(d:x4T)(fu:Nat)(l:q5c):q5c:=fun h b c a f i g=>bif decide (a<c) then(am b a).bind fun j=>(d (Tree.node j.val j.kids) (af (h+1)) f i g).bind fun k=>ch k (fun m=>some (.inl m)) (fun e=>l h b c (af (a+1)) e.1 e.2.1 e.2.2) else some (.inr (f,(i,g)))
def qg8(a:x4T)(fu:Nat):Nat->q5c|0=>fun _ _ _ _ _ _ _=>none|n+1=>qvt a fu (qg8 a fu n)
def qmr(c:x4T)(fu:Nat)(a:Tree (wV×Bs))(e:Int)(b:Int)(f:Int×Int)(g:Bool):Option qnk:=(qvp b a.val.1 a.val.2 a.kids e f g).bind fun h=>ch h (fun i=>some (.inl (b,i))) (fun d=>qg8 c fu fu e a.kids (a.kids.length:Int) 0 (af (b+1)) d.1 d.2)
def qbt(fu:Nat):Nat->x4T|0=>fun _ _ _ _ _=>none|n+1=>qmr (qbt fu n) fu
def q6y(c:Tree (wV×Bs))(e:Int)(a:Int)(b:Int×Int)(d:Bool):Option qnk:=qbt fu fu c e a b d
abbrev zkn:=(wU×(Int×Int)×Bool) ⊕ (wU×(Int×Int)×Bool)
def qmq(a:Tree (wV×Bs))(f:Int×Int)(b:Bool):Option zkn:=(q6y fu (Tree.node a.val a.kids) 0 0 f b).bind fun c=>ch c (fun d=>some (.inl ((Tree.node a.val a.kids),d.2))) (fun e=>some (.inr ((Tree.node a.val a.kids),e.2)))
def ql4(a:UInt8):Option Bool:=bif decide (33<=a) then bif decide (a<=126) then some (a != 58) else some false else some false
abbrev q5u:=Bs->Int->Int->Option Bool
def quf(fu:Nat)(f:q5u):q5u:=fun c b a=>bif decide (a<b) then(am c a).bind fun d=>(ql4 d).bind fun e=>bif !e then some false else f c b (af (a+1)) else some true
def qf7(fu:Nat):Nat->q5u|0=>fun _ _ _=>none|n+1=>quf fu (qf7 fu n)
def que(a:Bs):Option Bool:=qf7 fu fu a (a.length:Int) 0
def ql3(a:Bs):Option Bool:=bif !(a==([]:Bs)) then bif decide ((a.length:Int)<=60) then(que fu a).bind fun b=>some b else some false else some false
def qxd(a:Int):Option Bool:=some (decide (8<a))
abbrev q3d:=Bs->Int->(List Bool)->Option ((List Bool)×Bool)
def q7o(fu:Nat)(e:q3d):q3d:=fun d b a=>bif decide (b<(d.length:Int)) then(am d b).bind fun c=>bif decide (128<=c) then bif decide (a.length=256) then bif decide (a.length=a.length)&&decide (a.length=256) then bif decide (a.length=256)&&(true&&true) then some (a,false) else none else none else none else(a[c.toNat]?).bind fun f=>e d (af (b+1)) (List.set a c.toNat true) else bif decide (a.length=256) then bif decide (a.length=a.length)&&decide (a.length=256) then bif decide (a.length=256)&&(true&&true) then some (a,true) else none else none else none
def qxc(fu:Nat):Nat->q3d|0=>fun _ _ _=>none|n+1=>q7o fu (qxc fu n)
def qb0(a:Bs):Option ((List Bool)×Bool):=qxc fu fu a 0 (List.replicate 256 false)
def quz(c:Bs)(b:UInt8):Option Int:=(uu c b).bind fun a=>some a
def qhn(c:Bs)(b:UInt8):Option Int:=(quz c b).bind fun a=>some a
def qnh(a:Int):Option Bool:=bif decide (0<=a) then bif decide (a<55296) then some true else bif decide (57343<a) then bif decide (a<=1114111) then some true else some false else some false else bif decide (57343<a) then bif decide (a<=1114111) then some true else some false else some false
abbrev q3z:=Bs->Nat->Option Int
abbrev q30:=Bs->Bs->Int->Int->Int->Option Int
abbrev z2u:=Bs->Bs->Int->Int->Option Int
abbrev qec:=Bs->Bs->Int->Int->Option Int
abbrev z2t:=Bs->Int->Bool->Option Int
def qwr(fu:Nat)(c:q3z):q3z:=fun b a=>bif Nat.blt a (b.length) then bif(((e9 b a).1:Nat):Int)==65533 then some ((a:Nat):Int) else c b (a+(e9 b a).2) else some (-1)
def qhp(fu:Nat):Nat->q3z|0=>fun _ _=>none|n+1=>qwr fu (qhp fu n)
def q7c(fu:Nat)(i:qec)(f:q30):q30:=fun e b c d a=>bif decide (a<(b.length:Int)) then(am e (af (d-a))).bind fun g=>(am b (af (c-a))).bind fun h=>bif g != h then none else f e b c d (af (a+1)) else some (af (d-c))
def qwu(fu:Nat)(a:qec):Nat->q30|0=>fun _ _ _ _ _=>none|n+1=>q7c fu a (qwu fu a n)
def qwt(b:qec):z2u:=fun d a c e=>qwu fu b fu d a c e 1
def qws(e:qec):qec:=fun b c d a=>bif decide (a<(b.length:Int)) then(am b a).bind fun h=>(am c d).bind fun i=>bif h != i then bif decide (0<=af (a+1)/\af (a+1)<=(b.length:Int)) then(am c d).bind fun g=>(qhn (List.drop (af (a+1)).toNat b) g).bind fun f=>bif decide (f<0) then some (-1) else qwt fu e b c d (af (a+(af (f+1)))) else none else qwt fu e b c d a else some (-1)
def qm7(fu:Nat):Nat->qec|0=>fun _ _ _ _=>none|n+1=>qws fu (qm7 fu n)
def qho:z2t:=fun c a b=>bif b then(qhn c (gl a)).bind fun e=>some e else bif a==65533 then qhp fu fu c 0 else(qnh a).bind fun d=>bif !d then some (-1) else qm7 fu fu c (oc a) (af ((List.length (oc a):Int)-1)) (af ((List.length (oc a):Int)-1))
def u7(b:Bs)(a:Int):Option Int:=bif decide (0<=a) then qho fu b a (decide (a<128)) else qho fu b a false
def qbz(c:UInt8)(a:List Bool):Option (Bool×(List Bool)):=(a[c.toNat]?).bind fun b=>some (b,a)
abbrev z5m:=Bs->Int->Option Int
abbrev q4j:=Bs->Int->(List Bool)->Option Int
abbrev q4k:=Bs->Bs->Nat->Option Int
abbrev z5n:=Bs->Bs->Option Int
def qwq:z5m:=fun c a=>(u7 fu c a).bind fun b=>some b
def qwo(fu:Nat)(f:q4j):q4j:=fun c a b=>bif decide (a<(c.length:Int)) then(am c a).bind fun e=>(qbz e b).bind fun d=>bif d.1 then some a else f c (af (a+1)) d.2 else some (-1)
def qhl(fu:Nat):Nat->q4j|0=>fun _ _ _=>none|n+1=>qwo fu (qhl fu n)
def qwp(d:q4k):q4k:=fun c b a=>bif Nat.blt a (b.length) then(u7 fu c (((e9 b a).1:Nat):Int)).bind fun e=>bif decide (0<=e) then some ((a:Nat):Int) else d c b (a+(e9 b a).2) else some (-1)
def qhm(fu:Nat):Nat->q4k|0=>fun _ _ _=>none|n+1=>qwp fu (qhm fu n)
def qm6:z5n:=fun b a=>qhm fu fu a b 0
def qm5(a:Bs)(b:Bs):Option Int:=bif b==([]:Bs) then some (-1) else bif(b.length:Int)==1 then(am b 0).bind fun d=>bif decide (128<=(d.toNat:Int)) then qwq fu a 65533 else qwq fu a (d.toNat:Int) else(qxd (a.length:Int)).bind fun e=>bif e then(qb0 fu b).bind fun c=>bif decide (c.1.length=List.length (List.replicate 256 false))&&decide (c.1.length=256) then bif c.2 then qhl fu fu a 0 c.1 else qm6 fu a b else none else qm6 fu a b
def qm0(c:Bs)(b:Bs):Option Bool:=(qm5 fu c b).bind fun a=>some (decide (0<=a))
def qup(b:Bs):Option Bool:=(qm0 fu b ([13,10,0]:Bs)).bind fun a=>some a
def ut(a:UInt8):Option Bool:=bif a==32 then some true else some (a==9)
def ql7(a:Bs):Option Bool:=(qup fu a).bind fun d=>bif !d then bif a==([]:Bs) then some true else(am a 0).bind fun f=>(ut f).bind fun c=>bif !c then(am a (af ((a.length:Int)-1))).bind fun b=>(ut b).bind fun e=>some (!e) else some false else some false
abbrev va8:=Bs->Int->Int->Bool->Option Int
abbrev qrx:=Bs->Int->Int->Option Int
def ql6(fu:Nat)(c:qrx):va8:=fun e d a b=>bif b then c e d (af (a+1)) else bif decide (0<d) then bif decide (78<a) then some d else c e a (af (a+1)) else c e a (af (a+1))
def quq(d:qrx):qrx:=fun b c a=>bif decide (a<(b.length:Int)) then(am b a).bind fun f=>(ut f).bind fun g=>bif !g then ql6 fu d b c a true else(am b (af (a-1))).bind fun e=>(ut e).bind fun h=>ql6 fu d b c a h else some c
def qgg(fu:Nat):Nat->qrx|0=>fun _ _ _=>none|n+1=>quq fu (qgg fu n)
def ql5(b:Bs)(a:Int):Option Int:=qgg fu fu b 0 (if 1>a then 1 else a)
def ig:Option ((Int×Int)):=some (0,0)
abbrev q44:=Int->Int->(Int×Int)->(List Bs)->Option ((Int×Int)×(List Bs))
abbrev vbf:=Bs->(Int×Int)->(List Bs)->Option ((Int×Int)×(List Bs))
abbrev q43:=Bs->Int->(Int×Int)->(List Bs)->Option ((Int×Int)×(List Bs))
def qun(fu:Nat)(h:q44):q44:=fun c a d b=>bif decide (a<c) then bif decide (0<=a/\a.toNat<b.length) then(b[a.toNat]?).bind fun f=>bif decide (998<(f.length:Int)) then(da 1 a).bind fun e=>some (e,[]) else h c (af (a+1)) d b else none else(ig).bind fun g=>some (g,b)
def qgf(fu:Nat):Nat->q44|0=>fun _ _ _ _=>none|n+1=>qun fu (qgf fu n)
def qge:vbf:=fun b c a=>bif decide (List.length (a++([b]:List Bs))<=a7) then qgf fu fu (List.length (a++([b]:List Bs)):Int) 0 c (a++([b]:List Bs)) else none
def qum(f:q43):q43:=fun b e d a=>bif decide (78<(b.length:Int)) then(ql5 fu b e).bind fun c=>bif c==0 then qge fu b d a else bif decide (0<=c/\c<=(b.length:Int)) then bif decide (List.length (a++([List.take c.toNat b]:List Bs))<=a7) then bif decide (0<=c/\c<=(b.length:Int)) then f (List.drop c.toNat b) 0 d (a++([List.take c.toNat b]:List Bs)) else none else none else none else qge fu b d a
def qgd(fu:Nat):Nat->q43|0=>fun _ _ _ _=>none|n+1=>qum fu (qgd fu n)
def xu(a:Bs)(b:Bs):Option ((Int×Int)×(List Bs)):=(ql3 fu a).bind fun d=>bif !d then(da 10 (-1)).bind fun c=>some (c,[]) else bif decide (4000<(b.length:Int)) then(da 1 (-1)).bind fun e=>some (e,[]) else(ql7 fu b).bind fun f=>bif !f then(da 11 (-1)).bind fun g=>some (g,[]) else bif decide (a.length+List.length ([58,32]:Bs)<=ap) then bif decide (List.length (a++([58,32]:Bs))+b.length<=ap) then qgd fu fu ((a++([58,32]:Bs))++b) (af ((a.length:Int)+2)) (0,0) [] else none else none
def e7(a:Int×Int):Option Bool:=some (a.1 != 0)
abbrev q45:=wV->Int->Int->(Int×Int)->Option ((Int×Int))
def quv(g:q45):q45:=fun c b a d=>bif decide (a<b) then(am c a).bind fun f=>(xu fu f.1 f.2).bind fun e=>(e7 e.1).bind fun h=>bif h then(da e.1.1 a).bind fun i=>some i else g c b (af (a+1)) d else(ig).bind fun j=>some j
def qgi(fu:Nat):Nat->q45|0=>fun _ _ _ _=>none|n+1=>quv fu (qgi fu n)
def qgh(a:List (Bs×Bs)):Option ((Int×Int)):=bif decide (60<(a.length:Int)) then(da 2 (-1)).bind fun b=>some b else qgi fu fu a (a.length:Int) 0 (0,0)
abbrev q46:=Int->Int->Bs->Option (Bs)
def ql2(fu:Nat)(d:q46):q46:=fun c a b=>bif decide (a<c) then bif decide (0<=a/\a.toNat<b.length) then(b[a.toNat]?).bind fun e=>bif decide (65<=e) then bif decide (e<=90) then bif decide (0<=a/\a.toNat<b.length) then(b[a.toNat]?).bind fun f=>d c (af (a+1)) (List.set b a.toNat ((e+97)-65)) else none else d c (af (a+1)) b else d c (af (a+1)) b else none else some b
def qbh(fu:Nat):Nat->q46|0=>fun _ _ _=>none|n+1=>ql2 fu (qbh fu n)
def qgb(a:Bs):Option (Bs):=bif decide (a.length<=maxLen) then qbh fu fu (a.length:Int) 0 a else none
def kv(b:Bs)(a:Bs):Option Bool:=bif(b.length:Int)==(a.length:Int) then(qgb fu b).bind fun d=>(qgb fu a).bind fun c=>some (d==c) else some false
abbrev q47:=Bs->UInt8->Option (Bs)
def q7p(fu:Nat)(d:q47):q47:=fun a b=>bif decide (0<(a.length:Int)) then(am a 0).bind fun c=>bif c==b then bif decide (0<=(1:Int)/\1<=(a.length:Int)) then d (List.drop (1:Int).toNat a) b else none else some a else some a
def qxg(fu:Nat):Nat->q47|0=>fun _ _=>none|n+1=>q7p fu (qxg fu n)
def qxf(b:Bs)(a:UInt8):Option (Bs):=qxg fu fu b a
abbrev q48:=Bs->(List Bool)->Option (Bs×(List Bool))
def qxe(fu:Nat)(e:q48):q48:=fun a c=>bif decide (0<(a.length:Int)) then(am a 0).bind fun d=>(qbz d c).bind fun b=>bif !b.1 then some (a,b.2) else bif decide (0<=(1:Int)/\1<=(a.length:Int)) then e (List.drop (1:Int).toNat a) b.2 else none else some (a,c)
def qhr(fu:Nat):Nat->q48|0=>fun _ _=>none|n+1=>qxe fu (qhr fu n)
def qnf(b:Bs)(a:List Bool):Option (Bs×(List Bool)):=qhr fu fu b a
abbrev vb7:=UInt8->UInt8->UInt8->UInt8->Option (Int×Int)
abbrev vb6:=UInt8->UInt8->UInt8->UInt8->Bool->Option (Int×Int)
abbrev vb5:=Bs->UInt8->Int->UInt8->UInt8->Option (Int×Int)
abbrev vb4:=Bs->UInt8->Int->UInt8->UInt8->Bool->Option (Int×Int)
abbrev vb3:=Bs->UInt8->Int->UInt8->Option (Int×Int)
abbrev vb2:=Bs->UInt8->Int->UInt8->Bool->Option (Int×Int)
def q7y:vb7:=fun d c b a=>some (IntKind.i32.wrap (((BitVec.ofInt 32 (IntKind.i32.wrap (((BitVec.ofInt 32 (IntKind.i32.wrap (((BitVec.ofInt 32 (IntKind.i32.wrap (((d&&&7).toNat:Int)*2 ^ min (18:Int).toNat 32))|||BitVec.ofInt 32 (IntKind.i32.wrap (((c&&&63).toNat:Int)*2 ^ min (12:Int).toNat 32))).toNat:Int)))|||BitVec.ofInt 32 (IntKind.i32.wrap (((b&&&63).toNat:Int)*2 ^ min (6:Int).toNat 32))).toNat:Int)))|||BitVec.ofInt 32 ((a&&&63).toNat:Int)).toNat:Int)),4)
def qxv:vb6:=fun e d b a c=>bif c then some (65533,1) else q7y e d b a
def q7x:vb5:=fun f d e b a=>bif decide (e<=3) then some (IntKind.i32.wrap (((BitVec.ofInt 32 (IntKind.i32.wrap (((BitVec.ofInt 32 (IntKind.i32.wrap (((d&&&15).toNat:Int)*2 ^ min (12:Int).toNat 32))|||BitVec.ofInt 32 (IntKind.i32.wrap (((b&&&63).toNat:Int)*2 ^ min (6:Int).toNat 32))).toNat:Int)))|||BitVec.ofInt 32 ((a&&&63).toNat:Int)).toNat:Int)),3) else(am f 3).bind fun c=>bif decide (c<128) then qxv d b a c true else qxv d b a c (decide (191<c))
def qxu:vb4:=fun f d e c a b=>bif b then some (65533,1) else q7x f d e c a
def q7w:vb3:=fun e c d a=>bif decide (d<=2) then some (IntKind.i32.wrap (((BitVec.ofInt 32 (IntKind.i32.wrap (((c&&&31).toNat:Int)*2 ^ min (6:Int).toNat 32))|||BitVec.ofInt 32 ((a&&&63).toNat:Int)).toNat:Int)),2) else(am e 2).bind fun b=>bif decide (b<128) then qxu e c d a b true else qxu e c d a b (decide (191<b))
def qxt:vb2:=fun e c d b a=>bif a then some (65533,1) else q7w e c d b
def qxs(b:Bs):Option (Int×Int):=bif decide ((b.length:Int)<1) then some (65533,0) else(am b 0).bind fun d=>(qqw[d.toNat]?).bind fun a=>bif decide (240<=a) then(am b 0).bind fun f=>some (IntKind.i32.wrap (((BitVec.ofInt 32 (IntKind.i32.wrap (((BitVec.ofInt 32 (f.toNat:Int) &&& ~~~ BitVec.ofInt 32 (Int.fdiv (IntKind.i32.wrap ((a.toNat:Int)*2 ^ min (31:Int).toNat 32)) (2 ^ min (31:Int).toNat 32))).toNat:Int)))|||BitVec.ofInt 32 (IntKind.i32.wrap (((BitVec.ofInt 32 65533&&&BitVec.ofInt 32 (Int.fdiv (IntKind.i32.wrap ((a.toNat:Int)*2 ^ min (31:Int).toNat 32)) (2 ^ min (31:Int).toNat 32))).toNat:Int)))).toNat:Int)),1) else(qqx[(sg a (min (4:Int).toNat 8)).toNat]?).bind fun e=>bif decide ((b.length:Int)<((a&&&7).toNat:Int)) then some (65533,1) else(am b 1).bind fun c=>bif decide (c<e.1) then qxt b d ((a&&&7).toNat:Int) c true else qxt b d ((a&&&7).toNat:Int) c (decide (e.2<c))
def qxr(a:Bs):Option (Int×Int):=bif !(a==([]:Bs)) then(am a 0).bind fun b=>bif decide (b<128) then(am a 0).bind fun e=>some ((e.toNat:Int),1) else(qxs a).bind fun c=>some c else(qxs a).bind fun d=>some d
def qm1(c:Bs)(b:Int):Option Bool:=(u7 fu c b).bind fun a=>some (decide (0<=a))
abbrev q49:=Bs->Bs->Option (Bs)
def q7q(e:q49):q49:=fun a c=>bif decide (0<(a.length:Int)) then(qxr a).bind fun b=>(qm1 fu c b.1).bind fun d=>bif !d then some a else bif decide (0<=b.2/\b.2<=(a.length:Int)) then e (List.drop b.2.toNat a) c else none else some a
def qxi(fu:Nat):Nat->q49|0=>fun _ _=>none|n+1=>q7q fu (qxi fu n)
def qxh(b:Bs)(a:Bs):Option (Bs):=qxi fu fu b a
abbrev vcn:=Bs->Bs->Option (Bs)
abbrev vcm:=Bs->Bs->Bool->Option (Bs)
abbrev vcl:=Bs->Bs->Option (Bs)
abbrev vck:=Bs->Bs->Bool->Option (Bs)
def qw4:vcn:=fun c b=>(qb0 fu b).bind fun a=>bif decide (a.1.length=List.length (List.replicate 256 false))&&decide (a.1.length=256) then bif a.2 then(qnf fu c a.1).bind fun d=>some d.1 else(qxh fu c b).bind fun e=>some e else none
def qnb:vcm:=fun c b a=>bif a then(am b 0).bind fun d=>(qxf fu c d).bind fun e=>some e else qw4 fu c b
def qw3:vcl:=fun b a=>bif(a.length:Int)==1 then(am a 0).bind fun c=>qnb fu b a (decide (c<128)) else qnb fu b a false
def qna:vck:=fun b c a=>bif a then some b else qw3 fu b c
def qm9(b:Bs)(a:Bs):Option (Bs):=bif b==([]:Bs) then qna fu b a true else qna fu b a (a==([]:Bs))
def uy(b:Bs):Option (Bs):=(qm9 fu b ([32,9]:Bs)).bind fun a=>some a
def ot(a:UInt8):Option Bool:=bif decide (33<=a) then bif decide (a<=126) then(qhn ([40,41,60,62,64,44,59,58,92,34,47,91,93,63,61,42,37,39]:Bs) a).bind fun b=>some (decide (b<0)) else some false else some false
abbrev vcy:=Int->Bs->Option (Bs×Bs)
abbrev vcx:=Int->Bool->Bs->Option (Bs×Bs)
abbrev qkp:=Int->Bs->Option (Bs×Bs)
def q6q(fu:Nat)(a:qkp):vcy:=fun b c=>a (af (b+1)) c
def qve(d:qkp):vcx:=fun a c b=>bif c then q6q fu d a b else bif decide (0<=a/\a<=(b.length:Int)) then bif decide (0<=a/\a<=(b.length:Int)) then some (List.take a.toNat b,List.drop a.toNat b) else none else none
def q6p(c:qkp):qkp:=fun a b=>bif decide (a<(b.length:Int)) then(am b a).bind fun d=>(ot d).bind fun e=>qve fu c a e b else qve fu c a false b
def qg0(fu:Nat):Nat->qkp|0=>fun _ _=>none|n+1=>q6p fu (qg0 fu n)
def qgz(b:Bs):Option (Bs×Bs):=(uy fu b).bind fun a=>qg0 fu fu 0 a
def xw(c:UInt8)(d:Bs):Option (Bool×Bs):=(uy fu d).bind fun a=>bif a==([]:Bs) then some (false,a) else(am a 0).bind fun b=>bif b != c then some (false,a) else bif decide (0<=(1:Int)/\1<=(a.length:Int)) then some (true,List.drop (1:Int).toNat a) else none
def qgy(a:UInt8):Option Bool:=(ot a).bind fun b=>bif b then some true else some (a==42)
abbrev vdb:=Int->Bs->Option (Bs×Bs)
abbrev vda:=Int->Bool->Bs->Option (Bs×Bs)
abbrev qkq:=Int->Bs->Option (Bs×Bs)
def q6s(fu:Nat)(a:qkq):vdb:=fun b c=>a (af (b+1)) c
def qvf(d:qkq):vda:=fun a c b=>bif c then q6s fu d a b else bif decide (0<=a/\a<=(b.length:Int)) then bif decide (0<=a/\a<=(b.length:Int)) then some (List.take a.toNat b,List.drop a.toNat b) else none else none
def q6r(c:qkq):qkq:=fun a b=>bif decide (a<(b.length:Int)) then(am b a).bind fun d=>(qgy d).bind fun e=>qvf fu c a e b else qvf fu c a false b
def qg1(fu:Nat):Nat->qkq|0=>fun _ _=>none|n+1=>q6r fu (qg1 fu n)
def qmg(b:Bs):Option (Bs×Bs):=(uy fu b).bind fun a=>qg1 fu fu 0 a
def qg3(a:UInt8):Option Bool:=(ot a).bind fun b=>bif b then some true else bif a==37 then some true else bif a==39 then some true else some (a==42)
abbrev vdl:=Int->Bs->Option (Bs×Bs)
abbrev vdk:=Int->Bool->Bs->Option (Bs×Bs)
abbrev qkr:=Int->Bs->Option (Bs×Bs)
def q6u(fu:Nat)(a:qkr):vdl:=fun b c=>a (af (b+1)) c
def qvg(d:qkr):vdk:=fun a c b=>bif c then q6u fu d a b else bif decide (0<=a/\a<=(b.length:Int)) then bif decide (0<=a/\a<=(b.length:Int)) then some (List.take a.toNat b,List.drop a.toNat b) else none else none
def q6t(c:qkr):qkr:=fun a b=>bif decide (a<(b.length:Int)) then(am b a).bind fun d=>(qg3 d).bind fun e=>qvg fu c a e b else qvg fu c a false b
def qg2(fu:Nat):Nat->qkr|0=>fun _ _=>none|n+1=>q6t fu (qg2 fu n)
def qmh(b:Bs):Option (Bs×Bs):=(uy fu b).bind fun a=>qg2 fu fu 0 a
abbrev q5b:=Int->Bs->Bs->Option (Bs×Bool×Bs)
def qvh(fu:Nat)(e:q5b):q5b:=fun c b a=>bif decide (c<(b.length:Int)) then(am b c).bind fun d=>bif d==34 then bif decide (0<=af (c+1)/\af (c+1)<=(b.length:Int)) then some (a,(true,List.drop (af (c+1)).toNat b)) else none else bif d==92 then bif(af (c+1))==(b.length:Int) then some (([]:Bs),(false,b)) else(am b (af (c+1))).bind fun f=>bif decide (List.length (a++([f]:Bs))<=a7) then e (af ((af (c+1))+1)) b (a++([f]:Bs)) else none else bif decide (List.length (a++([d]:Bs))<=a7) then e (af (c+1)) b (a++([d]:Bs)) else none else some (([]:Bs),(false,b))
def qg4(fu:Nat):Nat->q5b|0=>fun _ _ _=>none|n+1=>qvh fu (qg4 fu n)
def qmi(c:Bs):Option (Bs×Bool×Bs):=(xw fu 34 c).bind fun a=>bif !a.1 then(qmh fu a.2).bind fun b=>some (b.1,(true,b.2)) else qg4 fu fu 0 a.2 []
abbrev vds:=Bs->Bs->Int->Bool->Option Int
def qma:vds:=fun c f b a=>bif a then some 0 else bif b==1 then(am f 0).bind fun d=>(quz c d).bind fun e=>some e else bif decide ((c.length:Int)<=b) then some (-1) else none
def ql9(b:Bs)(a:Bs):Option Int:=bif(a.length:Int)==0 then qma b a (a.length:Int) true else qma b a (a.length:Int) (a==b)
def quw(b:Bs)(c:Bs):Option (Bs×Bs×Bool):=(ql9 b c).bind fun a=>bif decide (0<=a) then bif decide (0<=a/\a<=(b.length:Int)) then bif decide (0<=af (a+(c.length:Int))/\af (a+(c.length:Int))<=(b.length:Int)) then some (List.take a.toNat b,(List.drop (af (a+(c.length:Int))).toNat b,true)) else none else none else some (b,(([]:Bs),false))
def qhk(c:Bs)(b:Bs):Option (Bs×Bs×Bool):=(quw c b).bind fun a=>some a
def qgj(a:Bs)(b:Bs):Option Bool:=bif decide ((b.length:Int)<=(a.length:Int)) then bif decide (0<=af ((a.length:Int)-(b.length:Int))/\af ((a.length:Int)-(b.length:Int))<=(a.length:Int)) then some ((List.drop (af ((a.length:Int)-(b.length:Int))).toNat a)==b) else none else some false
def qux(a:Bs)(b:Bs):Option (Bs×Bool):=(qgj a b).bind fun c=>bif !c then some (a,false) else bif decide (0<=af ((a.length:Int)-(b.length:Int))/\af ((a.length:Int)-(b.length:Int))<=(a.length:Int)) then some (List.take (af ((a.length:Int)-(b.length:Int))).toNat a,true) else none
def qm2(c:Bs)(b:Bs):Option (Bs×Bool):=(qux c b).bind fun a=>some a
abbrev zkh:=(Bs×Int×Bool×Bs)×Bool×Bs
def qmf(g:Bs):Option zkh:=(qmg fu g).bind fun f=>(xw fu 61 f.2).bind fun e=>bif !e.1 then some ((([]:Bs),(0,(false,([]:Bs)))),(false,e.2)) else(qmi fu e.2).bind fun a=>(qhk f.1 ([42]:Bs)).bind fun b=>bif b.2.2 then(qm2 b.2.1 ([42]:Bs)).bind fun d=>(xt d.1 1099511627776).bind fun c=>bif a.2.1 then bif c.2 then some ((b.1,(c.1,(d.2,a.1))),(!(b.1==([]:Bs)),a.2.2)) else some ((b.1,(c.1,(d.2,a.1))),(false,a.2.2)) else some ((b.1,(c.1,(d.2,a.1))),(false,a.2.2)) else bif a.2.1 then some ((b.1,((-1),(false,a.1))),(!(b.1==([]:Bs)),a.2.2)) else some ((b.1,((-1),(false,a.1))),(false,a.2.2))
abbrev zkg:=Bool×(Bs×Int×Bool×Bs)
def qgs(c:Bs×Int×Bool×Bs)(a:Bs×Int×Bool×Bs):Option zkg:=(kv fu c.1 a.1).bind fun b=>some (b,a)
abbrev q75:=Int×(Bs×Int×Bool×Bs)
abbrev q5d:=(List (Bs×Int×Bool×Bs))->Int->Int->(Bs×Int×Bool×Bs)->Option q75
def qwn(f:q5d):q5d:=fun d c a e=>bif decide (a<c) then(am d a).bind fun g=>(qgs fu g e).bind fun b=>bif b.1 then some (a,b.2) else f d c (af (a+1)) b.2 else some ((-1),e)
def qhj(fu:Nat):Nat->q5d|0=>fun _ _ _ _=>none|n+1=>qwn fu (qhj fu n)
def qwm(a:List (Bs×Int×Bool×Bs))(b:Bs×Int×Bool×Bs):Option q75:=qhj fu fu a (a.length:Int) 0 b
abbrev zkp:=Bool×(Bs×Int×Bool×Bs)
def qmz(c:List (Bs×Int×Bool×Bs))(b:Bs×Int×Bool×Bs):Option zkp:=(qwm fu c b).bind fun a=>some (decide (0<=a.1),a.2)
abbrev vep:=UInt8->Bool->Option (UInt8×Bool)
abbrev veo:=UInt8->Bool->Option (UInt8×Bool)
def quj:vep:=fun a b=>bif b then some ((a-65)+10,true) else bif decide (97<=a) then bif decide (a<=102) then some ((a-97)+10,true) else some (0,false) else some (0,false)
def qui:veo:=fun a b=>bif b then some (a-48,true) else bif decide (65<=a) then quj a (decide (a<=70)) else quj a false
def qbg(a:UInt8):Option (UInt8×Bool):=bif decide (48<=a) then qui a (decide (a<=57)) else qui a false
def qgc(b:Bs):Option (UInt8×Bool):=bif decide ((b.length:Int)<2) then some (0,false) else(am b 0).bind fun e=>(qbg e).bind fun a=>(am b 1).bind fun d=>(qbg d).bind fun c=>bif a.2 then some ((py a.1 (min (4:Int).toNat 8))|||c.1,c.2) else some ((py a.1 (min (4:Int).toNat 8))|||c.1,false)
abbrev q5f:=Bs->Int->Bs->Option (Bs)
abbrev vez:=Bs->Option (Bs)
abbrev vey:=Bs->Bool->Option (Bs)
def qvc(fu:Nat)(e:q5f):q5f:=fun c b a=>bif decide (b<(c.length:Int)) then(am c b).bind fun h=>bif h==37 then bif decide (0<=af (b+1)/\af (b+1)<=(c.length:Int)) then(qgc (List.drop (af (b+1)).toNat c)).bind fun d=>bif d.2 then bif decide (List.length (a++([d.1]:Bs))<=a7) then e c (af ((af (b+2))+1)) (a++([d.1]:Bs)) else none else(am c b).bind fun f=>bif decide (List.length (a++([f]:Bs))<=a7) then e c (af (b+1)) (a++([f]:Bs)) else none else none else(am c b).bind fun g=>bif decide (List.length (a++([g]:Bs))<=a7) then e c (af (b+1)) (a++([g]:Bs)) else none else some a
def qgw(fu:Nat):Nat->q5f|0=>fun _ _ _=>none|n+1=>qvc fu (qgw fu n)
def qbn:vez:=fun a=>qgw fu fu a 0 []
def ux:vey:=fun b a=>bif a then bif decide (0<=(6:Int)/\6<=(b.length:Int)) then qbn fu (List.drop (6:Int).toNat b) else none else qbn fu b
def qmd(a:Bs×Int×Bool×Bs):Option (Bs):=bif !a.2.2.1 then some a.2.2.2 else bif a.2.1==0 then bif decide (6<=(a.2.2.2.length:Int)) then bif decide (0<=(6:Int)/\6<=(a.2.2.2.length:Int)) then(kv fu (List.take (6:Int).toNat a.2.2.2) ([117,116,102,56,39,39]:Bs)).bind fun b=>ux fu a.2.2.2 b else none else ux fu a.2.2.2 false else ux fu a.2.2.2 false
abbrev q5g:=Int->Int->(Bs×Bs)->(Bs×Bs)->(List (Bs×Int×Bool×Bs))->Option ((Bs×Bs)×Bool)
def qu5(h:q5g):q5g:=fun d b e a c=>bif decide (b<d) then bif decide (0<=b/\b.toNat<c.length) then(c[b.toNat]?).bind fun g=>bif g.2.1 != b then some (a,false) else(qmd fu g).bind fun f=>bif decide (a.2.length+f.length<=ap) then h d (af (b+1)) e (a.1,a.2++f) c else none else none else(yf a.2 ([239,191,189]:Bs)).bind fun i=>some ((a.1,i),true)
def qgp(fu:Nat):Nat->q5g|0=>fun _ _ _ _ _=>none|n+1=>qu5 fu (qgp fu n)
def qgo(a:List (Bs×Int×Bool×Bs)):Option ((Bs×Bs)×Bool):=bif decide (0<=(0:Int)/\(0:Int).toNat<a.length) then(a[(0:Int).toNat]?).bind fun b=>bif decide (0<=(0:Int)/\(0:Int).toNat<a.length) then(a[(0:Int).toNat]?).bind fun e=>bif decide (0<=(0:Int)/\(0:Int).toNat<a.length) then(a[(0:Int).toNat]?).bind fun d=>bif decide (d.2.1<0) then some ((b.1,e.2.2.2),(a.length:Int)==1) else(ye a).bind fun c=>qgp fu fu (c.length:Int) 0 (([]:Bs),([]:Bs)) (b.1,([]:Bs)) c else none else none else none
abbrev qhv:=Bool×wV
abbrev ve8:=(List (Bs×Int×Bool×Bs))->(List (Bs×Int×Bool×Bs))->Int->Int->(List (Bs×Int×Bool×Bs))->Int->Int->(Bs×Int×Bool×Bs)->(List (Bs×Int×Bool×Bs))->wV->Option qhv
abbrev qr2:=(List (Bs×Int×Bool×Bs))->(List (Bs×Int×Bool×Bs))->Int->Int->(List (Bs×Int×Bool×Bs))->Int->Int->(Bs×Int×Bool×Bs)->wV->(List (Bs×Int×Bool×Bs))->Option qhv
abbrev w3:=(List (Bs×Int×Bool×Bs))->(List (Bs×Int×Bool×Bs))->Int->Int->wV->Option qhv
def qgu(fu:Nat)(l:w3)(k:qr2):ve8:=fun j h g d a e b f c i=>k j h g d a e (af (b+1)) f i c
def qu9(k:w3)(p:qr2):qr2:=fun o i h e d f a g b c=>bif decide (a<f) then(am d a).bind fun l=>(qgs fu l g).bind fun j=>bif j.1 then bif decide (List.length (c++([l]:List (Bs×Int×Bool×Bs)))<=a7) then qgu fu k p o i h e d f a j.2 (c++([l]:List (Bs×Int×Bool×Bs))) b else none else qgu fu k p o i h e d f a j.2 c b else(qgo fu c).bind fun m=>bif !m.2 then some (false,[]) else bif decide (List.length (b++([(g.1,m.1.2)]:List (Bs×Bs)))<=a7) then k o i h (af (e+1)) (b++([(g.1,m.1.2)]:List (Bs×Bs))) else none
def qgt(fu:Nat)(a:w3):Nat->qr2|0=>fun _ _ _ _ _ _ _ _ _ _=>none|n+1=>qu9 fu a (qgt fu a n)
def qu8(g:w3):w3:=fun e d c a b=>bif decide (a<c) then(am d a).bind fun h=>bif decide (0<=a/\a<=(e.length:Int)) then(qmz fu (List.take a.toNat e) h).bind fun f=>bif f.1 then g e d c (af (a+1)) b else qgt fu g fu e d c a e (e.length:Int) 0 f.2 b [] else none else some (true,b)
def qbm(fu:Nat):Nat->w3|0=>fun _ _ _ _ _=>none|n+1=>qu8 fu (qbm fu n)
def qbl(a:List (Bs×Int×Bool×Bs)):Option qhv:=qbm fu fu a a (a.length:Int) 0 []
abbrev qhw:=(Bs×Bs×Bool) ⊕ (Bs×Bs×Bool×wV)
abbrev q5h:=Bs->Bs->Bs->Bs->Bs->(List (Bs×Int×Bool×Bs))->Option qhw
abbrev vfh:=Bs->Bs->Bs->Bs->Bs->Option qhw
abbrev vfg:=Bool->Bs->Bs->Bs->Bs->Bs->Option qhw
def qva(j:q5h):q5h:=fun d e g b a c=>(xw fu 59 g).bind fun h=>bif h.1 then(qmf fu h.2).bind fun f=>bif !f.2.1 then some (.inl (b,(a,false))) else bif decide (List.length (c++([f.1]:List (Bs×Int×Bool×Bs)))<=a7) then j d e f.2.2 b a (c++([f.1]:List (Bs×Int×Bool×Bs))) else none else(uy fu h.2).bind fun k=>(qbl fu c).bind fun i=>bif i.1 then some (.inr (b,(a,(k==([]:Bs),i.2)))) else some (.inr (b,(a,(false,i.2))))
def qgv(fu:Nat):Nat->q5h|0=>fun _ _ _ _ _ _=>none|n+1=>qva fu (qgv fu n)
def qvb:vfh:=fun c d e b a=>qgv fu fu c d e b a []
def uw:vfg:=fun f c d e b a=>bif f then some (.inl (b,(a,false))) else qvb fu c d e b a
def qmc(d:Bs):Option qhw:=(qgz fu d).bind fun b=>(xw fu 47 b.2).bind fun c=>(qgz fu c.2).bind fun a=>bif b.1==([]:Bs) then uw fu true ([]:Bs) ([]:Bs) a.2 b.1 a.1 else bif !c.1 then uw fu true ([]:Bs) ([]:Bs) a.2 b.1 a.1 else uw fu (a.1==([]:Bs)) ([]:Bs) ([]:Bs) a.2 b.1 a.1
abbrev q5i:=Bs->Int->Int->Option Bool
def q6a(fu:Nat)(f:q5i):q5i:=fun c b a=>bif decide (a<b) then(am c a).bind fun d=>(ot d).bind fun e=>bif !e then some false else f c b (af (a+1)) else some true
def qf8(fu:Nat):Nat->q5i|0=>fun _ _ _=>none|n+1=>q6a fu (qf8 fu n)
def qlz(a:Bs):Option Bool:=qf8 fu fu a (a.length:Int) 0
def xx(a:Bs):Option Bool:=bif !(a==([]:Bs)) then bif decide ((a.length:Int)<=60) then(qlz fu a).bind fun b=>some b else some false else some false
def qu2(c:Bs×Bs)(a:Bs×Bs):Option (Bool×(Bs×Bs)):=(kv fu c.1 a.1).bind fun b=>some (b,a)
abbrev q5j:=wV->Int->Int->(Bs×Bs)->Option (Int×(Bs×Bs))
def qwh(f:q5j):q5j:=fun d c a e=>bif decide (a<c) then(am d a).bind fun g=>(qu2 fu g e).bind fun b=>bif b.1 then some (a,b.2) else f d c (af (a+1)) b.2 else some ((-1),e)
def qhh(fu:Nat):Nat->q5j|0=>fun _ _ _ _=>none|n+1=>qwh fu (qhh fu n)
def qwg(a:List (Bs×Bs))(b:Bs×Bs):Option (Int×(Bs×Bs)):=qhh fu fu a (a.length:Int) 0 b
def qmy(c:List (Bs×Bs))(b:Bs×Bs):Option (Bool×(Bs×Bs)):=(qwg fu c b).bind fun a=>some (decide (0<=a.1),a.2)
abbrev vf3:=Int->wV->Int->Int->Bool->(Bs×Bs×wV)->(Int×Int)->(Bs×Bs)->Option ((Int×Int))
abbrev qr4:=wV->Int->Int->(Bs×Bs×wV)->(Int×Int)->Option ((Int×Int))
abbrev vf2:=(Bs×Bs×wV)->(Int×Int)->Option ((Int×Int))
abbrev vf1:=Bool->(Bs×Bs×wV)->(Int×Int)->Option ((Int×Int))
def xv(l:qr4):vf3:=fun b d f h i a c e=>bif i then(da 10 b).bind fun j=>some j else bif decide (0<=b/\b<=(a.2.2.length:Int)) then(qmy fu (List.take b.toNat a.2.2) e).bind fun g=>bif g.1 then(da 7 b).bind fun o=>some o else bif decide (500<(g.2.2.length:Int)) then(da 1 b).bind fun k=>some k else(yg g.2.2).bind fun m=>bif !m then(da 5 b).bind fun p=>some p else l d f (af (h+1)) a c else none
def qu3(g:qr4):qr4:=fun b c a e d=>bif decide (a<c) then(am b a).bind fun f=>(xx fu f.1).bind fun h=>bif !h then xv fu g a b c a true e d f else xv fu g a b c a (decide (20<(f.1.length:Int))) e d f else(ig).bind fun i=>some i
def qbj(fu:Nat):Nat->qr4|0=>fun _ _ _ _ _=>none|n+1=>qu3 fu (qbj fu n)
def qu4:vf2:=fun a b=>bif decide (60<(a.2.2.length:Int)) then(da 2 (-3)).bind fun c=>some c else qbj fu fu a.2.2 (a.2.2.length:Int) 0 a b
def qbi:vf1:=fun c b a=>bif c then(da 10 (-2)).bind fun d=>some d else qu4 fu b a
def s9(a:Bs×Bs×wV):Option ((Int×Int)):=(xx fu a.1).bind fun c=>bif !c then qbi fu true a (0,0) else(xx fu a.2.1).bind fun b=>qbi fu (!b) a (0,0)
abbrev q7z:=(Bs×Bs×Int×Int) ⊕ (Bs×Bs×Int×Int×wV)
def qgm(h:Bs):Option q7z:=bif decide (4000<(h.length:Int)) then(da 1 (-1)).bind fun k=>some (.inl (([]:Bs),(([]:Bs),k))) else(qmc fu h).bind fun j=>ch j (fun d=>bif !d.2.2 then(da 11 (-5)).bind fun p=>some (.inl (([]:Bs),(([]:Bs),p))) else(s9 fu (d.1,(d.2.1,[]))).bind fun i=>(e7 i).bind fun o=>bif o then(da i.1 (-6)).bind fun l=>some (.inl (([]:Bs),(([]:Bs),l))) else(ig).bind fun m=>some (.inl (d.1,(d.2.1,m)))) (fun a=>bif !a.2.2.1 then(da 11 (-5)).bind fun e=>some (.inl (([]:Bs),(([]:Bs),e))) else(s9 fu (a.1,(a.2.1,a.2.2.2))).bind fun c=>(e7 c).bind fun f=>bif f then(da c.1 (-6)).bind fun g=>some (.inl (([]:Bs),(([]:Bs),g))) else(ig).bind fun b=>some (.inr (a.1,(a.2.1,(b.1,(b.2,a.2.2.2))))))
abbrev qnj:=(Bs×Bs×Int×Bool) ⊕ (Bs×Bs×Int×Bool×wV)
abbrev vga:=wV->Int->wV->Int->Int->Bs->Bs->Option qnj
abbrev qr7:=wV->Int->wV->Int->Int->Bs->Bs->Option qnj
def qbq(fu:Nat)(f:qr7):vga:=fun h g e d c b a=>f h g e d (af (c+1)) b a
def qmk(j:qr7):qr7:=fun i f e d a c b=>bif decide (a<d) then(am e a).bind fun m=>(kv fu m.1 ([67,111,110,116,101,110,116,45,84,121,112,101]:Bs)).bind fun l=>bif l then bif decide (0<=f) then some (.inl (([]:Bs),(([]:Bs),(0,false)))) else qbq fu j i a e d a c b else qbq fu j i f e d a c b else bif decide (f<0) then some (.inl (([]:Bs),(([]:Bs),(0,false)))) else(am i f).bind fun k=>(qgm fu k.2).bind fun p=>ch p (fun h=>(e7 h.2.2).bind fun o=>some (.inl (h.1,(h.2.1,(f,!o))))) (fun g=>(e7 (g.2.2.1,g.2.2.2.1)).bind fun q=>some (.inr (g.1,(g.2.1,(f,(!q,g.2.2.2.2))))))
def uz(fu:Nat):Nat->qr7|0=>fun _ _ _ _ _ _ _=>none|n+1=>qmk fu (uz fu n)
def xz(a:List (Bs×Bs)):Option qnj:=uz fu fu a (-1) a (a.length:Int) 0 ([]:Bs) ([]:Bs)
abbrev q5l:=Bs->wV->Int->Int->(Int×Int)->Option (Bs×Bool×(Int×Int))
def qu0(h:q5l):q5l:=fun e c b a d=>bif decide (a<b) then(am c a).bind fun f=>(kv fu f.1 e).bind fun g=>bif g then(ig).bind fun i=>some (f.2,(true,i)) else h e c b (af (a+1)) d else(ig).bind fun j=>some (([]:Bs),(false,j))
def qgl(fu:Nat):Nat->q5l|0=>fun _ _ _ _ _=>none|n+1=>qu0 fu (qgl fu n)
def qgk(a:Bs×Bs×wV)(d:Bs):Option (Bs×Bool×(Int×Int)):=(s9 fu a).bind fun b=>(e7 b).bind fun c=>bif c then some (([]:Bs),(false,b)) else qgl fu fu d a.2.2 (a.2.2.length:Int) 0 (0,0)
def qgq(a:UInt8):Option Bool:=bif decide (32<=a) then some (decide (a<=126)) else some false
abbrev q5m:=Bs->Int->Int->Option Bool
def q6b(fu:Nat)(f:q5m):q5m:=fun c b a=>bif decide (a<b) then(am c a).bind fun d=>(qgq d).bind fun e=>bif !e then some false else f c b (af (a+1)) else some true
def qf9(fu:Nat):Nat->q5m|0=>fun _ _ _=>none|n+1=>q6b fu (qf9 fu n)
def ql0(a:Bs):Option Bool:=qf9 fu fu a (a.length:Int) 0
def qm8(a:List Bs):Option (Int×Int×Int×(List Bs)):=bif(Int.tmod (a.length:Int) 2)==1 then none else bif decide (a.length<=a7) then some (0,(0,(0,a))) else none
abbrev va:=Int×Int×Int×Bs×(List Bs)
abbrev vgy:=Bool->Int->Int->Int->Int->(List Bs)->Option va
abbrev q5p:=Int->Int->Int->Int->(List Bs)->Bs->Option va
abbrev q5n:=Int->Int->Int->Int->(List Bs)->Bs->Option va
abbrev q5o:=Int->Int->Int->Int->(List Bs)->(List Bs)->Option va
abbrev qr8:=Bool->Int->Int->Int->Int->(List Bs)->Option va
abbrev vgx:=Int->Int->Int->(List Bs)->Option va
abbrev vgw:=Bool->Int->Int->Int->(List Bs)->Option va
def qwy(fu:Nat)(g:qr8):vgy:=fun e f a b c d=>g e (af (f+2)) a b c d
def q7h(fu:Nat)(k:q5p):q5p:=fun d b c e a f=>bif decide (0<=d) then bif decide (0<=d/\d.toNat<a.length) then(a[d.toNat]?).bind fun j=>(am j 0).bind fun g=>bif decide (0<=af (d+1)/\(af (d+1)).toNat<a.length) then(a[(af (d+1)).toNat]?).bind fun h=>(am h 0).bind fun i=>(f[g.toNat]?).bind fun l=>k (af (d-2)) b c e a (List.set f g.toNat i) else none else none else some (b,(c,(e,(f,a))))
def qw1(fu:Nat):Nat->q5p|0=>fun _ _ _ _ _ _=>none|n+1=>q7h fu (qw1 fu n)
def q7f(g:q5n):q5n:=fun a b c d f e=>bif decide (a<256) then bif decide (0<=a)&&decide (a<256) then(e[a.toNat]?).bind fun h=>g (af (a+1)) b c d f (List.set e a.toNat (gl a)) else none else qw1 fu fu (af ((f.length:Int)-2)) b c d f e
def qwz(fu:Nat):Nat->q5n|0=>fun _ _ _ _ _ _=>none|n+1=>q7f fu (qwz fu n)
def q7g(fu:Nat)(i:q5o):q5o:=fun a c d e b g=>bif decide (0<=a) then bif decide (0<=a/\a.toNat<b.length) then(b[a.toNat]?).bind fun f=>(am f 0).bind fun j=>bif decide (0<=af (a+1)/\(af (a+1)).toNat<b.length) then(b[(af (a+1)).toNat]?).bind fun h=>none else none else none else none
def qw0(fu:Nat):Nat->q5o|0=>fun _ _ _ _ _ _=>none|n+1=>q7g fu (qw0 fu n)
def q7e(g:qr8):qr8:=fun f e b c d a=>bif decide (e<(a.length:Int)) then bif decide (0<=e/\e.toNat<a.length) then(a[e.toNat]?).bind fun i=>bif(i.length:Int) != 1 then none else bif decide (0<=af (e+1)/\(af (e+1)).toNat<a.length) then(a[(af (e+1)).toNat]?).bind fun h=>bif(h.length:Int) != 1 then qwy fu g false e b c d a else qwy fu g f e b c d a else none else none else bif f then bif decide (List.length (List.replicate 256 0)=List.length (List.replicate 256 0))&&decide (List.length (List.replicate 256 0)=256) then qwz fu fu 0 b c d a (List.replicate 256 0) else none else bif decide (0<=(0:Int)/\0=af (Int.tdiv (a.length:Int) 2)/\(0:Int)<=4294967296) then qw0 fu fu (af ((a.length:Int)-2)) b c d a (List.replicate (0:Int).toNat ([]:Bs)) else none
def qwx(fu:Nat):Nat->qr8|0=>fun _ _ _ _ _ _=>none|n+1=>q7e fu (qwx fu n)
def q7i:vgx:=fun a b c d=>qwx fu fu true 0 a b c d
def qww:vgw:=fun e b c d a=>bif e then bif decide (0<=(0:Int)/\(0:Int).toNat<a.length) then(a[(0:Int).toNat]?).bind fun g=>bif decide (0<=(1:Int)/\(1:Int).toNat<a.length) then(a[(1:Int).toNat]?).bind fun f=>none else none else none else q7i fu b c d a
def q7d(c:Int)(d:Int)(b:Int)(a:List Bs):Option va:=bif(a.length:Int)==2 then bif decide (0<=(0:Int)/\(0:Int).toNat<a.length) then(a[(0:Int).toNat]?).bind fun e=>qww fu (decide (1<(e.length:Int))) c d b a else none else qww fu false c d b a
abbrev zkq:=Int×Int×Int×Bs×(List Bs)
def qwv(d:Int)(e:Int)(b:Int)(c:List Bs):Option zkq:=(q7d fu d e b c).bind fun a=>some (a.1,(a.2.1,(a.2.2.1,(a.2.2.2.1,[]))))
abbrev vg4:=Bs->Int->UInt8->Bs->Bs->Option (Bs×Bs)
abbrev qr9:=Bs->Int->Bs->Bs->Option (Bs×Bs)
abbrev q5q:=Bs->Int->Bs->Option (Bs×Bs)
def qxa(fu:Nat)(g:qr9):vg4:=fun e b d c a=>(c[d.toNat]?).bind fun f=>bif decide (0<=b/\b.toNat<a.length) then(a[b.toNat]?).bind fun h=>g e (af (b+1)) c (List.set a b.toNat f) else none
def q7m(f:qr9):qr9:=fun c b d a=>bif decide (b<(c.length:Int)) then(am c b).bind fun e=>(d[e.toNat]?).bind fun g=>bif g != e then bif decide (0<a.length) then qxa fu f c b e d a else none else f c (af (b+1)) d a else bif decide (0<a.length) then some (a,d) else none
def qxb(fu:Nat):Nat->qr9|0=>fun _ _ _ _=>none|n+1=>q7m fu (qxb fu n)
def q7l(e:q5q):q5q:=fun a b c=>bif decide (b<(a.length:Int)) then(am a b).bind fun d=>(c[d.toNat]?).bind fun f=>bif f != d then bif decide (a.length<=maxLen) then qxa fu (qxb fu fu) a b d c a else none else e a (af (b+1)) c else some (a,c)
def qw9(fu:Nat):Nat->q5q|0=>fun _ _ _=>none|n+1=>q7l fu (qw9 fu n)
def qne(b:Bs)(a:Bs):Option (Bs×Bs):=qw9 fu fu b 0 a
def qhe(fu:Nat)(s:Bs)(p0 p1 p2:Int)(on:List Bs):Option (Bs×Int×Int×Int×Bs):=
 bif decide (p0=0)&&decide (p1=0) then
 (qwv fu 0 1 p2 on).bind fun x=>
 bif decide (x.1=0)&&decide (x.2.1=1) then
 (qne fu s x.2.2.2.1).bind fun y=>
 some (y.1,1,0,x.2.2.1,y.2)
 else none else none
def qhf(fu:Nat)(s:Bs)(p0 p1 p2:Int)(tab:Bs):Option (Bs×Int×Int×Int×Bs):=
 bif !decide (p0=0) then
 (qne fu s tab).bind fun y=>
 some (y.1,p0,p1,p2,y.2)
 else none
def oo(b:UInt8):Option UInt8:=(([48,49,50,51,52,53,54,55,56,57,65,66,67,68,69,70]:Bs)[(b&&&15).toNat]?).bind fun a=>some a
abbrev vhc:=Bs->Bs->Int->Int->(List Bs)->Option ((List Bs))
abbrev qsb:=Bs->Int->Int->(List Bs)->Option ((List Bs))
def qgx(fu:Nat)(d:qsb):vhc:=fun f b g c a=>bif decide (0<=af ((a.length:Int)-1)/\(af ((a.length:Int)-1)).toNat<a.length) then(a[(af ((a.length:Int)-1)).toNat]?).bind fun h=>bif decide ((af ((h.length:Int)+(b.length:Int)))<=60) then bif decide (0<=af ((a.length:Int)-1)/\(af ((a.length:Int)-1)).toNat<a.length) then(a[(af ((a.length:Int)-1)).toNat]?).bind fun e=>bif decide (e.length+b.length<=ap) then bif decide (0<=af ((a.length:Int)-1)/\(af ((a.length:Int)-1)).toNat<a.length) then(a[(af ((a.length:Int)-1)).toNat]?).bind fun i=>d f g (af (c+1)) (List.set a ((af ((a.length:Int)-1)).toNat) (e++b)) else none else none else none else bif decide (List.length (a++([b]:List Bs))<=a7) then d f g (af (c+1)) (a++([b]:List Bs)) else none else none
def qvd(e:qsb):qsb:=fun c d a b=>bif decide (a<d) then bif decide (0<=a/\a<=af (a+1)/\af (a+1)<=(c.length:Int)) then(am c a).bind fun g=>(ot g).bind fun h=>bif !h then(am c a).bind fun f=>(oo (sg f (min (4:Int).toNat 8))).bind fun k=>(am c a).bind fun i=>(oo i).bind fun j=>qgx fu e c ([37,k,j]:Bs) d a b else qgx fu e c (List.take ((af (a+1)).toNat-a.toNat) (List.drop a.toNat c)) d a b else none else some b
def qbo(fu:Nat):Nat->qsb|0=>fun _ _ _ _=>none|n+1=>qvd fu (qbo fu n)
def qme(a:Bs):Option ((List Bs)):=qbo fu fu a (a.length:Int) 0 ([([117,116,102,56,39,39]:Bs)]:List Bs)
abbrev q5r:=Bs->Int->Int->(Bs×Bs)->(List Bs)->Option (Bs)
abbrev vhj:=(Bs×Bs)->Option (Bs)
abbrev vhi:=Bool->(Bs×Bs)->Option (Bs)
def qu6(fu:Nat)(h:q5r):q5r:=fun f d b a c=>bif decide (b<d) then bif decide (0<=b/\b.toNat<c.length) then(c[b.toNat]?).bind fun g=>bif decide (List.length ([59,32]:Bs)+a.1.length<=ap) then bif decide (List.length (([59,32]:Bs)++a.1)+List.length ([42]:Bs)<=ap) then(ov b).bind fun e=>bif decide (List.length ((([59,32]:Bs)++a.1)++([42]:Bs))+e.length<=ap) then bif decide (List.length (((([59,32]:Bs)++a.1)++([42]:Bs))++e)+List.length ([42,61]:Bs)<=ap) then bif decide (List.length ((((([59,32]:Bs)++a.1)++([42]:Bs))++e)++([42,61]:Bs))+g.length<=ap) then bif decide (f.length+List.length (((((([59,32]:Bs)++a.1)++([42]:Bs))++e)++([42,61]:Bs))++g)<=ap) then h (f++(((((([59,32]:Bs)++a.1)++([42]:Bs))++e)++([42,61]:Bs))++g)) d (af (b+1)) a c else none else none else none else none else none else none else none else some f
def qgr(fu:Nat):Nat->q5r|0=>fun _ _ _ _ _=>none|n+1=>qu6 fu (qgr fu n)
def qu7:vhj:=fun a=>(qme fu a.2).bind fun b=>qgr fu fu ([]:Bs) (b.length:Int) 0 a b
def qbk:vhi:=fun d a=>bif d then bif decide (List.length ([59,32]:Bs)+a.1.length<=ap) then bif decide (List.length (([59,32]:Bs)++a.1)+List.length ([61,34]:Bs)<=ap) then(qm8 ([([92]:Bs),([92,92]:Bs),([34]:Bs),([92,34]:Bs)]:List Bs)).bind fun b=>(u6 a.2 b.1 b.2.1 b.2.2.1 b.2.2.2).bind fun c=>bif decide (List.length ((([59,32]:Bs)++a.1)++([61,34]:Bs))+c.length<=ap) then bif decide (List.length (((([59,32]:Bs)++a.1)++([61,34]:Bs))++c)+List.length ([34]:Bs)<=ap) then some ((((([59,32]:Bs)++a.1)++([61,34]:Bs))++c)++([34]:Bs)) else none else none else none else none else qu7 fu a
def qmb(a:Bs×Bs):Option (Bs):=(xx fu a.2).bind fun c=>bif c then bif decide (List.length ([59,32]:Bs)+a.1.length<=ap) then bif decide (List.length (([59,32]:Bs)++a.1)+List.length ([61]:Bs)<=ap) then bif decide (List.length ((([59,32]:Bs)++a.1)++([61]:Bs))+a.2.length<=ap) then some (((([59,32]:Bs)++a.1)++([61]:Bs))++a.2) else none else none else none else bif decide ((a.2.length:Int)<=60) then(ql0 fu a.2).bind fun b=>qbk fu b a else qbk fu false a
abbrev q5t:=Bs->wV->Int->Int->(Int×Int)->Option (Bs×(Int×Int))
def qu1(g:q5t):q5t:=fun d b c a e=>bif decide (a<c) then(am b a).bind fun h=>(qmb fu h).bind fun f=>bif decide (d.length+f.length<=ap) then g (d++f) b c (af (a+1)) e else none else bif decide (4000<(d.length:Int)) then(da 1 (-4)).bind fun i=>some (([]:Bs),i) else(ig).bind fun j=>some (d,j)
def qgn(fu:Nat):Nat->q5t|0=>fun _ _ _ _ _=>none|n+1=>qu1 fu (qgn fu n)
def uv(a:Bs×Bs×wV):Option (Bs×(Int×Int)):=(s9 fu a).bind fun b=>(e7 b).bind fun c=>bif c then some (([]:Bs),b) else bif decide (a.1.length+List.length ([47]:Bs)<=ap) then bif decide (List.length (a.1++([47]:Bs))+a.2.1.length<=ap) then qgn fu fu ((a.1++([47]:Bs))++a.2.1) a.2.2 (a.2.2.length:Int) 0 (0,0) else none else none
abbrev vhu:=Int->wU->Bs->Bs->wV->Option Int
abbrev vht:=Int->Bool->wU->Bs->Bs->wV->Option Int
def qwa:vhu:=fun f e b a c=>(qgk fu (b,(a,c)) ([98,111,117,110,100,97,114,121]:Bs)).bind fun h=>(uv fu (b,(a,c))).bind fun d=>bif h.2.1 then some 5 else bif decide (60<=(c.length:Int)) then some 5 else(e7 d.2).bind fun i=>bif i then some 5 else(am e.val.1 f).bind fun g=>bif !(d.1==g.2) then some 5 else bif decide (2000<(d.1.length:Int)) then some 5 else some 0
def ou:vht:=fun f e c b a d=>bif e then some 5 else qwa fu f (Tree.node c.val c.kids) b a d
def qmx(a:Tree (wV×Bs)):Option Int:=(xz fu a.val.1).bind fun d=>ch d (fun c=>bif decide (0<(a.val.2.length:Int)) then ou fu c.2.2.1 true (Tree.node a.val a.kids) c.1 c.2.1 [] else bif !c.2.2.2 then ou fu c.2.2.1 true (Tree.node a.val a.kids) c.1 c.2.1 [] else(kv fu c.1 ([109,117,108,116,105,112,97,114,116]:Bs)).bind fun e=>ou fu c.2.2.1 (!e) (Tree.node a.val a.kids) c.1 c.2.1 []) (fun b=>bif decide (0<(a.val.2.length:Int)) then ou fu b.2.2.1 true (Tree.node a.val a.kids) b.1 b.2.1 b.2.2.2.2 else bif !b.2.2.2.1 then ou fu b.2.2.1 true (Tree.node a.val a.kids) b.1 b.2.1 b.2.2.2.2 else(kv fu b.1 ([109,117,108,116,105,112,97,114,116]:Bs)).bind fun f=>ou fu b.2.2.1 (!f) (Tree.node a.val a.kids) b.1 b.2.1 b.2.2.2.2)
abbrev vh0:=Bs->Int->Int->UInt8->Option Int
abbrev vhz:=Bs->Int->Int->UInt8->Bool->Option Int
abbrev qkt:=Bs->Int->Int->Option Int
def quh(fu:Nat)(d:qkt):vh0:=fun e a c b=>bif b==13 then some 11 else bif b==10 then some 11 else bif decide (998<(af (a+1))) then some 1 else d e (af (a+1)) (af (c+1))
def qbf(c:qkt):vhz:=fun d e b f a=>bif a then c d 0 (af ((af (b+1))+1)) else quh fu c d e b f
def qug(e:qkt):qkt:=fun b d a=>bif decide (a<(b.length:Int)) then(am b a).bind fun c=>bif c==13 then bif decide ((af (a+1))<(b.length:Int)) then(am b (af (a+1))).bind fun f=>qbf fu e b d a c (f==10) else qbf fu e b d a c false else qbf fu e b d a c false else some 0
def xq(fu:Nat):Nat->qkt|0=>fun _ _ _=>none|n+1=>qug fu (xq fu n)
def qbe(a:Bs):Option Int:=xq fu fu a 0 0
def qg7(a:UInt8):Option Bool:=bif decide (32<=a) then some (decide (a<=126)) else some false
abbrev q5v:=Bs->Int->Int->Option Bool
def q6c(fu:Nat)(f:q5v):q5v:=fun c b a=>bif decide (a<b) then(am c a).bind fun d=>(qg7 d).bind fun e=>bif !e then some false else f c b (af (a+1)) else some true
def qga(fu:Nat):Nat->q5v|0=>fun _ _ _=>none|n+1=>q6c fu (qga fu n)
def ql1(a:Bs):Option Bool:=qga fu fu a (a.length:Int) 0
def qm4(c:Bs)(b:Bs):Option Bool:=(qgj c b).bind fun a=>some a
abbrev vig:=Bs->Bs->wV->Option (Bs×Bool)
abbrev vif:=Bool->Bs->Bs->wV->Option (Bs×Bool)
def qvs:vig:=fun b c d=>(qgk fu (b,(c,d)) ([98,111,117,110,100,97,114,121]:Bs)).bind fun a=>bif !(a.1==([]:Bs)) then bif decide ((a.1.length:Int)<=60) then(ql1 fu a.1).bind fun e=>bif e then(qm4 a.1 ([32]:Bs)).bind fun f=>bif a.2.1 then some (a.1,!f) else some (a.1,false) else bif a.2.1 then some (a.1,false) else some (a.1,false) else bif a.2.1 then some (a.1,false) else some (a.1,false) else bif a.2.1 then some (a.1,false) else some (a.1,false)
def ya:vif:=fun c a b d=>bif c then some (([]:Bs),false) else qvs fu a b d
def qmm(c:List (Bs×Bs)):Option (Bs×Bool):=(xz fu c).bind fun d=>ch d (fun b=>bif !b.2.2.2 then ya fu true b.1 b.2.1 [] else(kv fu b.1 ([109,117,108,116,105,112,97,114,116]:Bs)).bind fun e=>ya fu (!e) b.1 b.2.1 []) (fun a=>bif !a.2.2.2.1 then ya fu true a.1 a.2.1 a.2.2.2.2 else(kv fu a.1 ([109,117,108,116,105,112,97,114,116]:Bs)).bind fun f=>ya fu (!f) a.1 a.2.1 a.2.2.2.2)
def qhc(a:Bs):Option (Bs):=some a
abbrev q5x:=Bs->UInt8->Option (Bs)
def q7r(fu:Nat)(d:q5x):q5x:=fun a b=>bif decide (0<(a.length:Int)) then(am a (af ((a.length:Int)-1))).bind fun c=>bif c==b then bif decide (0<=af ((a.length:Int)-1)/\af ((a.length:Int)-1)<=(a.length:Int)) then d (List.take (af ((a.length:Int)-1)).toNat a) b else none else some a else some a
def qxl(fu:Nat):Nat->q5x|0=>fun _ _=>none|n+1=>q7r fu (qxl fu n)
def qxk(b:Bs)(a:UInt8):Option (Bs):=qxl fu fu b a
abbrev q5y:=Bs->(List Bool)->Option (Bs×(List Bool))
def qxj(fu:Nat)(e:q5y):q5y:=fun a c=>bif decide (0<(a.length:Int)) then(am a (af ((a.length:Int)-1))).bind fun d=>(qbz d c).bind fun b=>bif !b.1 then some (a,b.2) else bif decide (0<=af ((a.length:Int)-1)/\af ((a.length:Int)-1)<=(a.length:Int)) then e (List.take (af ((a.length:Int)-1)).toNat a) b.2 else none else some (a,c)
def qhs(fu:Nat):Nat->q5y|0=>fun _ _=>none|n+1=>qxj fu (qhs fu n)
def qng(b:Bs)(a:List Bool):Option (Bs×(List Bool)):=qhs fu fu b a
def q7v(a:UInt8):Option Bool:=some ((a&&&192) != 128)
abbrev viy:=Bs->Int->Int->Option (Int×Int)
abbrev vix:=Bs->Int->Int->Option (Int×Int)
abbrev q5z:=Bs->Int->Int->Int->Option (Int×Int)
def qxq(fu:Nat):viy:=fun d b a=>bif decide (0<=a/\a<=b/\b<=(d.length:Int)) then(qxr (List.take (b.toNat-a.toNat) (List.drop a.toNat d))).bind fun c=>bif(af (a+c.2)) != b then some (65533,1) else some c else none
def qxp:vix:=fun c b a=>bif decide (a<0) then qxq fu c b 0 else qxq fu c b a
def q7u(g:q5z):q5z:=fun b c a d=>bif decide (d<=a) then(am b a).bind fun e=>(q7v e).bind fun f=>bif f then qxp fu b c a else g b c (af (a-1)) d else qxp fu b c a
def qxo(fu:Nat):Nat->q5z|0=>fun _ _ _ _=>none|n+1=>q7u fu (qxo fu n)
def q7t(a:Bs):Option (Int×Int):=bif(a.length:Int)==0 then some (65533,0) else(am a (af ((a.length:Int)-1))).bind fun b=>bif decide ((b.toNat:Int)<128) then some ((b.toNat:Int),1) else qxo fu fu a (a.length:Int) (af ((af ((a.length:Int)-1))-1)) (if 0>af ((a.length:Int)-4) then 0 else af ((a.length:Int)-4))
abbrev q50:=Bs->Bs->Option (Bs)
def q7s(e:q50):q50:=fun a c=>bif decide (0<(a.length:Int)) then(am a (af ((a.length:Int)-1))).bind fun d=>bif decide (128<=(d.toNat:Int)) then(q7t fu a).bind fun b=>(qm1 fu c b.1).bind fun f=>bif !f then some a else bif decide (0<=af ((a.length:Int)-b.2)/\af ((a.length:Int)-b.2)<=(a.length:Int)) then e (List.take (af ((a.length:Int)-b.2)).toNat a) c else none else(qm1 fu c (d.toNat:Int)).bind fun g=>bif !g then some a else bif decide (0<=af ((a.length:Int)-1)/\af ((a.length:Int)-1)<=(a.length:Int)) then e (List.take (af ((a.length:Int)-1)).toNat a) c else none else some a
def qxn(fu:Nat):Nat->q50|0=>fun _ _=>none|n+1=>q7s fu (qxn fu n)
def qxm(b:Bs)(a:Bs):Option (Bs):=qxn fu fu b a
abbrev vi9:=Bs->Bs->Option (Bs)
abbrev vi8:=Bs->Bs->Bool->Option (Bs)
abbrev vi7:=Bs->Bs->Option (Bs)
abbrev vi6:=Bs->Bs->Bool->Option (Bs)
def qw6:vi9:=fun c b=>(qb0 fu b).bind fun a=>bif decide (a.1.length=List.length (List.replicate 256 false))&&decide (a.1.length=256) then bif a.2 then(qng fu c a.1).bind fun d=>some d.1 else(qxm fu c b).bind fun e=>some e else none
def qnd:vi8:=fun c b a=>bif a then(am b 0).bind fun d=>(qxk fu c d).bind fun e=>some e else qw6 fu c b
def qw5:vi7:=fun b a=>bif(a.length:Int)==1 then(am a 0).bind fun c=>qnd fu b a (decide (c<128)) else qnd fu b a false
def qnc:vi6:=fun b c a=>bif a then some b else qw5 fu b c
def qhq(b:Bs)(a:Bs):Option (Bs):=bif b==([]:Bs) then qnc fu b a true else qnc fu b a (a==([]:Bs))
def qmw(c:Bs)(a:Bs):Option Int:=(qhq fu c ([32,9]:Bs)).bind fun b=>bif decide (List.length ([45,45]:Bs)+a.length<=ap) then bif b==(([45,45]:Bs)++a) then some 1 else bif decide (List.length ([45,45]:Bs)+a.length<=ap) then bif decide (List.length (([45,45]:Bs)++a)+List.length ([45,45]:Bs)<=ap) then bif b==((([45,45]:Bs)++a)++([45,45]:Bs)) then some 2 else some 0 else none else none else none
abbrev zkl:=(Bs×Bs×Int×(List Bs)×(List Bs)) ⊕ (Bs×Bs×Int×(List Bs))
def qbs(b:Int)(f:Bs)(c:Bs)(d:Bs)(a:Int)(h:List Bs)(e:List Bs):Option zkl:=(qmw fu f d).bind fun g=>bif g==0 then some (.inl (c,(d,(a,(h,e))))) else bif decide (0<=a) then bif decide (0<=a/\a<=(if af (b-2)>a then af (b-2) else a)/\(if af (b-2)>a then af (b-2) else a)<=(c.length:Int)) then bif decide (List.length (e++([List.take ((if af (b-2)>a then af (b-2) else a).toNat-a.toNat) (List.drop a.toNat c)]:List Bs))<=a7) then bif g==2 then some (.inr (c,(d,(a,e++([List.take ((if af (b-2)>a then af (b-2) else a).toNat-a.toNat) (List.drop a.toNat c)]:List Bs))))) else some (.inl (c,(d,(if(c.length:Int)<af ((af (b+(f.length:Int)))+2) then(c.length:Int) else af ((af (b+(f.length:Int)))+2),(h,e++([List.take ((if af (b-2)>a then af (b-2) else a).toNat-a.toNat) (List.drop a.toNat c)]:List Bs)))))) else none else none else bif g==2 then some (.inr (c,(d,(a,e)))) else some (.inl (c,(d,(if(c.length:Int)<af ((af (b+(f.length:Int)))+2) then(c.length:Int) else af ((af (b+(f.length:Int)))+2),(h,e)))))
abbrev qx3:=(Bs×Bs×Bs×Int×(List Bs)) ⊕ (Bs×Bs×Bs×Int×(List Bs)×(List Bs))
abbrev q51:=Int->Bs->Bs->Bs->Int->(List Bs)->(List Bs)->Option qx3
def qv0(k:q51):q51:=fun a b j h i d c=>bif decide (a<(b.length:Int)) then bif decide (0<=a/\a<=(b.length:Int)) then bif decide (0<List.length ([13,10]:Bs)) then(oq (List.drop a.toNat b) ([13,10]:Bs)).bind fun f=>bif decide (0<=f) then bif decide (0<=a/\a<=af (a+f)/\af (a+f)<=(b.length:Int)) then(qbs fu a (List.take ((af (a+f)).toNat-a.toNat) (List.drop a.toNat b)) j h i d c).bind fun o=>ch o (fun g=>k (af ((af (a+f))+2)) b g.1 g.2.1 g.2.2.1 g.2.2.2.1 g.2.2.2.2) (fun p=>some (.inl (b,p))) else none else bif decide (0<=a/\a<=(b.length:Int)/\(b.length:Int)<=(b.length:Int)) then(qbs fu a (List.take ((b.length:Int).toNat-a.toNat) (List.drop a.toNat b)) j h i d c).bind fun m=>ch m (fun e=>k (b.length:Int) b e.1 e.2.1 e.2.2.1 e.2.2.2.1 e.2.2.2.2) (fun l=>some (.inl (b,l))) else none else none else none else some (.inr (b,(j,(h,(i,(d,c))))))
def yc(fu:Nat):Nat->q51|0=>fun _ _ _ _ _ _ _=>none|n+1=>qv0 fu (yc fu n)
def qvz(c:Bs)(e:Bs)(a:Bs)(b:Int)(d:List Bs)(f:List Bs):Option qx3:=yc fu fu 0 c e a b d f
def qmo(b:Bs)(c:Bs):Option ((List Bs)):=(qhc b).bind fun e=>(qvz fu e b c (-1) [] []).bind fun d=>ch d (fun f=>some f.2.2.2.2) (fun a=>bif decide (0<=a.2.2.2.1) then bif decide (0<=a.2.2.2.1/\a.2.2.2.1<=(a.2.1.length:Int)) then bif decide (List.length (a.2.2.2.2.2++([List.drop a.2.2.2.1.toNat a.2.1]:List Bs))<=a7) then some (a.2.2.2.2.2++([List.drop a.2.2.2.1.toNat a.2.1]:List Bs)) else none else none else some a.2.2.2.2.2)
def qbv(d:List (Bs×Bs))(e:Bs)(b:Int):Option ((List Bs)):=(qmm fu d).bind fun a=>bif !a.2 then some [] else bif decide (8<=b) then some [] else(qmo fu e a.1).bind fun c=>some c
def qmn(a:wU×Int):Option Int:=(qgh fu a.1.val.1).bind fun b=>(e7 b).bind fun d=>bif d then some b.1 else bif decide (0<(a.1.kids.length:Int)) then(qmx fu (Tree.node a.1.val a.1.kids)).bind fun e=>some e else bif decide (12000<(a.1.val.2.length:Int)) then some 1 else(qbe fu a.1.val.2).bind fun c=>bif c != 0 then some c else(qbv fu a.1.val.1 a.1.val.2 a.2).bind fun f=>bif decide (0<(f.length:Int)) then some 5 else some 0
def qvq(e:Int)(g:List (Bs×Bs))(b:Bs)(d:List wU)(f:Int)(h:Int×Int):Option (((Int×Int)) ⊕ ((Int×Int))):=(qmn fu ((Tree.node (g,b) d),f)).bind fun a=>bif a != 0 then(da a e).bind fun c=>some (.inl c) else some (.inr h)
abbrev qnl:=(Int×(Int×Int)) ⊕ (Int×(Int×Int))
abbrev qra:=wU->Int->Int->(Int×Int)->Option qnl
abbrev q28:=Int->(List wU)->Int->Int->Int->(Int×Int)->Option qnl
def qvu(d:qra)(fu:Nat)(k:q28):q28:=fun f b c a e g=>bif decide (a<c) then(am b a).bind fun h=>(d (Tree.node h.val h.kids) (af (f+1)) e g).bind fun j=>ch j (fun l=>some (.inl l)) (fun i=>k f b c (af (a+1)) i.1 i.2) else some (.inr (e,g))
def qg9(a:qra)(fu:Nat):Nat->q28|0=>fun _ _ _ _ _ _=>none|n+1=>qvu a fu (qg9 a fu n)
def qms(b:qra)(fu:Nat)(a:Tree (wV×Bs))(d:Int)(c:Int)(e:Int×Int):Option qnl:=(qvq fu c a.val.1 a.val.2 a.kids d e).bind fun f=>ch f (fun g=>some (.inl (c,g))) (fun h=>qg9 b fu fu d a.kids (a.kids.length:Int) 0 (af (c+1)) h)
def qbu(fu:Nat):Nat->qra|0=>fun _ _ _ _=>none|n+1=>qms (qbu fu n) fu
def q6z(d:Tree (wV×Bs))(b:Int)(a:Int)(c:Int×Int):Option qnl:=qbu fu fu d b a c
abbrev zko:=(wU×(Int×Int)) ⊕ (wU×(Int×Int))
def qmt(a:Tree (wV×Bs))(e:Int×Int):Option zko:=(q6z fu (Tree.node a.val a.kids) 0 0 e).bind fun b=>ch b (fun c=>some (.inl ((Tree.node a.val a.kids),c.2))) (fun d=>some (.inr ((Tree.node a.val a.kids),d.2)))
def qbr(a:Tree (wV×Bs)):Option ((Int×Int)):=(qmp (Tree.node a.val a.kids)).bind fun c=>(qmq fu (Tree.node c.val c.kids) (0,0) false).bind fun g=>ch g (fun j=>some j.2.1) (fun e=>bif e.2.2 then(da 2 (-2)).bind fun i=>some i else(qmp (Tree.node a.val a.kids)).bind fun d=>(qmt fu (Tree.node d.val d.kids) e.2.1).bind fun h=>ch h (fun f=>some f.2) (fun k=>(ig).bind fun b=>some b))
abbrev q3a:=Bs->wV->Int->Int->Int->Int->(List Bs)->Bs->Option (Bs)
abbrev qd9:=Bs->wV->Int->Int->Bs->Option (Bs)
def qwd(fu:Nat)(j:qd9)(k:q3a):q3a:=fun i d g f e a c b=>bif decide (a<e) then bif decide (0<=a/\a.toNat<c.length) then(c[a.toNat]?).bind fun h=>bif decide (List.length (b++h)<=a7) then bif decide (List.length ((b++h)++([13,10]:Bs))<=a7) then k i d g f e (af (a+1)) c ((b++h)++([13,10]:Bs)) else none else none else none else j i d g (af (f+1)) b
def qby(fu:Nat)(a:qd9):Nat->q3a|0=>fun _ _ _ _ _ _ _ _=>none|n+1=>qwd fu a (qby fu a n)
def qwc(h:qd9):qd9:=fun e c d b a=>bif decide (b<d) then(am c b).bind fun g=>(xu fu g.1 g.2).bind fun f=>qby fu h fu e c d b (f.2.length:Int) 0 f.2 a else bif decide (List.length (a++([13,10]:Bs))<=a7) then bif decide (List.length ((a++([13,10]:Bs))++e)<=a7) then some ((a++([13,10]:Bs))++e) else none else none
def yd(fu:Nat):Nat->qd9|0=>fun _ _ _ _ _=>none|n+1=>qwc fu (yd fu n)
def qwb(a:List (Bs×Bs))(b:Bs):Option (Bs):=yd fu fu b a (a.length:Int) 0 []
abbrev qnm:=wV×Bs
abbrev sj:=wU->Option qnm
def qvx(a:sj)(fu:Nat)(b:Tree (wV×Bs)):Option (Bs):=(a (Tree.node b.val b.kids)).bind fun c=>(qwb fu c.1 c.2).bind fun d=>some d
abbrev q3b:=(List wU)->Int->Int->(List Bs)->Option ((List Bs))
def qv5(b:sj)(fu:Nat)(h:q3b):q3b:=fun f g c a=>bif decide (c<g) then(am f c).bind fun e=>(qvx b fu (Tree.node e.val e.kids)).bind fun d=>bif decide (List.length (a++([d]:List Bs))<=a7) then h f g (af (c+1)) (a++([d]:List Bs)) else none else some a
def qhd(a:sj)(fu:Nat):Nat->q3b|0=>fun _ _ _ _=>none|n+1=>qv5 a fu (qhd a fu n)
def qv4(a:sj)(fu:Nat)(b:List wU):Option ((List Bs)):=qhd a fu fu b (b.length:Int) 0 []
def quy(b:Bs)(a:Bs):Option Bool:=bif decide ((a.length:Int)<=(b.length:Int)) then bif decide (0<=(a.length:Int)/\(a.length:Int)<=(b.length:Int)) then some ((List.take (a.length:Int).toNat b)==a) else none else some false
def qm3(c:Bs)(b:Bs):Option Bool:=(quy c b).bind fun a=>some a
abbrev q71:=(Bs×Bool) ⊕ (Bs×Bool)
def qha(e:Int)(d:Bs)(a:Bs)(b:Bool):Option q71:=bif decide (List.length ([45,45]:Bs)+a.length<=ap) then(qm3 d (([45,45]:Bs)++a)).bind fun c=>bif c then some (.inl (a,true)) else some (.inr (a,b)) else none
abbrev qx4:=(Bs×Bs×Bool) ⊕ (Bs×Bs×Bool)
abbrev q3c:=Int->Bs->Bs->Bool->Option qx4
def qv2(fu:Nat)(g:q3c):q3c:=fun a b e d=>bif decide (a<(b.length:Int)) then bif decide (0<=a/\a<=(b.length:Int)) then bif decide (0<List.length ([13,10]:Bs)) then(oq (List.drop a.toNat b) ([13,10]:Bs)).bind fun c=>bif decide (0<=c) then bif decide (0<=a/\a<=af (a+c)/\af (a+c)<=(b.length:Int)) then(qha a (List.take ((af (a+c)).toNat-a.toNat) (List.drop a.toNat b)) e d).bind fun i=>ch i (fun l=>some (.inl (b,l))) (fun h=>g (af ((af (a+c))+2)) b h.1 h.2) else none else bif decide (0<=a/\a<=(b.length:Int)/\(b.length:Int)<=(b.length:Int)) then(qha a (List.take ((b.length:Int).toNat-a.toNat) (List.drop a.toNat b)) e d).bind fun k=>ch k (fun j=>some (.inl (b,j))) (fun f=>g (b.length:Int) b f.1 f.2) else none else none else none else some (.inr (b,(e,d)))
def qbx(fu:Nat):Nat->q3c|0=>fun _ _ _ _=>none|n+1=>qv2 fu (qbx fu n)
def qv1(c:Bs)(b:Bs)(a:Bool):Option qx4:=qbx fu fu 0 c b a
def qmu(d:Bs)(b:Bs):Option (Bool×Bs):=(qhc d).bind fun e=>(qv1 fu e b false).bind fun c=>ch c (fun a=>some (a.2.2,a.2.1)) (fun f=>some (false,f.2.1))
abbrev q3e:=(List Bs)->Int->Int->Bs->Option (Int×Bs)
def qwl(f:q3e):q3e:=fun d c a e=>bif decide (a<c) then(am d a).bind fun g=>(qmu fu g e).bind fun b=>bif b.1 then some (a,b.2) else f d c (af (a+1)) b.2 else some ((-1),e)
def qhi(fu:Nat):Nat->q3e|0=>fun _ _ _ _=>none|n+1=>qwl fu (qhi fu n)
def qwk(a:List Bs)(b:Bs):Option (Int×Bs):=qhi fu fu a (a.length:Int) 0 b
def qhg(c:List Bs)(b:Bs):Option (Bool×Bs):=(qwk fu c b).bind fun a=>some (decide (0<=a.1),a.2)
abbrev q3f:=(List Bs)->Int->Option (Bs)
def qvw(e:q3f):q3f:=fun d a=>(ov a).bind fun c=>bif decide (List.length ([98]:Bs)+c.length<=ap) then(qhg fu d (([98]:Bs)++c)).bind fun b=>bif !b.1 then some b.2 else e d (af (a+1)) else none
def qhb(fu:Nat):Nat->q3f|0=>fun _ _=>none|n+1=>qvw fu (qhb fu n)
def qvv(a:List Bs):Option (Bs):=qhb fu fu a 0
abbrev q3g:=Bs->Int->Int->wV->(List Bs)->Bs->Option qnm
def qvy(g:sj)(fu:Nat)(i:q3g):q3g:=fun b e c f d a=>bif decide (c<e) then bif decide (0<=c/\c.toNat<d.length) then(d[c.toNat]?).bind fun h=>bif decide (List.length ([45,45]:Bs)+b.length<=ap) then bif decide (List.length (([45,45]:Bs)++b)+List.length ([13,10]:Bs)<=ap) then bif decide (List.length (a++((([45,45]:Bs)++b)++([13,10]:Bs)))<=a7) then bif decide (List.length ((a++((([45,45]:Bs)++b)++([13,10]:Bs)))++h)<=a7) then bif decide (List.length (((a++((([45,45]:Bs)++b)++([13,10]:Bs)))++h)++([13,10]:Bs))<=a7) then i b e (af (c+1)) f d (((a++((([45,45]:Bs)++b)++([13,10]:Bs)))++h)++([13,10]:Bs)) else none else none else none else none else none else none else bif decide (List.length ([45,45]:Bs)+b.length<=ap) then bif decide (List.length (([45,45]:Bs)++b)+List.length ([45,45,13,10]:Bs)<=ap) then bif decide (List.length (a++((([45,45]:Bs)++b)++([45,45,13,10]:Bs)))<=a7) then some (f,a++((([45,45]:Bs)++b)++([45,45,13,10]:Bs))) else none else none else none
def qbw(a:sj)(fu:Nat):Nat->q3g|0=>fun _ _ _ _ _ _=>none|n+1=>qvy a fu (qbw a fu n)
def qmv(a:sj)(fu:Nat)(e:Tree (wV×Bs)):Option qnm:=bif(e.kids.length:Int)==0 then some e.val else(qv4 a fu e.kids).bind fun h=>(qvv fu h).bind fun d=>(xz fu e.val.1).bind fun m=>ch m (fun f=>(dm []).bind fun l=>bif decide (List.length (l++([(([98,111,117,110,100,97,114,121]:Bs),d)]:List (Bs×Bs)))<=a7) then(dm e.val.1).bind fun j=>(uv fu (f.1,(f.2.1,l++([(([98,111,117,110,100,97,114,121]:Bs),d)]:List (Bs×Bs))))).bind fun o=>bif decide (0<=f.2.2.1/\f.2.2.1.toNat<j.length) then(j[f.2.2.1.toNat]?).bind fun p=>qbw a fu fu d (h.length:Int) 0 (List.set j f.2.2.1.toNat (p.1,o.1)) h [] else none else none) (fun b=>(dm b.2.2.2.2).bind fun g=>bif decide (List.length (g++([(([98,111,117,110,100,97,114,121]:Bs),d)]:List (Bs×Bs)))<=a7) then(dm e.val.1).bind fun c=>(uv fu (b.1,(b.2.1,g++([(([98,111,117,110,100,97,114,121]:Bs),d)]:List (Bs×Bs))))).bind fun k=>bif decide (0<=b.2.2.1/\b.2.2.1.toNat<c.length) then(c[b.2.2.1.toNat]?).bind fun i=>qbw a fu fu d (h.length:Int) 0 (List.set c b.2.2.1.toNat (i.1,k.1)) h [] else none else none)
def u5(fu:Nat):Nat->sj|0=>fun _=>none|n+1=>qmv (u5 fu n) fu
def q60(a:Tree (wV×Bs)):Option qnm:=u5 fu fu a
abbrev q3h:=wV->Int->Int->Int->Int->(wV×Bs)->(List Bs)->Bs->Option (Bs)
abbrev qj5:=wV->Int->Int->(wV×Bs)->Bs->Option (Bs)
def qvk(fu:Nat)(j:qj5)(k:q3h):q3h:=fun f d h e a g c b=>bif decide (a<e) then bif decide (0<=a/\a.toNat<c.length) then(c[a.toNat]?).bind fun i=>bif decide (List.length (b++i)<=a7) then bif decide (List.length ((b++i)++([13,10]:Bs))<=a7) then k f d h e (af (a+1)) g c ((b++i)++([13,10]:Bs)) else none else none else none else j f d (af (h+1)) g b
def qbp(fu:Nat)(a:qj5):Nat->q3h|0=>fun _ _ _ _ _ _ _ _=>none|n+1=>qvk fu a (qbp fu a n)
def qvj(h:qj5):qj5:=fun e d c b a=>bif decide (c<d) then(am e c).bind fun g=>(xu fu g.1 g.2).bind fun f=>qbp fu h fu e d c (f.2.length:Int) 0 b f.2 a else bif decide (List.length (a++([13,10]:Bs))<=a7) then bif decide (List.length ((a++([13,10]:Bs))++b.2)<=a7) then some ((a++([13,10]:Bs))++b.2) else none else none
def xy(fu:Nat):Nat->qj5|0=>fun _ _ _ _ _=>none|n+1=>qvj fu (xy fu n)
def qvi(a:wV×Bs):Option (Bs):=xy fu fu a.1 (a.1.length:Int) 0 a []
def qmj(c:Bs):Option ((Int×Int)):=(qbe fu c).bind fun a=>bif a==11 then(da 11 (-5)).bind fun b=>some b else bif a==1 then(da 1 (-6)).bind fun d=>some d else(ig).bind fun e=>some e
def qg5(a:wV×Bs):Option ((Int×Int)):=(qgh fu a.1).bind fun b=>(e7 b).bind fun c=>bif c then some b else(qvi fu a).bind fun d=>bif decide (12000<(d.length:Int)) then(da 1 (-4)).bind fun e=>some e else(qmj fu a.2).bind fun f=>some f
abbrev zki:=(wV×Bs)×(Int×Int)
def qg6(a:Tree (wV×Bs)):Option zki:=(qbr fu (Tree.node a.val a.kids)).bind fun b=>(e7 b).bind fun g=>bif g then some (([],[]),b) else(q60 fu (Tree.node a.val a.kids)).bind fun c=>(dm c.1).bind fun d=>(dm c.2).bind fun f=>(qg5 fu (d,f)).bind fun e=>(e7 e).bind fun j=>bif j then(da e.1 (-3)).bind fun i=>some (([],[]),i) else(ig).bind fun h=>some ((d,f),h)
def qml(b:Bs×Bs):Option Bool:=(kv fu b.1 ([98,111,117,110,100,97,114,121]:Bs)).bind fun a=>some a
abbrev q3k:=wV->Int->Int->Option Int
def q7b(e:q3k):q3k:=fun c b a=>bif decide (a<b) then(am c a).bind fun f=>(qml fu f).bind fun d=>bif d then some a else e c b (af (a+1)) else some (-1)
def qwj(fu:Nat):Nat->q3k|0=>fun _ _ _=>none|n+1=>q7b fu (qwj fu n)
def qwi(a:List (Bs×Bs)):Option Int:=qwj fu fu a (a.length:Int) 0
abbrev q3l:=wV->Int->Int->Option (wV)
def q68(e:q3l):q3l:=fun a b c=>bif decide (c<(a.length:Int)) then(am a c).bind fun f=>(qml fu f).bind fun d=>bif !d then(am a b).bind fun g=>none else e a b (af (c+1)) else bif decide (0<=b/\b<=(a.length:Int)) then none else none
def qwe(fu:Nat):Nat->q3l|0=>fun _ _ _=>none|n+1=>q68 fu (qwe fu n)
def q67(b:List (Bs×Bs)):Option (wV):=(qwi fu b).bind fun a=>bif a==(-1) then some b else qwe fu fu b a (af (a+1))
abbrev q3m:=Int->Int->wV->Option (wV)
def q7a(d:q3m):q3m:=fun b c a=>bif decide (c<(a.length:Int)) then bif decide (0<=c/\c.toNat<a.length) then(a[c.toNat]?).bind fun e=>(qml fu e).bind fun f=>bif !f then bif decide (0<=b/\b.toNat<a.length) then(a[b.toNat]?).bind fun g=>d (af (b+1)) (af (c+1)) (List.set a b.toNat e) else none else d b (af (c+1)) a else none else bif decide (0<=b/\b.toNat<a.length) then bif decide (0<=b/\b<=(List.length (List.take b.toNat a++List.replicate (a.length-b.toNat) (([]:Bs),([]:Bs))):Int)) then some (List.take b.toNat (List.take b.toNat a++List.replicate (a.length-b.toNat) (([]:Bs),([]:Bs)))) else none else none
def qwf(fu:Nat):Nat->q3m|0=>fun _ _ _=>none|n+1=>q7a fu (qwf fu n)
def q69(b:List (Bs×Bs)):Option (wV):=(qwi fu b).bind fun a=>bif a==(-1) then some b else qwf fu fu a (af (a+1)) b
abbrev zkk:=Bool×wV
def qvr(f:List (Bs×Bs)):Option zkk:=(xz fu f).bind fun k=>ch k (fun c=>(q67 fu []).bind fun l=>(uv fu (c.1,(c.2.1,l))).bind fun i=>(e7 i.2).bind fun m=>bif m then some (false,[]) else(dm f).bind fun h=>bif decide (0<=c.2.2.1/\c.2.2.1.toNat<h.length) then(h[c.2.2.1.toNat]?).bind fun j=>some (true,List.set h c.2.2.1.toNat (j.1,i.1)) else none) (fun a=>(q69 fu a.2.2.2.2).bind fun o=>(uv fu (a.1,(a.2.1,o))).bind fun d=>(e7 d.2).bind fun g=>bif g then some (false,[]) else(dm f).bind fun b=>bif decide (0<=a.2.2.1/\a.2.2.1.toNat<b.length) then(b[a.2.2.1.toNat]?).bind fun e=>some (true,List.set b a.2.2.1.toNat (e.1,d.1)) else none)
def q6f(c:Bs)(b:UInt8):Option Int:=(uu c b).bind fun a=>some a
def q6d(b:Bs)(a:Bs):Option Bool:=some (b==a)
def q6e(a:Bs)(b:Bs):Option Bool:=bif decide ((b.length:Int)<=(a.length:Int)) then bif decide (0<=af ((a.length:Int)-(b.length:Int))/\af ((a.length:Int)-(b.length:Int))<=(a.length:Int)) then(q6d (List.drop (af ((a.length:Int)-(b.length:Int))).toNat a) b).bind fun c=>some c else none else some false
def q6g(a:Bs)(b:Bs):Option (Bs):=(q6e a b).bind fun c=>bif c then bif decide (0<=af ((a.length:Int)-(b.length:Int))/\af ((a.length:Int)-(b.length:Int))<=(a.length:Int)) then some (List.take (af ((a.length:Int)-(b.length:Int))).toNat a) else none else some a
def q6n(a:Bs):Option (Bs×Int):=(q6f a 10).bind fun b=>bif decide (b<0) then some (a,(a.length:Int)) else bif decide (0<=b/\b<=(a.length:Int)) then bif decide (0<List.length ([13]:Bs)) then(q6g (List.take b.toNat a) ([13]:Bs)).bind fun c=>some (c,af (b+1)) else none else none
def q6o(c:Bs):Option Bool:=(xu fu c ([]:Bs)).bind fun b=>(e7 b.1).bind fun a=>some (!a)
def q6m(d:Bs):Option ((Bs×Bs)×Bool):=(qhk d ([58]:Bs)).bind fun a=>(qhq fu a.1 ([32,9]:Bs)).bind fun b=>bif a.2.2 then(q6o fu b).bind fun c=>some ((b,a.2.1),c) else some ((b,a.2.1),false)
abbrev z0w:=Bs->Bs->Option (Bs)
abbrev z0v:=Bs->Bs->Bool->Option (Bs)
abbrev z0u:=Bs->Bs->Option (Bs)
abbrev z0t:=Bs->Bs->Bool->Option (Bs)
def q7k:z0w:=fun d b=>(qb0 fu b).bind fun a=>bif decide (a.1.length=List.length (List.replicate 256 false))&&decide (a.1.length=256) then bif a.2 then(qng fu d a.1).bind fun c=>(qnf fu c.1 c.2).bind fun e=>some e.1 else(qxm fu d b).bind fun f=>(qxh fu f b).bind fun g=>some g else none
def qw8:z0v:=fun c b a=>bif a then(am b 0).bind fun e=>(qxk fu c e).bind fun f=>(am b 0).bind fun d=>(qxf fu f d).bind fun g=>some g else q7k fu c b
def q7j:z0u:=fun b a=>bif(a.length:Int)==1 then(am a 0).bind fun c=>qw8 fu b a (decide (c<128)) else qw8 fu b a false
def qw7:z0t:=fun b c a=>bif a then some b else q7j fu b c
def qw2(b:Bs)(a:Bs):Option (Bs):=bif b==([]:Bs) then qw7 fu b a true else qw7 fu b a (a==([]:Bs))
abbrev yl:=Int×(Int×Int)×wV
abbrev q3p:=Int->Int->Int->(Int×Int)->wV->Int->Int->Int->Bs->Option yl
abbrev q3o:=Int->Int->(Int×Int)->Int->Int->Int->(List Bs)->wV->Option yl
abbrev z04:=Int->(Int×Int)->wV->Option yl
abbrev z06:=Bs->Int->Bs->Int->(Int×Int)->wV->Option yl
abbrev z05:=Bs->Int->Bs->Int->Bool->(Int×Int)->wV->Option yl
abbrev qj7:=Bs->Int->(Int×Int)->wV->Option yl
def q6k(m:q3p):q3p:=fun j f a h b c d e i=>bif decide (a<f) then bif decide (0<=a/\a.toNat<b.length) then(b[a.toNat]?).bind fun p=>(qhf fu p.2 c d e i).bind fun g=>(qw2 fu g.1 ([32,9]:Bs)).bind fun k=>bif decide (4000<(k.length:Int)) then(da 1 a).bind fun l=>some (0,(l,[])) else bif decide (0<=a/\a.toNat<b.length) then(b[a.toNat]?).bind fun o=>m j f (af (a+1)) h (List.set b a.toNat (o.1,k)) g.2.1 g.2.2.1 g.2.2.2.1 g.2.2.2.2 else none else none else(ig).bind fun q=>some (j,(q,b))
def quu(fu:Nat):Nat->q3p|0=>fun _ _ _ _ _ _ _ _ _=>none|n+1=>q6k fu (quu fu n)
def q6j(p:q3o):q3o:=fun i f g c b d h a=>bif decide (0<f) then bif decide (0<=(0:Int)/\(0:Int).toNat<a.length) then(a[(0:Int).toNat]?).bind fun l=>(qhe fu l.2 c b d h).bind fun e=>(qw2 fu e.1 ([32,9]:Bs)).bind fun j=>bif decide (4000<(j.length:Int)) then(da 1 0).bind fun m=>some (0,(m,[])) else bif decide (0<=(0:Int)/\(0:Int).toNat<a.length) then(a[(0:Int).toNat]?).bind fun k=>quu fu fu i f 1 g (List.set a ((0:Int).toNat) (k.1,j)) e.2.1 e.2.2.1 e.2.2.2.1 e.2.2.2.2 else none else none else(ig).bind fun o=>some (i,(o,a))
def qut(fu:Nat):Nat->q3o|0=>fun _ _ _ _ _ _ _ _=>none|n+1=>q6j fu (qut fu n)
def ql8:z04:=fun d c a=>bif decide (60<(a.length:Int)) then(da 2 (-2)).bind fun e=>some (0,(e,[])) else(qm8 ([([0]:Bs),([32]:Bs),([13]:Bs),([32]:Bs)]:List Bs)).bind fun b=>qut fu fu d (a.length:Int) c b.1 b.2.1 b.2.2.1 b.2.2.2 a
def q6l(f:qj7):z06:=fun h d e g b a=>(q6m fu e).bind fun c=>bif !c.2 then ql8 fu d b a else bif decide (List.length (a++([c.1]:List (Bs×Bs)))<=a7) then f h (af (d+g)) b (a++([c.1]:List (Bs×Bs))) else none
def qus(e:qj7):z05:=fun i f c h d b a=>bif d then bif decide (0<=af ((a.length:Int)-1)/\(af ((a.length:Int)-1)).toNat<a.length) then(a[(af ((a.length:Int)-1)).toNat]?).bind fun g=>bif decide (g.2.length+c.length<=ap) then bif decide (0<=af ((a.length:Int)-1)/\(af ((a.length:Int)-1)).toNat<a.length) then(a[(af ((a.length:Int)-1)).toNat]?).bind fun j=>e i (af (f+h)) b (List.set a ((af ((a.length:Int)-1)).toNat) (j.1,g.2++c)) else none else none else none else q6l fu e i f c h b a
def q6i(f:qj7):qj7:=fun e c b a=>bif decide (c<(e.length:Int)) then bif decide (0<=c/\c<=(e.length:Int)) then(q6n (List.drop c.toNat e)).bind fun d=>bif d.1==([]:Bs) then ql8 fu (af (c+d.2)) b a else(am d.1 0).bind fun h=>(ut h).bind fun g=>bif g then qus fu f e c d.1 d.2 (decide (0<(a.length:Int))) b a else qus fu f e c d.1 d.2 false b a else none else ql8 fu c b a
def qur(fu:Nat):Nat->qj7|0=>fun _ _ _ _=>none|n+1=>q6i fu (qur fu n)
def q6h(a:Bs):Option yl:=bif decide (12000<(a.length:Int)) then(da 1 (-1)).bind fun b=>some (0,(b,[])) else qur fu fu a 0 (0,0) []
abbrev qx5:=wU×Bool×(Int×Int×Int)
abbrev qj8:=Bs->Int->(Int×Int×Int)->Option qx5
abbrev q74:=wU×Bool×(Int×Int×Int)
abbrev q3q:=Int->Int->Int->(Int×Int×Int)->(List Bs)->wV->(List wU)->Option q74
def q66(d:qj8)(fu:Nat)(j:q3q):q3q:=fun h f a i e g b=>bif decide (a<f) then bif decide (0<=a/\a.toNat<e.length) then(e[a.toNat]?).bind fun k=>(d k (af (h+1)) i).bind fun c=>bif !c.2.1 then some ((Tree.node ([],[]) []),(false,c.2.2)) else bif decide (List.length (b++([(Tree.node c.1.val c.1.kids)]:List wU))<=a7) then j h f (af (a+1)) c.2.2 e g (b++([(Tree.node c.1.val c.1.kids)]:List wU)) else none else none else some ((Tree.node (g,[]) b),(true,i))
def qv7(a:qj8)(fu:Nat):Nat->q3q|0=>fun _ _ _ _ _ _ _=>none|n+1=>q66 a fu (qv7 a fu n)
def q65(a:qj8)(fu:Nat)(f:Bs)(i:Int)(b:Int×Int×Int)(c:List (Bs×Bs)):Option q74:=(dm c).bind fun g=>(dm f).bind fun e=>(qbv fu c f i).bind fun d=>bif(d.length:Int)==0 then some ((Tree.node (g,e) []),(true,(af (b.1+1),b.2))) else(qvr fu c).bind fun h=>bif !h.1 then some ((Tree.node (g,e) []),(true,(af (b.1+1),b.2))) else qv7 a fu fu i (d.length:Int) 0 (af (b.1+1),b.2) d h.2 []
def qv8(a:qj8)(fu:Nat)(d:Bs)(i:Int)(c:Int×Int×Int):Option qx5:=(q6h fu d).bind fun b=>(e7 b.2.1).bind fun f=>bif f then(da b.2.1.1 (-8)).bind fun g=>some ((Tree.node ([],[]) []),(false,(c.1,g))) else bif c.1==40 then(da 2 (-7)).bind fun h=>some ((Tree.node ([],[]) []),(false,(c.1,h))) else bif decide (0<=b.1/\b.1<=(d.length:Int)) then(q65 a fu (List.drop b.1.toNat d) i c b.2.2).bind fun e=>some ((Tree.node e.1.val e.1.kids),e.2) else none
def qv9(fu:Nat):Nat->qj8|0=>fun _ _ _=>none|n+1=>qv8 (qv9 fu n) fu
def zka(c:Bs)(b:Int)(a:Int×Int×Int):Option qx5:=qv9 fu fu c b a
abbrev q73:=wU×Bool×(Int×Int×Int)
abbrev q3r:=Int->Int->Int->(Int×Int×Int)->(List Bs)->wV->(List wU)->Option q73
def q64(i:q3r):q3r:=fun g e a h d f b=>bif decide (a<e) then bif decide (0<=a/\a.toNat<d.length) then(d[a.toNat]?).bind fun j=>(zka fu j (af (g+1)) h).bind fun c=>bif !c.2.1 then some ((Tree.node ([],[]) []),(false,c.2.2)) else bif decide (List.length (b++([(Tree.node c.1.val c.1.kids)]:List wU))<=a7) then i g e (af (a+1)) c.2.2 d f (b++([(Tree.node c.1.val c.1.kids)]:List wU)) else none else none else some ((Tree.node (f,[]) b),(true,h))
def qv6(fu:Nat):Nat->q3r|0=>fun _ _ _ _ _ _ _=>none|n+1=>q64 fu (qv6 fu n)
def q63(b:List (Bs×Bs))(h:Bs)(d:Int)(a:Int×Int×Int):Option q73:=(dm b).bind fun f=>(dm h).bind fun e=>(qbv fu b h d).bind fun c=>bif(c.length:Int)==0 then some ((Tree.node (f,e) []),(true,(af (a.1+1),a.2))) else(qvr fu b).bind fun g=>bif !g.1 then some ((Tree.node (f,e) []),(true,(af (a.1+1),a.2))) else qv6 fu fu d (c.length:Int) 0 (af (a.1+1),a.2) c g.2 []
abbrev zkj:=wU×(Int×Int)
def q6x(b:wV×Bs):Option zkj:=(qg5 fu b).bind fun c=>(e7 c).bind fun e=>bif e then some ((Tree.node ([],[]) []),c) else(q63 fu b.1 b.2 0 (0,(0,0))).bind fun a=>bif !a.2.1 then some ((Tree.node ([],[]) []),a.2.2.2) else(qbr fu (Tree.node a.1.val a.1.kids)).bind fun d=>(e7 d).bind fun h=>bif h then(da d.1 (-9)).bind fun f=>some ((Tree.node ([],[]) []),f) else(ig).bind fun g=>some ((Tree.node a.1.val a.1.kids),g)
abbrev qx1:=wU
abbrev qj9:=wU->Option qx1
abbrev q72:=(List wU)
abbrev q3s:=(List wU)->Int->Int->(List wU)->Option q72
def q62(a:qj9)(fu:Nat)(h:q3s):q3s:=fun f g c b=>bif decide (c<g) then(am f c).bind fun e=>(a (Tree.node e.val e.kids)).bind fun d=>bif decide (List.length (b++([(Tree.node d.val d.kids)]:List wU))<=a7) then h f g (af (c+1)) (b++([(Tree.node d.val d.kids)]:List wU)) else none else some b
def qv3(a:qj9)(fu:Nat):Nat->q3s|0=>fun _ _ _ _=>none|n+1=>q62 a fu (qv3 a fu n)
def q61(a:qj9)(fu:Nat)(b:List wU):Option q72:=qv3 a fu fu b (b.length:Int) 0 []
def qvl(a:qj9)(fu:Nat)(b:Tree (wV×Bs)):Option qx1:=(dm b.val.1).bind fun d=>(dm b.val.2).bind fun c=>(q61 a fu b.kids).bind fun e=>some (Tree.node (d,c) e)
def qvm(fu:Nat):Nat->qj9|0=>fun _=>none|n+1=>qvl (qvm fu n) fu
def zj9(a:Tree (wV×Bs)):Option qx1:=qvm fu fu a
abbrev qx2:=wU×(Int×Int)
abbrev z1r:=Int->Int->Int->Int->Bool->wU->(Int×Int)->(List Int)->Option qx2
abbrev qrg:=Int->Int->wU->(Int×Int)->(List Int)->Option qx2
def qvo(fu:Nat)(i:qrg):z1r:=fun h k e a d b f c=>bif d then(da 3 h).bind fun j=>some ((Tree.node ([],[]) []),j) else(am b.kids k).bind fun g=>i e (af (a+1)) (Tree.node g.val g.kids) f c
def q6w(h:qrg):qrg:=fun d a b e c=>bif decide (a<d) then bif decide (0<=a/\a.toNat<c.length) then(c[a.toNat]?).bind fun f=>bif decide (f<0) then qvo fu h a f d a true (Tree.node b.val b.kids) e c else qvo fu h a f d a (decide ((b.kids.length:Int)<=f)) (Tree.node b.val b.kids) e c else none else(zj9 fu (Tree.node b.val b.kids)).bind fun g=>(ig).bind fun i=>some ((Tree.node g.val g.kids),i)
def qvn(fu:Nat):Nat->qrg|0=>fun _ _ _ _ _=>none|n+1=>q6w fu (qvn fu n)
def q6v(a:Tree (wV×Bs))(c:List Int):Option qx2:=(qbr fu (Tree.node a.val a.kids)).bind fun b=>(e7 b).bind fun d=>bif d then some ((Tree.node ([],[]) []),b) else qvn fu fu (c.length:Int) 0 (Tree.node a.val a.kids) (0,0) c
abbrev q3t:=wV->wV->Int->Option Bool
def qs4(fu:Nat)(f:q3t):q3t:=fun b d a=>bif decide (a<(b.length:Int)) then(am b a).bind fun e=>(am d a).bind fun c=>bif !((e.1==c.1)&&((e.2==c.2)&&true)) then some false else f b d (af (a+1)) else some true
def qa0(fu:Nat):Nat->q3t|0=>fun _ _ _=>none|n+1=>qs4 fu (qa0 fu n)
def qli(b:List (Bs×Bs))(a:List (Bs×Bs)):Option Bool:=bif(b.length:Int) != (a.length:Int) then some false else qa0 fu fu b a 0
def qky(b:Bs)(a:Bs):Option Bool:=some (b==a)
abbrev qea:=wU->wU->Option Bool
abbrev q3u:=Int->wU->wU->Option Bool
abbrev z15:=wU->wU->Option Bool
abbrev z14:=Bool->wU->wU->Option Bool
def q58(b:qea)(fu:Nat)(h:q3u):q3u:=fun d a c=>bif decide (d<(a.kids.length:Int)) then(am a.kids d).bind fun f=>(am c.kids d).bind fun e=>(b (Tree.node f.val f.kids) (Tree.node e.val e.kids)).bind fun g=>bif !g then some false else h (af (d+1)) (Tree.node a.val a.kids) (Tree.node c.val c.kids) else some true
def qt6(a:qea)(fu:Nat):Nat->q3u|0=>fun _ _ _=>none|n+1=>q58 a fu (qt6 a fu n)
def q59(a:qea)(fu:Nat):z15:=fun c b=>qt6 a fu fu 0 (Tree.node c.val c.kids) (Tree.node b.val b.kids)
def qlx(a:qea)(fu:Nat):z14:=fun d c b=>bif d then some false else q59 a fu (Tree.node c.val c.kids) (Tree.node b.val b.kids)
def qt4(a:qea)(fu:Nat)(b:Tree (wV×Bs))(c:Tree (wV×Bs)):Option Bool:=(qli fu b.val.1 c.val.1).bind fun e=>bif !e then qlx a fu true (Tree.node b.val b.kids) (Tree.node c.val c.kids) else(qky b.val.2 c.val.2).bind fun d=>bif !d then qlx a fu true (Tree.node b.val b.kids) (Tree.node c.val c.kids) else qlx a fu ((b.kids.length:Int) != (c.kids.length:Int)) (Tree.node b.val b.kids) (Tree.node c.val c.kids)
def qt5(fu:Nat):Nat->qea|0=>fun _ _=>none|n+1=>qt4 (qt5 fu n) fu
def zj3(b:Tree (wV×Bs))(a:Tree (wV×Bs)):Option Bool:=qt5 fu fu b a
def qud:Option Bool:=(quc).bind fun c=>(qg6 fu (Tree.node c.val c.kids)).bind fun a=>(q6x fu a.1).bind fun b=>(q6v fu (Tree.node b.1.val b.1.kids) ([1]:List Int)).bind fun d=>bif a.2.1==0 then bif b.2.1==0 then bif d.2.1==0 then bif(a.1.1.length:Int)==1 then(am a.1.1 0).bind fun f=>bif f.2==([109,117,108,116,105,112,97,114,116,47,109,105,120,101,100,59,32,98,111,117,110,100,97,114,121,61,98,48]:Bs) then bif a.1.2==([45,45,98,48,13,10,13,10,97,13,10,45,45,98,48,13,10,13,10,98,13,10,13,10,45,45,98,48,45,45,13,10]:Bs) then(quc).bind fun e=>(zj3 fu (Tree.node b.1.val b.1.kids) (Tree.node e.val e.kids)).bind fun g=>bif g then some (d.1.val.2==([98,13,10]:Bs)) else some false else some false else some false else some false else some false else some false else some false
abbrev qni:=(List wU)×(List Int)
abbrev qri:=wU->Int->Option qni
abbrev q3v:=Int->Int->wU->(List wU)->(List Int)->Option qni
def qtt(c:qri)(fu:Nat)(i:q3v):q3v:=fun g f a b d=>bif decide (f<(a.kids.length:Int)) then(am a.kids f).bind fun h=>(c (Tree.node h.val h.kids) (af (g+1))).bind fun e=>bif decide (List.length (b++e.1)<=a7) then bif decide (List.length (d++e.2)<=a7) then i g (af (f+1)) (Tree.node a.val a.kids) (b++e.1) (d++e.2) else none else none else some (b,d)
def qfy(a:qri)(fu:Nat):Nat->q3v|0=>fun _ _ _ _ _=>none|n+1=>qtt a fu (qfy a fu n)
def qlr(a:qri)(fu:Nat)(b:Tree (wV×Bs))(c:Int):Option qni:=qfy a fu fu c 0 (Tree.node b.val b.kids) ([(Tree.node b.val b.kids)]:List wU) ([c]:List Int)
def qa7(fu:Nat):Nat->qri|0=>fun _ _=>none|n+1=>qlr (qa7 fu n) fu
def q55(b:Tree (wV×Bs))(a:Int):Option qni:=qa7 fu fu b a
def ft(b:Int)(a:Int):Option ((Int×Int)):=some (b,a)
def fw(a:Int)(c:Int)(b:Int):Option Bool:=bif decide (c<=a) then some (decide (a<=b)) else some false
abbrev q3w:=Bs->Int->Option Bool
def qsh(fu:Nat)(f:q3w):q3w:=fun a b=>bif decide (b<(a.length:Int)) then(am a b).bind fun d=>(fw (d.toNat:Int) 33 126).bind fun e=>bif !e then some false else(am a b).bind fun c=>bif c==58 then some false else f a (af (b+1)) else(fw (a.length:Int) 1 60).bind fun g=>some g
def qeo(fu:Nat):Nat->q3w|0=>fun _ _=>none|n+1=>qsh fu (qeo fu n)
def qkz(a:Bs):Option Bool:=qeo fu fu a 0
abbrev q3y:=UInt8->Bs->Int->Option Bool
def qlc(fu:Nat)(e:q3y):q3y:=fun c b a=>bif decide (a<(b.length:Int)) then(am b a).bind fun d=>bif d==c then some true else e c b (af (a+1)) else some false
def qay(fu:Nat):Nat->q3y|0=>fun _ _ _=>none|n+1=>qlc fu (qay fu n)
def uo(b:UInt8)(a:Bs):Option Bool:=qay fu fu b a 0
def sv(a:UInt8):Option Bool:=bif a==32 then some true else some (a==9)
abbrev z27:=Bs->Option (Bs)
abbrev q31:=Bs->Option (Bs)
abbrev z26:=Bs->Bool->Option (Bs)
abbrev qka:=Bs->Option (Bs)
def qs9(fu:Nat)(b:qka):z27:=fun a=>bif decide (0<=(1:Int)/\1<=(a.length:Int)) then b (List.drop (1:Int).toNat a) else none
def qs8(fu:Nat)(b:q31):q31:=fun a=>bif decide (0<(a.length:Int)) then(am a (af ((a.length:Int)-1))).bind fun c=>(sv c).bind fun d=>bif d then bif decide (0<=af ((a.length:Int)-1)/\af ((a.length:Int)-1)<=(a.length:Int)) then b (List.take (af ((a.length:Int)-1)).toNat a) else none else some a else some a
def qfh(fu:Nat):Nat->q31|0=>fun _=>none|n+1=>qs8 fu (qfh fu n)
def qfg(c:qka):z26:=fun b a=>bif a then qs9 fu c b else qfh fu fu b
def qs7(b:qka):qka:=fun a=>bif decide (0<(a.length:Int)) then(am a 0).bind fun c=>(sv c).bind fun d=>qfg fu b a d else qfg fu b a false
def qff(fu:Nat):Nat->qka|0=>fun _=>none|n+1=>qs7 fu (qff fu n)
def qs6(a:Bs):Option (Bs):=qff fu fu a
abbrev q32:=Bs->Int->Option Int
def qsg(e:q32):q32:=fun a b=>bif decide (b<(a.length:Int)) then(am a b).bind fun c=>(uo fu c ([13,10,0]:Bs)).bind fun d=>bif d then some 11 else e a (af (b+1)) else(qs6 fu a).bind fun f=>bif !(f==a) then some 11 else some 0
def qam(fu:Nat):Nat->q32|0=>fun _ _=>none|n+1=>qsg fu (qam fu n)
def qen(b:Bs)(a:Bs):Option Int:=(qkz fu b).bind fun c=>bif !c then some 10 else bif decide (4000<(a.length:Int)) then some 1 else qam fu fu a 0
abbrev z3k:=Bs->Int->(List Int)->Option ((List Bs))
abbrev z3j:=Bs->Int->Bool->(List Int)->Option ((List Bs))
abbrev z3m:=Bs->Int->Int->Int->(List Int)->(List Bs)->Option ((List Bs))
abbrev z3l:=Bs->Int->Int->Int->Int->Bool->(List Int)->(List Bs)->Option ((List Bs))
abbrev qkc:=Bs->Int->Int->Int->(List Int)->(List Bs)->Option ((List Bs))
abbrev qaf:=Bs->Int->(List Int)->(List Bs)->Option ((List Bs))
abbrev qkb:=Bs->Int->(List Int)->Option ((List Bs))
def qk5(fu:Nat)(c:qkb):z3k:=fun d b a=>c d (af (b+1)) a
def qk4(d:qkb):z3j:=fun e b c a=>bif c then bif decide (List.length (a++([b]:List Int))<=a7) then qk5 fu d e b (a++([b]:List Int)) else none else qk5 fu d e b a
def qk6(fu:Nat)(h:qaf)(e:qkc):z3m:=fun f g d a c b=>e f g d (af (a+1)) c b
def qeu(i:qaf)(g:qkc):z3l:=fun h j f a d e c b=>bif e then qk6 fu i g h j d a c b else qk6 fu i g h j f a c b
def qsl(h:qaf)(i:qkc):qkc:=fun f e a b d c=>bif decide (b<(d.length:Int)) then bif decide (0<=b/\b.toNat<d.length) then(d[b.toNat]?).bind fun g=>bif decide (e<g) then bif decide ((af (g-e))<=78) then qeu fu h i f e a b g true d c else qeu fu h i f e a b g (decide (a<0)) d c else qeu fu h i f e a b g false d c else none else bif decide (a<0) then bif decide (0<=e/\e<=(f.length:Int)) then bif decide (List.length (c++([List.drop e.toNat f]:List Bs))<=a7) then some (c++([List.drop e.toNat f]:List Bs)) else none else none else bif decide (0<=e/\e<=a/\a<=(f.length:Int)) then bif decide (List.length (c++([List.take (a.toNat-e.toNat) (List.drop e.toNat f)]:List Bs))<=a7) then h f a d (c++([List.take (a.toNat-e.toNat) (List.drop e.toNat f)]:List Bs)) else none else none
def w7(fu:Nat)(a:qaf):Nat->qkc|0=>fun _ _ _ _ _ _=>none|n+1=>qsl fu a (w7 fu a n)
def qk3(e:qaf):qaf:=fun c b d a=>bif decide (78<(af ((c.length:Int)-b))) then w7 fu e fu c b (-1) 0 d a else bif decide (0<=b/\b<=(c.length:Int)) then bif decide (List.length (a++([List.drop b.toNat c]:List Bs))<=a7) then some (a++([List.drop b.toNat c]:List Bs)) else none else none
def sw(fu:Nat):Nat->qaf|0=>fun _ _ _ _=>none|n+1=>qk3 fu (sw fu n)
def qk2(d:qkb):qkb:=fun b c a=>bif decide (c<(b.length:Int)) then(am b c).bind fun f=>(sv f).bind fun g=>bif g then(am b (af (c-1))).bind fun e=>(sv e).bind fun h=>qk4 fu d b c (!h) a else qk4 fu d b c false a else sw fu fu b 0 a []
def qan(fu:Nat):Nat->qkb|0=>fun _ _ _=>none|n+1=>qk2 fu (qan fu n)
def qet(a:Bs)(b:Bs):Option ((List Bs)):=bif decide (a.length+List.length ([58,32]:Bs)<=ap) then bif decide (List.length (a++([58,32]:Bs))+b.length<=ap) then qan fu fu ((a++([58,32]:Bs))++b) (af ((a.length:Int)+3)) [] else none else none
abbrev q33:=Int->(Int×Int)->(List Bs)->Option ((Int×Int))
def qsk(fu:Nat)(e:q33):q33:=fun b c a=>bif decide (b<(a.length:Int)) then bif decide (0<=b/\b.toNat<a.length) then(a[b.toNat]?).bind fun f=>bif decide (998<(f.length:Int)) then(ft 1 b).bind fun d=>some d else e (af (b+1)) c a else none else some (0,0)
def qes(fu:Nat):Nat->q33|0=>fun _ _ _=>none|n+1=>qsk fu (qes fu n)
def qk1(a:Bs)(b:Bs):Option ((Int×Int)):=(qen fu a b).bind fun d=>bif d != 0 then(qen fu a b).bind fun c=>(ft c (-1)).bind fun e=>some e else(qet fu a b).bind fun f=>qes fu fu 0 (0,0) f
abbrev q34:=wV->Int->(Int×Int)->Option ((Int×Int))
def qsi(e:q34):q34:=fun b a c=>bif decide (a<(b.length:Int)) then(am b a).bind fun g=>(am b a).bind fun f=>(qk1 fu g.1 f.2).bind fun d=>bif d.1 != 0 then(ft d.1 a).bind fun h=>some h else e b (af (a+1)) c else some (0,0)
def qeq(fu:Nat):Nat->q34|0=>fun _ _ _=>none|n+1=>qsi fu (qeq fu n)
def qep(a:List (Bs×Bs)):Option ((Int×Int)):=bif decide (60<(a.length:Int)) then(ft 2 (-1)).bind fun b=>some b else qeq fu fu a 0 (0,0)
abbrev q36:=Int->Bs->Option (Bs)
def qk9(fu:Nat)(c:q36):q36:=fun b a=>bif decide (b<(a.length:Int)) then bif decide (0<=b/\b.toNat<a.length) then(a[b.toNat]?).bind fun f=>(fw (f.toNat:Int) 65 90).bind fun e=>bif e then bif decide (0<=b/\b.toNat<a.length) then(a[b.toNat]?).bind fun d=>bif decide (0<=b/\b.toNat<a.length) then(a[b.toNat]?).bind fun g=>c (af (b+1)) (List.set a b.toNat (d+32)) else none else none else c (af (b+1)) a else none else some a
def qaq(fu:Nat):Nat->q36|0=>fun _ _=>none|n+1=>qk9 fu (qaq fu n)
def ul(a:Bs):Option (Bs):=bif decide (a.length<=maxLen) then qaq fu fu 0 a else none
def ji(d:Bs)(c:Bs):Option Bool:=(ul fu d).bind fun b=>(ul fu c).bind fun a=>some (b==a)
abbrev q37:=wV->Bs->Int->(List Bs)->Option ((List Bs))
def qte(f:q37):q37:=fun c d b a=>bif decide (b<(c.length:Int)) then(am c b).bind fun h=>(ji fu h.1 d).bind fun g=>bif g then(am c b).bind fun e=>bif decide (List.length (a++([e.2]:List Bs))<=a7) then f c d (af (b+1)) (a++([e.2]:List Bs)) else none else f c d (af (b+1)) a else some a
def qa2(fu:Nat):Nat->q37|0=>fun _ _ _ _=>none|n+1=>qte fu (qa2 fu n)
def qlj(b:List (Bs×Bs))(a:Bs):Option ((List Bs)):=qa2 fu fu b a 0 []
abbrev q38:=Bs->Int->Option Int
def qtk(fu:Nat)(e:q38):q38:=fun b a=>bif decide (a<(b.length:Int)) then(am b a).bind fun c=>(sv c).bind fun d=>bif d then e b (af (a+1)) else some a else some a
def qfr(fu:Nat):Nat->q38|0=>fun _ _=>none|n+1=>qtk fu (qfr fu n)
def qd(b:Bs)(a:Int):Option Int:=qfr fu fu b a
def qa1(a:UInt8):Option Bool:=(fw (a.toNat:Int) 33 126).bind fun c=>bif c then(uo fu a ([40,41,60,62,64,44,59,58,92,34,47,91,93,63,61,42,37,39]:Bs)).bind fun b=>some (!b) else some false
abbrev q4b:=Bs->Int->Bs->Option Int
def qtj(d:q4b):q4b:=fun b a c=>bif decide (a<(b.length:Int)) then(am b a).bind fun f=>(qa1 fu f).bind fun g=>bif g then d b (af (a+1)) c else(am b a).bind fun e=>(uo fu e c).bind fun h=>bif h then d b (af (a+1)) c else some a else some a
def qfq(fu:Nat):Nat->q4b|0=>fun _ _ _=>none|n+1=>qtj fu (qfq fu n)
def qa4(c:Bs)(b:Int)(a:Bs):Option Int:=qfq fu fu c b a
abbrev q4c:=Bs->Bs->Int->Option Int
def qsj(fu:Nat)(d:q4c):q4c:=fun c b a=>bif decide ((af (a+(b.length:Int)))<=(c.length:Int)) then bif decide (0<=a/\a<=af (a+(b.length:Int))/\af (a+(b.length:Int))<=(c.length:Int)) then bif(List.take ((af (a+(b.length:Int))).toNat-a.toNat) (List.drop a.toNat c))==b then some a else d c b (af (a+1)) else none else some (-1)
def qer(fu:Nat):Nat->q4c|0=>fun _ _ _=>none|n+1=>qsj fu (qer fu n)
def qk0(c:Bs)(b:Bs)(a:Int):Option Int:=qer fu fu c b a
abbrev z4i:=Bs->Int->Int->Int->Int->Option Int
abbrev z4h:=Bs->Int->Int->Int->Int->Bool->Option Int
abbrev qke:=Bs->Int->Int->Int->Int->Option Int
def qth(fu:Nat)(f:qke):z4i:=fun b g e d a=>(am b a).bind fun c=>f b g e (af ((af (10*d))+((c-48).toNat:Int))) (af (a+1))
def qfn(d:qke):z4h:=fun g e c b f a=>bif a then some (-1) else qth fu d g e c b f
def qtg(f:qke):qke:=fun b e d c a=>bif decide (a<(b.length:Int)) then(am b a).bind fun g=>(fw (g.toNat:Int) 48 57).bind fun h=>bif !h then qfn fu f b e d c a true else qfn fu f b e d c a (decide (9<=a)) else(fw (b.length:Int) e d).bind fun i=>bif !i then some (-1) else some c
def qfm(fu:Nat):Nat->qke|0=>fun _ _ _ _ _=>none|n+1=>qtg fu (qfm fu n)
def qfl(c:Bs)(b:Int)(a:Int):Option Int:=qfm fu fu c b a 0 0
abbrev zh7:=Int->Option (Bs)
def qlk(b:zh7)(fu:Nat)(a:Int):Option (Bs):=bif decide (a<10) then bif decide (0<=a/\a<=IntKind.u64.wrap (a+1)/\IntKind.u64.wrap (a+1)<=(List.length ([48,49,50,51,52,53,54,55,56,57]:Bs):Int)) then some (List.take ((IntKind.u64.wrap (a+1)).toNat-a.toNat) (List.drop a.toNat ([48,49,50,51,52,53,54,55,56,57]:Bs))) else none else(b (IntKind.u64.wrap (Int.tdiv a 10))).bind fun c=>bif decide (0<=Int.tmod a 10/\Int.tmod a 10<=IntKind.u64.wrap ((Int.tmod a 10)+1)/\IntKind.u64.wrap ((Int.tmod a 10)+1)<=(List.length ([48,49,50,51,52,53,54,55,56,57]:Bs):Int)) then bif decide (c.length+List.length (List.take ((IntKind.u64.wrap ((Int.tmod a 10)+1)).toNat-(Int.tmod a 10).toNat) (List.drop (Int.tmod a 10).toNat ([48,49,50,51,52,53,54,55,56,57]:Bs)))<=ap) then some (c++(List.take ((IntKind.u64.wrap ((Int.tmod a 10)+1)).toNat-(Int.tmod a 10).toNat) (List.drop (Int.tmod a 10).toNat ([48,49,50,51,52,53,54,55,56,57]:Bs)))) else none else none
def qfk(fu:Nat):Nat->zh7|0=>fun _=>none|n+1=>qlk (qfk fu n) fu
def qtf(a:Int):Option (Bs):=qfk fu fu a
def ol(a:Int):Option (Bs):=bif decide (a<0) then(qtf fu (IntKind.u64.wrap ((IntKind.u64.wrap (af (0-(af (a+1)))))+1))).bind fun b=>bif decide (List.length ([45]:Bs)+b.length<=ap) then some (([45]:Bs)++b) else none else(qtf fu (IntKind.u64.wrap (a))).bind fun c=>some c
abbrev qxz:=(Bs×Bs×Int×Bool)×Bool
abbrev z4t:=Bs->(Bs×Bs×Int×Bool)->(Bs×Bs×Int×Bool)->Option qxz
abbrev z4s:=Bs->Bool->(Bs×Bs×Int×Bool)->(Bs×Bs×Int×Bool)->Option qxz
def qa3:z4t:=fun c e a=>(qfl fu c 1 9).bind fun b=>bif !(a.1==([]:Bs)) then bif decide (0<=b) then(ol fu b).bind fun d=>some ((a.1,(a.2.1,(b,a.2.2.2))),d==c) else some ((a.1,(a.2.1,(b,a.2.2.2))),false) else some ((a.1,(a.2.1,(b,a.2.2.2))),false)
def qfo:z4s:=fun b d c a=>bif d then bif decide (0<=af ((b.length:Int)-1)/\af ((b.length:Int)-1)<=(b.length:Int)) then qa3 fu (List.take (af ((b.length:Int)-1)).toNat b) c (a.1,(a.2.1,(a.2.2.1,true))) else none else qa3 fu b c a
def qll(a:Bs)(c:Bs):Option qxz:=(qk0 fu a ([42]:Bs) 0).bind fun b=>bif decide (b<0) then some ((a,(c,((-1),false))),!(a==([]:Bs))) else bif decide (0<=af (b+1)/\af (b+1)<=(a.length:Int)) then bif decide (0<=b/\b<=(a.length:Int)) then bif decide (0<(List.length (List.drop (af (b+1)).toNat a):Int)) then(am (List.drop (af (b+1)).toNat a) (af ((List.length (List.drop (af (b+1)).toNat a):Int)-1))).bind fun d=>qfo fu (List.drop (af (b+1)).toNat a) (d==42) (([]:Bs),(([]:Bs),(0,false))) (List.take b.toNat a,(c,((-1),false))) else qfo fu (List.drop (af (b+1)).toNat a) false (([]:Bs),(([]:Bs),(0,false))) (List.take b.toNat a,(c,((-1),false))) else none else none
abbrev q4f:=Bs->Int->Int->Int->Int->Int->Option (Int×Int)
abbrev z41:=Bs->Int->Int->Int->Int->Option (Int×Int)
abbrev z40:=Bs->Int->Int->Int->Int->Bool->Option (Int×Int)
abbrev z4z:=Bs->Int->Int->Int->Int->Option (Int×Int)
def qlh(fu:Nat)(h:q4f):q4f:=fun f e c b g a=>bif decide (a<c) then(am f (af (e+a))).bind fun d=>(fw (d.toNat:Int) 128 191).bind fun i=>bif !i then some ((-1),1) else h f e c (af ((af ((af (64*b))+(d.toNat:Int)))-128)) g (af (a+1)) else bif decide (b<g) then some ((-1),1) else bif decide (1114111<b) then some ((-1),1) else(fw b 55296 57343).bind fun j=>bif j then some ((-1),1) else some (b,c)
def sy(fu:Nat):Nat->q4f|0=>fun _ _ _ _ _ _=>none|n+1=>qlh fu (sy fu n)
def q54:z41:=fun d b a c e=>sy fu fu d b a c e 1
def qfd:z40:=fun e c b d f a=>bif a then some ((-1),1) else q54 fu e c b d f
def sx:z4z:=fun c b a d e=>bif a==0 then qfd fu c b a d e true else qfd fu c b a d e (decide ((c.length:Int)<(af (b+a))))
def qfc(c:Bs)(b:Int):Option (Int×Int):=(am c b).bind fun a=>bif decide ((a.toNat:Int)<128) then some ((a.toNat:Int),1) else(fw (a.toNat:Int) 192 223).bind fun e=>bif e then sx fu c b 2 (af ((a.toNat:Int)-192)) 128 else(fw (a.toNat:Int) 224 239).bind fun f=>bif f then sx fu c b 3 (af ((a.toNat:Int)-224)) 2048 else(fw (a.toNat:Int) 240 247).bind fun d=>bif d then sx fu c b 4 (af ((a.toNat:Int)-240)) 65536 else sx fu c b 0 0 0
abbrev z49:=Int->Option (Bs)
abbrev z48:=Int->Bool->Option (Bs)
def qtc:z49:=fun a=>bif decide (a<128) then some ([gl a]:Bs) else bif decide (a<2048) then some ([gl (af (192+(af (Int.tdiv a 64)))),gl (af (128+(Int.tmod a 64)))]:Bs) else bif decide (a<65536) then some ([gl (af (224+(af (Int.tdiv a 4096)))),gl (af (128+(Int.tmod (af (Int.tdiv a 64)) 64))),gl (af (128+(Int.tmod a 64)))]:Bs) else some ([gl (af (240+(af (Int.tdiv a 262144)))),gl (af (128+(Int.tmod (af (Int.tdiv a 4096)) 64))),gl (af (128+(Int.tmod (af (Int.tdiv a 64)) 64))),gl (af (128+(Int.tmod a 64)))]:Bs)
def qtb:z48:=fun a b=>bif b then qtc 65533 else qtc a
def qta(a:Int):Option (Bs):=(fw a 0 1114111).bind fun c=>bif !c then qtb a true else(fw a 55296 57343).bind fun b=>qtb a b
abbrev q4h:=Bs->Bs->Bool->Int->Option (Bs)
def qti(e:q4h):q4h:=fun c d g a=>bif decide (a<(c.length:Int)) then(qfc fu c a).bind fun b=>bif decide (0<=b.1) then bif decide (0<=a/\a<=af (a+b.2)/\af (a+b.2)<=(c.length:Int)) then bif decide (d.length+List.length (List.take ((af (a+b.2)).toNat-a.toNat) (List.drop a.toNat c))<=ap) then e c (d++(List.take ((af (a+b.2)).toNat-a.toNat) (List.drop a.toNat c))) (decide (b.1<0)) (af (a+b.2)) else none else none else bif !g then(qta (-1)).bind fun f=>bif decide (d.length+f.length<=ap) then e c (d++f) (decide (b.1<0)) (af (a+b.2)) else none else e c d (decide (b.1<0)) (af (a+b.2)) else some d
def qfp(fu:Nat):Nat->q4h|0=>fun _ _ _ _=>none|n+1=>qti fu (qfp fu n)
def qlm(a:Bs):Option (Bs):=qfp fu fu a ([]:Bs) false 0
abbrev q4i:=UInt8->Int->Option Int
def qk8(f:q4i):q4i:=fun b a=>bif decide (a<16) then(am ([48,49,50,51,52,53,54,55,56,57,65,66,67,68,69,70]:Bs) a).bind fun d=>bif d==b then some a else(ul fu ([48,49,50,51,52,53,54,55,56,57,65,66,67,68,69,70]:Bs)).bind fun e=>(am e a).bind fun c=>bif c==b then some a else f b (af (a+1)) else some (-1)
def qap(fu:Nat):Nat->q4i|0=>fun _ _=>none|n+1=>qk8 fu (qap fu n)
def w9(a:UInt8):Option Int:=qap fu fu a 0
abbrev z5t:=Bs->Bs->Int->Bool->Option (Bs)
abbrev qrl:=Bs->Bs->Int->Option (Bs)
def up(f:qrl):z5t:=fun b c a d=>bif d then(am b (af (a+1))).bind fun i=>(w9 fu i).bind fun e=>(am b (af (a+2))).bind fun h=>(w9 fu h).bind fun g=>bif decide (c.length+List.length ([gl (af ((af (16*e))+g))]:Bs)<=ap) then f b (c++([gl (af ((af (16*e))+g))]:Bs)) (af ((af (a+2))+1)) else none else bif decide (0<=a/\a<=af (a+1)/\af (a+1)<=(b.length:Int)) then bif decide (c.length+List.length (List.take ((af (a+1)).toNat-a.toNat) (List.drop a.toNat b))<=ap) then f b (c++(List.take ((af (a+1)).toNat-a.toNat) (List.drop a.toNat b))) (af (a+1)) else none else none
def qtl(d:qrl):qrl:=fun b c a=>bif decide (a<(b.length:Int)) then(am b a).bind fun e=>bif e==37 then bif decide ((af (a+2))<(b.length:Int)) then(am b (af (a+1))).bind fun i=>(w9 fu i).bind fun g=>bif decide (0<=g) then(am b (af (a+2))).bind fun f=>(w9 fu f).bind fun h=>up fu d b c a (decide (0<=h)) else up fu d b c a false else up fu d b c a false else up fu d b c a false else some c
def qa5(fu:Nat):Nat->qrl|0=>fun _ _ _=>none|n+1=>qtl fu (qa5 fu n)
def qln(a:Bs):Option (Bs):=qa5 fu fu a ([]:Bs) 0
abbrev ek:=(Bs×Bs×wV)×Bool
abbrev z6v:=Bs->Int->Bs->Bs->Bs->Bs->Bs->Bs->(List (Bs×Bs×Int×Bool))->Option ek
abbrev z6t:=Bs->Int->Bs->Bs->Bool->Bs->Bs->Bs->Bs->(List (Bs×Bs×Int×Bool))->Option ek
abbrev z6s:=Bs->Int->Bs->Bs->Bs->Bs->Bs->Bs->(List (Bs×Bs×Int×Bool))->Option ek
abbrev z6p:=Bs->Int->Bs->Bs->Bs->Bs->Bs->Bs->(List (Bs×Bs×Int×Bool))->Option ek
abbrev z6q:=Bs->Int->Bs->Bs->Bool->Bs->Bs->Bs->Bs->(List (Bs×Bs×Int×Bool))->Option ek
abbrev qah:=Bs->Int->Bs->Bs->Bs->Bs->Bs->Bs->(List (Bs×Bs×Int×Bool))->Option ek
abbrev z64:=Bs->Int->Bs->Bs->Bool->Bs->Bs->Bs->Bs->(List (Bs×Bs×Int×Bool))->Option ek
abbrev z63:=Bs->Int->Bs->Bs->Bs->Bs->Bs->(List (Bs×Bs×Int×Bool))->Option ek
abbrev z62:=Bs->Int->Bs->Bool->Bs->Bs->Bs->Bs->(List (Bs×Bs×Int×Bool))->Option ek
abbrev z6u:=Int->Bool->Int->Bs->Bs->Bs->Bs->(List (Bs×Bs×Int×Bool))->wV->Option ek
abbrev z6r:=Int->Bool->Int->Int->Bs->Bs->Bs->Bs->(List (Bs×Bs×Int×Bool))->wV->Option ek
abbrev z6x:=Int->Int->Bs->Int->Int->Int->Bs->Bs->Bs->Bs->(List (Bs×Bs×Int×Bool))->wV->Option ek
abbrev z6w:=Int->Int->Bs->Int->Int->Int->Bool->Bs->Bs->Bs->Bs->(List (Bs×Bs×Int×Bool))->wV->Option ek
abbrev z61:=Int->Int->Bs->Int->Bs->Bs->Bs->Bs->(List (Bs×Bs×Int×Bool))->wV->Option ek
abbrev z6z:=Int->Int->Bs->Int->Bs->Bs->Bs->Bs->Bs->(List (Bs×Bs×Int×Bool))->wV->Option ek
abbrev z60:=Int->Int->Bs->Int->Bs->Bs->Bs->Bs->Bs->(List (Bs×Bs×Int×Bool))->wV->Option ek
abbrev z6y:=Int->Int->Bs->Int->Bs->Bool->Bs->Bs->Bs->Bs->(List (Bs×Bs×Int×Bool))->wV->Option ek
abbrev qkh:=Int->Int->Bs->Int->Int->Int->Bs->Bs->Bs->Bs->(List (Bs×Bs×Int×Bool))->wV->Option ek
abbrev l9:=Int->Int->Bs->Int->Bs->Bs->Bs->Bs->(List (Bs×Bs×Int×Bool))->wV->Option ek
abbrev qrn:=Int->Bool->Int->Int->Bs->Bs->Bs->Bs->(List (Bs×Bs×Int×Bool))->wV->Option ek
abbrev qrm:=Int->Bool->Int->Bs->Bs->Bs->Bs->(List (Bs×Bs×Int×Bool))->wV->Option ek
abbrev ie:=Int->Bs->Bs->Bs->Bs->(List (Bs×Bs×Int×Bool))->wV->Option ek
abbrev kj:=Bs->Int->Bs->Bs->Bs->Bs->(List (Bs×Bs×Int×Bool))->Option ek
abbrev z6o:=Bs->Int->Bs->Bs->Bs->Bs->Option ek
abbrev z6n:=Bs->Int->Bool->Bs->Bs->Bs->Bs->Option ek
def qez(fu:Nat)(k:kj)(j:qah):z6v:=fun f a i h d e c b g=>bif decide (0<=a/\a<=af (a+1)/\af (a+1)<=(f.length:Int)) then bif decide (h.length+List.length (List.take ((af (a+1)).toNat-a.toNat) (List.drop a.toNat f))<=ap) then j f (af (a+1)) i (h++(List.take ((af (a+1)).toNat-a.toNat) (List.drop a.toNat f))) d e c b g else none else none
def qau(h:kj)(l:qah):z6t:=fun j g i k e c d b a f=>bif e then qez fu h l j (af (g+1)) i k c d b a f else qez fu h l j g i k c d b a f
def qsw(h:kj)(k:qah):z6s:=fun g f i j c d b a e=>(am g f).bind fun l=>bif l==92 then qau fu h k g f i j (decide ((af (f+1))<(g.length:Int))) c d b a e else qau fu h k g f i j false c d b a e
def xg(j:kj):z6p:=fun g h k l c d b a e=>(qll fu k l).bind fun f=>bif !f.2 then some ((([]:Bs),(([]:Bs),[])),false) else bif decide (List.length (e++([f.1]:List (Bs×Bs×Int×Bool)))<=a7) then(qd fu g h).bind fun i=>j g i c d b a (e++([f.1]:List (Bs×Bs×Int×Bool))) else none
def qat(i:kj)(l:qah):z6q:=fun h g j k e c d b a f=>bif e then qsw fu i l h g j k c d b a f else bif g==(h.length:Int) then some ((([]:Bs),(([]:Bs),[])),false) else xg fu i h (af (g+1)) j k c d b a f
def qlb(h:kj)(k:qah):qah:=fun g f i j c d b a e=>bif decide (f<(g.length:Int)) then(am g f).bind fun l=>qat fu h k g f i j (l != 34) c d b a e else qat fu h k g f i j false c d b a e
def um(fu:Nat)(a:kj):Nat->qah|0=>fun _ _ _ _ _ _ _ _ _=>none|n+1=>qlb fu a (um fu a n)
def qe4(j:kj):z64:=fun g e k l f c d b a h=>bif f then um fu j fu g (af (e+1)) k l c d b a h else(qa4 fu g e ([37,39,42]:Bs)).bind fun i=>bif decide (0<=e/\e<=i/\i<=(g.length:Int)) then xg fu j g i k (List.take (i.toNat-e.toNat) (List.drop e.toNat g)) c d b a h else none
def qsy(h:kj):z63:=fun e j i c d b a f=>(qd fu e (af (j+1))).bind fun g=>bif decide (g<(e.length:Int)) then(am e g).bind fun k=>qe4 fu h e g i ([]:Bs) (k==34) c d b a f else qe4 fu h e g i ([]:Bs) false c d b a f
def qe2(h:kj):z62:=fun j g i e c d b a f=>bif e then some ((([]:Bs),(([]:Bs),[])),false) else qsy fu h j g i c d b a f
def qey(fu:Nat)(k:ie)(j:qrm):z6u:=fun e h g c d b a i f=>j e h (af (g+1)) c d b a i f
def qex(fu:Nat)(l:ie)(k:qrn):z6r:=fun e i f h c d b a j g=>k e i f (af (h+1)) c d b a j g
def qaw(fu:Nat)(p:ie)(o:l9)(h:qkh):z6x:=fun f i e l k g c d b a m j=>h f i e l k (af (g+1)) c d b a m j
def qe0(q:ie)(i:l9)(h:qkh):z6w:=fun g j f l p e o c d b a m k=>bif o then qaw fu q i h g j f l e e c d b a m k else qaw fu q i h g j f l p e c d b a m k
def qsx(fu:Nat)(l:ie)(g:l9):z61:=fun f h e j c d b a k i=>g f h e (af (j+1)) c d b a k i
def qax(m:ie)(h:l9):z6z:=fun g i e k f c d b a l j=>bif decide (e.length+f.length<=ap) then qsx fu m h g i (e++f) k c d b a l j else none
def qe1(m:ie)(g:l9):z60:=fun f h e k j c d b a l i=>(qln fu j).bind fun o=>qax fu m g f h e k o c d b a l i
def qa(o:ie)(h:l9):z6y:=fun g i f k e l c d b a m j=>bif l then bif decide (0<=(6:Int)/\6<=(e.length:Int)) then qe1 fu o h g i f k (List.drop (6:Int).toNat e) c d b a m j else none else qe1 fu o h g i f k e c d b a m j
def xe(p:ie)(l:l9)(q:qkh):qkh:=fun h k j i g f c e b d a m=>bif decide (f<(a.length:Int)) then bif decide (0<=h/\h.toNat<a.length) then(a[h.toNat]?).bind fun u=>bif decide (0<=f/\f.toNat<a.length) then(a[f.toNat]?).bind fun t=>(ji fu u.1 t.1).bind fun v=>bif v then bif decide (0<=f/\f.toNat<a.length) then(a[f.toNat]?).bind fun r=>qe0 fu p l q h k j i g f (r.2.2.1==i) c e b d a m else none else qe0 fu p l q h k j i g f false c e b d a m else none else none else bif decide (g<0) then some ((([]:Bs),(([]:Bs),[])),false) else bif decide (0<=g/\g.toNat<a.length) then(a[g.toNat]?).bind fun o=>bif decide (0<=g/\g.toNat<a.length) then(a[g.toNat]?).bind fun w=>bif w.2.2.2 then bif i==0 then bif decide (6<=(o.2.1.length:Int)) then bif decide (0<=(6:Int)/\6<=(o.2.1.length:Int)) then(ul fu (List.take (6:Int).toNat o.2.1)).bind fun s=>qa fu p l h k j i o.2.1 (s==([117,116,102,56,39,39]:Bs)) c e b d a m else none else qa fu p l h k j i o.2.1 false c e b d a m else qa fu p l h k j i o.2.1 false c e b d a m else qax fu p l h k j i o.2.1 c e b d a m else none else none
def ku(fu:Nat)(b:ie)(a:l9):Nat->qkh|0=>fun _ _ _ _ _ _ _ _ _ _ _ _=>none|n+1=>xe fu b a (ku fu b a n)
def xd(l:ie)(k:l9):l9:=fun a i h j d e c b f g=>bif decide (j<i) then ku fu l k fu a i h j (-1) 0 d e c b f g else bif decide (0<=a/\a.toNat<f.length) then(f[a.toNat]?).bind fun o=>(qlm fu h).bind fun m=>bif decide (List.length (g++([(o.1,m)]:List (Bs×Bs)))<=a7) then l (af (a+1)) d e c b f (g++([(o.1,m)]:List (Bs×Bs))) else none else none
def mc(fu:Nat)(a:ie):Nat->l9|0=>fun _ _ _ _ _ _ _ _ _ _=>none|n+1=>xd fu a (mc fu a n)
def qas(k:ie)(l:qrn):qrn:=fun a j i g d f c e b h=>bif decide (g<(b.length:Int)) then bif decide (0<=a/\a.toNat<b.length) then(b[a.toNat]?).bind fun r=>bif decide (0<=g/\g.toNat<b.length) then(b[g.toNat]?).bind fun q=>(ji fu r.1 q.1).bind fun s=>bif s then qex fu k l a j (af (i+1)) g d f c e b h else qex fu k l a j i g d f c e b h else none else none else bif j then k (af (a+1)) d f c e b h else bif decide (0<=a/\a.toNat<b.length) then(b[a.toNat]?).bind fun p=>bif decide (p.2.2.1<0) then bif i != 1 then some ((([]:Bs),(([]:Bs),[])),false) else bif decide (0<=a/\a.toNat<b.length) then(b[a.toNat]?).bind fun m=>bif decide (0<=a/\a.toNat<b.length) then(b[a.toNat]?).bind fun o=>bif decide (List.length (h++([(m.1,o.2.1)]:List (Bs×Bs)))<=a7) then k (af (a+1)) d f c e b (h++([(m.1,o.2.1)]:List (Bs×Bs))) else none else none else none else mc fu k fu a i ([]:Bs) 0 d f c e b h else none
def qb(fu:Nat)(a:ie):Nat->qrn|0=>fun _ _ _ _ _ _ _ _ _ _=>none|n+1=>qas fu a (qb fu a n)
def qsu(j:ie)(k:qrm):qrm:=fun a i g d e c b f h=>bif decide (g<a) then bif i then qey fu j k a true g d e c b f h else bif decide (0<=a/\a.toNat<f.length) then(f[a.toNat]?).bind fun m=>bif decide (0<=g/\g.toNat<f.length) then(f[g.toNat]?).bind fun l=>(ji fu m.1 l.1).bind fun o=>qey fu j k a o g d e c b f h else none else none else qb fu j fu a i 0 0 d e c b f h
def qe3(fu:Nat)(a:ie):Nat->qrm|0=>fun _ _ _ _ _ _ _ _ _=>none|n+1=>qsu fu a (qe3 fu a n)
def qst(h:ie):ie:=fun e c d b a g f=>bif decide (e<(g.length:Int)) then qe3 fu h fu e false 0 c d b a g f else some ((b,(a,f)),true)
def ne(fu:Nat):Nat->ie|0=>fun _ _ _ _ _ _ _=>none|n+1=>qst fu (ne fu n)
def qss(k:kj):kj:=fun e j c d b a g=>bif decide (j<(e.length:Int)) then(am e j).bind fun l=>bif l != 59 then some ((([]:Bs),(([]:Bs),[])),false) else(qd fu e (af (j+1))).bind fun f=>(qa4 fu e f ([42]:Bs)).bind fun h=>bif decide (0<=f/\f<=h/\h<=(e.length:Int)) then(qd fu e h).bind fun i=>bif i==(e.length:Int) then qe2 fu k e i (List.take (h.toNat-f.toNat) (List.drop f.toNat e)) true c d b a g else(am e i).bind fun m=>qe2 fu k e i (List.take (h.toNat-f.toNat) (List.drop f.toNat e)) (m != 61) c d b a g else none else ne fu fu 0 c d b a g []
def qav(fu:Nat):Nat->kj|0=>fun _ _ _ _ _ _ _=>none|n+1=>qss fu (qav fu n)
def qsv:z6o:=fun c h d e a g=>(qd fu c (af (h+1))).bind fun b=>(qa4 fu c b ([]:Bs)).bind fun f=>bif decide (0<=b/\b<=f/\f<=(c.length:Int)) then bif(List.take (f.toNat-b.toNat) (List.drop b.toNat c))==([]:Bs) then some ((([]:Bs),(([]:Bs),[])),false) else(qd fu c f).bind fun i=>qav fu fu c i d e a (List.take (f.toNat-b.toNat) (List.drop b.toNat c)) [] else none
def xf:z6n:=fun g f e c d b a=>bif e then some ((([]:Bs),(([]:Bs),[])),false) else qsv fu g f c d b a
def qew(a:Bs):Option ek:=(qd fu a 0).bind fun b=>(qa4 fu a b ([]:Bs)).bind fun c=>bif decide (0<=b/\b<=c/\c<=(a.length:Int)) then(qd fu a c).bind fun d=>bif(List.take (c.toNat-b.toNat) (List.drop b.toNat a))==([]:Bs) then xf fu a d true ([]:Bs) ([]:Bs) (List.take (c.toNat-b.toNat) (List.drop b.toNat a)) ([]:Bs) else bif d==(a.length:Int) then xf fu a d true ([]:Bs) ([]:Bs) (List.take (c.toNat-b.toNat) (List.drop b.toNat a)) ([]:Bs) else(am a d).bind fun e=>xf fu a d (e != 47) ([]:Bs) ([]:Bs) (List.take (c.toNat-b.toNat) (List.drop b.toNat a)) ([]:Bs) else none
abbrev q4l:=Bs->Int->Option Bool
def qs5(e:q4l):q4l:=fun a b=>bif decide (b<(a.length:Int)) then(am a b).bind fun c=>(qa1 fu c).bind fun d=>bif !d then some false else e a (af (b+1)) else(fw (a.length:Int) 1 60).bind fun f=>some f
def qfe(fu:Nat):Nat->q4l|0=>fun _ _=>none|n+1=>qs5 fu (qfe fu n)
def xj(a:Bs):Option Bool:=qfe fu fu a 0
abbrev q4m:=Bs->Int->Option Bool
def qtd(d:q4m):q4m:=fun b a=>bif decide (a<(b.length:Int)) then(qfc fu b a).bind fun c=>bif decide (c.1<0) then some false else d b (af (a+c.2)) else some true
def qfj(fu:Nat):Nat->q4m|0=>fun _ _=>none|n+1=>qtd fu (qfj fu n)
def qfi(a:Bs):Option Bool:=qfj fu fu a 0
abbrev q4n:=Int->Int->(Bs×Bs×wV)->(Int×Int)->(Bs×Bs)->Option ((Int×Int))
abbrev z7m:=Int->(Bs×Bs×wV)->(Int×Int)->(Bs×Bs)->Option ((Int×Int))
abbrev z7l:=Int->Bool->(Bs×Bs×wV)->(Int×Int)->(Bs×Bs)->Option ((Int×Int))
abbrev wy:=Int->(Bs×Bs×wV)->(Int×Int)->Option ((Int×Int))
abbrev z7k:=(Bs×Bs×wV)->(Int×Int)->Option ((Int×Int))
abbrev z7j:=Bool->(Bs×Bs×wV)->(Int×Int)->Option ((Int×Int))
def qsp(m:wy)(g:q4n):q4n:=fun c e b d a=>bif decide (e<c) then(am b.2.2 e).bind fun i=>(ji fu i.1 a.1).bind fun f=>bif f then(ft 7 c).bind fun j=>some j else g c (af (e+1)) b d a else bif decide (500<(a.2.length:Int)) then(ft 1 c).bind fun k=>some k else(qfi fu a.2).bind fun h=>bif !h then(ft 5 c).bind fun l=>some l else m (af (c+1)) b d
def qev(fu:Nat)(a:wy):Nat->q4n|0=>fun _ _ _ _ _=>none|n+1=>qsp fu a (qev fu a n)
def qsr(e:wy):z7m:=fun d b a c=>qev fu e fu d 0 b a c
def xc(f:wy):z7l:=fun e c b a d=>bif c then(ft 10 e).bind fun g=>some g else qsr fu f e b a d
def qso(e:wy):wy:=fun c a b=>bif decide (c<(a.2.2.length:Int)) then(am a.2.2 c).bind fun d=>(xj fu d.1).bind fun f=>bif !f then xc fu e c true a b d else xc fu e c (decide (20<(d.1.length:Int))) a b d else some (0,0)
def xa(fu:Nat):Nat->wy|0=>fun _ _ _=>none|n+1=>qso fu (xa fu n)
def qsq:z7k:=fun a b=>bif decide (60<(a.2.2.length:Int)) then(ft 2 (-3)).bind fun c=>some c else xa fu fu 0 a b
def qar:z7j:=fun b c a=>bif b then(ft 10 (-2)).bind fun d=>some d else qsq fu c a
def qla(a:Bs×Bs×wV):Option ((Int×Int)):=(xj fu a.1).bind fun c=>bif !c then qar fu true a (0,0) else(xj fu a.2.1).bind fun b=>qar fu (!b) a (0,0)
abbrev qx0:=(Bs×Bs×wV)×Bool
abbrev z7r:=Bs->Bs->(List Bs)->Option qx0
abbrev z7q:=Bool->Bs->Bs->(List Bs)->Option qx0
def qt7:z7r:=fun c d a=>bif decide (0<=(0:Int)/\(0:Int).toNat<a.length) then(a[(0:Int).toNat]?).bind fun e=>(qew fu e).bind fun b=>bif !b.2 then some ((([]:Bs),(([]:Bs),[])),false) else(qla fu b.1).bind fun f=>bif f.1 != 0 then some ((([]:Bs),(([]:Bs),[])),false) else some (b.1,true) else none
def qly:z7q:=fun c a b d=>bif c then some ((([]:Bs),(([]:Bs),[])),false) else qt7 fu a b d
def qbc(c:List (Bs×Bs)):Option qx0:=(qlj fu c ([99,111,110,116,101,110,116,45,116,121,112,101]:Bs)).bind fun a=>bif(a.length:Int) != 1 then qly fu true ([]:Bs) ([]:Bs) a else bif decide (0<=(0:Int)/\(0:Int).toNat<a.length) then(a[(0:Int).toNat]?).bind fun b=>qly fu (decide (4000<(b.length:Int))) ([]:Bs) ([]:Bs) a else none
abbrev q4q:=Bs->Int->(Bs×Bs×wV)->Option (Bs×Bool)
def qs0(f:q4q):q4q:=fun c b a=>bif decide (b<(a.2.2.length:Int)) then(am a.2.2 b).bind fun g=>(ji fu g.1 c).bind fun e=>bif e then(am a.2.2 b).bind fun d=>some (d.2,true) else f c (af (b+1)) a else some (([]:Bs),false)
def qe7(fu:Nat):Nat->q4q|0=>fun _ _ _=>none|n+1=>qs0 fu (qe7 fu n)
def qld(b:Bs×Bs×wV)(a:Bs):Option (Bs×Bool):=qe7 fu fu a 0 b
def qal(a:Bs)(b:Int):Option Bool:=bif decide ((af (b+1))<(a.length:Int)) then(am a b).bind fun d=>bif d==13 then(am a (af (b+1))).bind fun c=>some (c==10) else some false else some false
abbrev z7z:=Bs->Int->Int->Bool->(Int×Int)->Option ((Int×Int))
abbrev qrp:=Bs->Int->Int->(Int×Int)->Option ((Int×Int))
def qlq(fu:Nat)(f:qrp):z7z:=fun h d c b a=>bif b then(ft 11 (-5)).bind fun g=>some g else bif decide (998<=(af (c-d))) then(ft 1 (-6)).bind fun e=>some e else f h d (af (c+1)) a
def qto(d:qrp):qrp:=fun c e a b=>bif decide (a<(c.length:Int)) then(qal c a).bind fun h=>bif h then d c (af ((af (a+1))+1)) (af ((af (a+1))+1)) b else(am c a).bind fun g=>bif g==13 then qlq fu d c e a true b else(am c a).bind fun f=>qlq fu d c e a (f==10) b else some (0,0)
def qfu(fu:Nat):Nat->qrp|0=>fun _ _ _ _=>none|n+1=>qto fu (qfu fu n)
def qlp(a:Bs):Option ((Int×Int)):=qfu fu fu a 0 0 (0,0)
abbrev q4r:=Bs->Bool->Int->Option (Bs×Bool)
abbrev z8b:=(Bs×Bs×wV)->Option (Bs×Bool)
abbrev z8a:=Bool->(Bs×Bs×wV)->Option (Bs×Bool)
def qtm(fu:Nat)(h:q4r):q4r:=fun a c b=>bif decide (b<(a.length:Int)) then(am a b).bind fun d=>(fw (d.toNat:Int) 32 126).bind fun e=>bif !e then some (([]:Bs),false) else h a c (af (b+1)) else bif c then(fw (a.length:Int) 1 60).bind fun g=>bif g then(am a (af ((a.length:Int)-1))).bind fun f=>some (a,f != 32) else some (a,false) else some (a,false)
def qft(fu:Nat):Nat->q4r|0=>fun _ _ _=>none|n+1=>qtm fu (qft fu n)
def qtn:z8b:=fun a=>(qld fu a ([98,111,117,110,100,97,114,121]:Bs)).bind fun b=>qft fu fu b.1 b.2 0
def qfs:z8a:=fun b a=>bif b then some (([]:Bs),false) else qtn fu a
def qlo(c:List (Bs×Bs)):Option (Bs×Bool):=(qbc fu c).bind fun a=>bif !a.2 then qfs fu true a.1 else(ji fu a.1.1 ([109,117,108,116,105,112,97,114,116]:Bs)).bind fun b=>qfs fu (!b) a.1
abbrev z8l:=Bs->Bs->Int->Option Int
abbrev z8k:=Bs->Bs->Int->Bool->Option Int
abbrev qki:=Bs->Bs->Int->Option Int
def qt0(fu:Nat)(a:qki):z8l:=fun d c b=>a d c (af (b-1))
def qbb(e:qki):z8k:=fun c b a d=>bif d then qt0 fu e c b a else bif decide (0<=a/\a<=(c.length:Int)) then bif decide (List.length ([45,45]:Bs)+b.length<=ap) then bif(List.take a.toNat c)==(([45,45]:Bs)++b) then some 1 else bif decide (0<=a/\a<=(c.length:Int)) then bif decide (List.length ([45,45]:Bs)+b.length<=ap) then bif decide (List.length (([45,45]:Bs)++b)+List.length ([45,45]:Bs)<=ap) then bif(List.take a.toNat c)==((([45,45]:Bs)++b)++([45,45]:Bs)) then some 2 else some 0 else none else none else none else none else none
def qtz(c:qki):qki:=fun b d a=>bif decide (0<a) then(am b (af (a-1))).bind fun e=>(sv e).bind fun f=>qbb fu c b d a f else qbb fu c b d a false
def qba(fu:Nat):Nat->qki|0=>fun _ _ _=>none|n+1=>qtz fu (qba fu n)
def qty(a:Bs)(b:Bs):Option Int:=qba fu fu a b (a.length:Int)
abbrev z8v:=Bs->Bs->Int->Int->Int->(List Bs)->Option ((List Bs))
abbrev z8y:=Bs->Bs->Int->Int->Int->(List Bs)->Option ((List Bs))
abbrev z8x:=Bs->Bs->Int->Int->(List Bs)->Option ((List Bs))
abbrev z8z:=Bs->Bs->Int->Int->Int->Int->(List Bs)->Option ((List Bs))
abbrev z8w:=Bs->Bs->Int->Int->Int->Int->(List Bs)->Option ((List Bs))
abbrev z8u:=Bs->Bs->Int->Int->Int->Bool->(List Bs)->Option ((List Bs))
abbrev qkj:=Bs->Bs->Int->Int->Int->(List Bs)->Option ((List Bs))
abbrev og:=Bs->Bs->Int->Int->(List Bs)->Option ((List Bs))
def qts(fu:Nat)(h:og)(g:qkj):z8v:=fun f d c b e a=>g f d c b (af (e+1)) a
def qa6(fu:Nat)(c:og):z8y:=fun f e d g b a=>bif b==2 then some a else c f e d g a
def xm(d:og):z8x:=fun f e c b a=>qa6 fu d f e c c b a
def xn(f:og):z8z:=fun d g b h e a c=>bif decide (0<=b/\b<=a/\a<=(d.length:Int)) then bif decide (List.length (c++([List.take (a.toNat-b.toNat) (List.drop b.toNat d)]:List Bs))<=a7) then xm fu f d g h e (c++([List.take (a.toNat-b.toNat) (List.drop b.toNat d)]:List Bs)) else none else none
def qfx(g:og):z8w:=fun d e c b i h a=>bif decide (0<=b/\b<=i/\i<=(d.length:Int)) then(qty fu (List.take (i.toNat-b.toNat) (List.drop b.toNat d)) e).bind fun f=>bif decide (0<f) then bif decide (0<=c) then bif decide ((af (b-2))<c) then xn fu g d e c h f c a else xn fu g d e c h f (af (b-2)) a else xm fu g d e h f a else qa6 fu g d e c h f a else none
def qfw(f:og)(i:qkj):z8u:=fun c h g e b d a=>bif d then qts fu f i c h g e b a else bif b==(c.length:Int) then qfx fu f c h g e b b a else qfx fu f c h g e b (af (b+2)) a
def qtr(e:og)(h:qkj):qkj:=fun c g f d b a=>bif decide (b<(c.length:Int)) then(qal c b).bind fun i=>qfw fu e h c g f d b (!i) a else qfw fu e h c g f d b false a
def qfv(fu:Nat)(a:og):Nat->qkj|0=>fun _ _ _ _ _ _=>none|n+1=>qtr fu a (qfv fu a n)
def qtq(e:og):og:=fun c f b d a=>bif decide (d<(c.length:Int)) then qfv fu e fu c f b d d a else bif decide (0<=b) then bif decide (0<=b/\b<=(c.length:Int)) then bif decide (List.length (a++([List.drop b.toNat c]:List Bs))<=a7) then some (a++([List.drop b.toNat c]:List Bs)) else none else none else some a
def uq(fu:Nat):Nat->og|0=>fun _ _ _ _ _=>none|n+1=>qtq fu (uq fu n)
def qtp(b:Bs)(a:Bs):Option ((List Bs)):=uq fu fu b a (-1) 0 []
abbrev z86:=Bs->Bs->Int->Bool->Option (Bs)
abbrev qrs:=Bs->Bs->Int->Option (Bs)
def xi(fu:Nat)(e:qrs):z86:=fun b c a d=>bif d then bif decide (c.length+List.length ([92]:Bs)<=ap) then bif decide (0<=a/\a<=af (a+1)/\af (a+1)<=(b.length:Int)) then bif decide (List.length (c++([92]:Bs))+List.length (List.take ((af (a+1)).toNat-a.toNat) (List.drop a.toNat b))<=ap) then e b ((c++([92]:Bs))++(List.take ((af (a+1)).toNat-a.toNat) (List.drop a.toNat b))) (af (a+1)) else none else none else none else bif decide (0<=a/\a<=af (a+1)/\af (a+1)<=(b.length:Int)) then bif decide (c.length+List.length (List.take ((af (a+1)).toNat-a.toNat) (List.drop a.toNat b))<=ap) then e b (c++(List.take ((af (a+1)).toNat-a.toNat) (List.drop a.toNat b))) (af (a+1)) else none else none
def qs3(d:qrs):qrs:=fun b c a=>bif decide (a<(b.length:Int)) then(am b a).bind fun e=>bif e==34 then xi fu d b c a true else(am b a).bind fun f=>xi fu d b c a (f==92) else bif decide (c.length+List.length ([34]:Bs)<=ap) then some (c++([34]:Bs)) else none
def xh(fu:Nat):Nat->qrs|0=>fun _ _ _=>none|n+1=>qs3 fu (xh fu n)
def qlg(a:Bs):Option (Bs):=xh fu fu a ([34]:Bs) 0
def xl(a:UInt8):Option (Bs):=bif decide (0<=((a/16).toNat:Int)/\((a/16).toNat:Int)<=(((a/16)+1).toNat:Int)/\(((a/16)+1).toNat:Int)<=(List.length ([48,49,50,51,52,53,54,55,56,57,65,66,67,68,69,70]:Bs):Int)) then bif decide (0<=((a%16).toNat:Int)/\((a%16).toNat:Int)<=(((a%16)+1).toNat:Int)/\(((a%16)+1).toNat:Int)<=(List.length ([48,49,50,51,52,53,54,55,56,57,65,66,67,68,69,70]:Bs):Int)) then bif decide (List.length (List.take ((((a/16)+1).toNat:Int).toNat-((a/16).toNat:Int).toNat) (List.drop ((a/16).toNat:Int).toNat ([48,49,50,51,52,53,54,55,56,57,65,66,67,68,69,70]:Bs)))+List.length (List.take ((((a%16)+1).toNat:Int).toNat-((a%16).toNat:Int).toNat) (List.drop ((a%16).toNat:Int).toNat ([48,49,50,51,52,53,54,55,56,57,65,66,67,68,69,70]:Bs)))<=ap) then some ((List.take ((((a/16)+1).toNat:Int).toNat-((a/16).toNat:Int).toNat) (List.drop ((a/16).toNat:Int).toNat ([48,49,50,51,52,53,54,55,56,57,65,66,67,68,69,70]:Bs)))++(List.take ((((a%16)+1).toNat:Int).toNat-((a%16).toNat:Int).toNat) (List.drop ((a%16).toNat:Int).toNat ([48,49,50,51,52,53,54,55,56,57,65,66,67,68,69,70]:Bs)))) else none else none else none
abbrev z9i:=Bool->Int->(Bs×Bs)->Option (Bs)
abbrev z9l:=Bs->Bs->Int->Int->(Bs×Bs)->Option (Bs)
abbrev z9k:=Bs->Bs->Int->Int->Bs->(Bs×Bs)->Option (Bs)
abbrev z9j:=Bs->Bs->Int->Int->Bs->(Bs×Bs)->Option (Bs)
abbrev qef:=Bs->Bs->Int->Int->(Bs×Bs)->Option (Bs)
abbrev qrt:=Bool->Int->(Bs×Bs)->Option (Bs)
def qe9(fu:Nat)(d:qrt):z9i:=fun c b a=>d c (af (b+1)) a
def qlf(fu:Nat)(e:qef):z9l:=fun c d b f a=>e c d b (af (f+1)) a
def qfb(f:qef):z9k:=fun e b d g c a=>bif decide (b.length+c.length<=ap) then qlf fu f e (b++c) d g a else none
def qfa(g:qef):z9j:=fun b c e h f a=>bif decide (60<(af ((c.length:Int)+(f.length:Int)))) then bif decide (b.length+List.length ([59,32]:Bs)<=ap) then bif decide (List.length (b++([59,32]:Bs))+a.1.length<=ap) then bif decide (List.length ((b++([59,32]:Bs))++a.1)+List.length ([42]:Bs)<=ap) then(ol fu e).bind fun d=>bif decide (List.length (((b++([59,32]:Bs))++a.1)++([42]:Bs))+d.length<=ap) then bif decide (List.length ((((b++([59,32]:Bs))++a.1)++([42]:Bs))++d)+List.length ([42,61]:Bs)<=ap) then bif decide (List.length (((((b++([59,32]:Bs))++a.1)++([42]:Bs))++d)++([42,61]:Bs))+c.length<=ap) then qfb fu g ((((((b++([59,32]:Bs))++a.1)++([42]:Bs))++d)++([42,61]:Bs))++c) ([]:Bs) (af (e+1)) h f a else none else none else none else none else none else none else qfb fu g b c e h f a
def qs2(h:qef):qef:=fun c d f b a=>bif decide (b<(a.2.length:Int)) then(am a.2 b).bind fun j=>(xl j).bind fun g=>bif decide (List.length ([37]:Bs)+g.length<=ap) then(am a.2 b).bind fun i=>(qa1 fu i).bind fun k=>bif k then bif decide (0<=b/\b<=af (b+1)/\af (b+1)<=(a.2.length:Int)) then qfa fu h c d f b (List.take ((af (b+1)).toNat-b.toNat) (List.drop b.toNat a.2)) a else none else qfa fu h c d f b (([37]:Bs)++g) a else none else bif decide (c.length+List.length ([59,32]:Bs)<=ap) then bif decide (List.length (c++([59,32]:Bs))+a.1.length<=ap) then bif decide (List.length ((c++([59,32]:Bs))++a.1)+List.length ([42]:Bs)<=ap) then(ol fu f).bind fun e=>bif decide (List.length (((c++([59,32]:Bs))++a.1)++([42]:Bs))+e.length<=ap) then bif decide (List.length ((((c++([59,32]:Bs))++a.1)++([42]:Bs))++e)+List.length ([42,61]:Bs)<=ap) then bif decide (List.length (((((c++([59,32]:Bs))++a.1)++([42]:Bs))++e)++([42,61]:Bs))+d.length<=ap) then some ((((((c++([59,32]:Bs))++a.1)++([42]:Bs))++e)++([42,61]:Bs))++d) else none else none else none else none else none else none
def qaz(fu:Nat):Nat->qef|0=>fun _ _ _ _ _=>none|n+1=>qs2 fu (qaz fu n)
def qs1(d:qrt):qrt:=fun c b a=>bif decide (b<(a.2.length:Int)) then bif c then(am a.2 b).bind fun f=>(fw (f.toNat:Int) 32 126).bind fun g=>qe9 fu d g b a else qe9 fu d false b a else bif c then bif decide (List.length ([59,32]:Bs)+a.1.length<=ap) then bif decide (List.length (([59,32]:Bs)++a.1)+List.length ([61]:Bs)<=ap) then(qlg fu a.2).bind fun e=>bif decide (List.length ((([59,32]:Bs)++a.1)++([61]:Bs))+e.length<=ap) then some (((([59,32]:Bs)++a.1)++([61]:Bs))++e) else none else none else none else qaz fu fu ([]:Bs) ([117,116,102,56,39,39]:Bs) 0 0 a
def qe8(fu:Nat):Nat->qrt|0=>fun _ _ _=>none|n+1=>qs1 fu (qe8 fu n)
def qle(a:Bs×Bs):Option (Bs):=(xj fu a.2).bind fun b=>bif b then bif decide (List.length ([59,32]:Bs)+a.1.length<=ap) then bif decide (List.length (([59,32]:Bs)++a.1)+List.length ([61]:Bs)<=ap) then bif decide (List.length ((([59,32]:Bs)++a.1)++([61]:Bs))+a.2.length<=ap) then some (((([59,32]:Bs)++a.1)++([61]:Bs))++a.2) else none else none else none else qe8 fu fu (decide ((a.2.length:Int)<=60)) 0 a
abbrev q4s:=Bs->Int->(Bs×Bs×wV)->Option (Bs)
def qsz(e:q4s):q4s:=fun c b a=>bif decide (b<(a.2.2.length:Int)) then(am a.2.2 b).bind fun f=>(qle fu f).bind fun d=>bif decide (c.length+d.length<=ap) then e (c++d) (af (b+1)) a else none else some c
def qe6(fu:Nat):Nat->q4s|0=>fun _ _ _=>none|n+1=>qsz fu (qe6 fu n)
def qe5(a:Bs×Bs×wV):Option (Bs):=bif decide (a.1.length+List.length ([47]:Bs)<=ap) then bif decide (List.length (a.1++([47]:Bs))+a.2.1.length<=ap) then qe6 fu fu ((a.1++([47]:Bs))++a.2.1) 0 a else none else none
abbrev z9x:=Option Int
abbrev z9w:=Bool->Option Int
abbrev z9v:=wU->(Bs×Bs×wV)->Option Int
abbrev z9u:=Bool->wU->(Bs×Bs×wV)->Option Int
def q57(fu:Nat):z9x:=some 0
def qf2:z9w:=fun a=>bif a then some 5 else q57 fu
def qt1:z9v:=fun b a=>(qe5 fu a).bind fun d=>bif decide (2000<(d.length:Int)) then qf2 fu true else(qlj fu b.val.1 ([99,111,110,116,101,110,116,45,116,121,112,101]:Bs)).bind fun c=>bif decide (0<=(0:Int)/\(0:Int).toNat<c.length) then(c[(0:Int).toNat]?).bind fun e=>qf2 fu (!(e==d)) else none
def om:z9u:=fun b a c=>bif b then some 5 else qt1 fu (Tree.node a.val a.kids) c
def qlv(a:Tree (wV×Bs))(i:Int):Option Int:=(qep fu a.val.1).bind fun c=>bif c.1 != 0 then some c.1 else bif decide (0<(a.kids.length:Int)) then(qbc fu a.val.1).bind fun b=>(qld fu b.1 ([98,111,117,110,100,97,114,121]:Bs)).bind fun f=>bif !b.2 then om fu true (Tree.node a.val a.kids) b.1 else bif f.2 then om fu true (Tree.node a.val a.kids) b.1 else(ji fu b.1.1 ([109,117,108,116,105,112,97,114,116]:Bs)).bind fun g=>bif !g then om fu true (Tree.node a.val a.kids) b.1 else bif decide (0<(a.val.2.length:Int)) then om fu true (Tree.node a.val a.kids) b.1 else om fu (decide (60<=(b.1.2.2.length:Int))) (Tree.node a.val a.kids) b.1 else bif decide (12000<(a.val.2.length:Int)) then some 1 else(qlp fu a.val.2).bind fun e=>bif e.1 != 0 then some e.1 else(qlo fu a.val.1).bind fun d=>bif d.2 then bif decide (i<8) then(qtp fu a.val.2 d.1).bind fun h=>bif decide (0<(h.length:Int)) then some 5 else some 0 else some 0 else some 0
abbrev q4v:=(List wU)->(List Int)->Int->(Int×Int)->Option ((Int×Int))
abbrev q4u:=(List wU)->(List Int)->Int->(Int×Int)->Option ((Int×Int))
def qt3(i:q4v):q4v:=fun b d a c=>bif decide (a<(b.length:Int)) then(am b a).bind fun e=>(am d a).bind fun g=>(qlv fu (Tree.node e.val e.kids) g).bind fun f=>bif f != 0 then(ft f a).bind fun h=>some h else i b d (af (a+1)) c else some (0,0)
def qf4(fu:Nat):Nat->q4v|0=>fun _ _ _ _=>none|n+1=>qt3 fu (qf4 fu n)
def qt2(f:q4u):q4u:=fun c b d a=>bif decide (d<(c.length:Int)) then(am b d).bind fun g=>bif decide (8<g) then(ft 2 (-2)).bind fun e=>some e else f c b (af (d+1)) a else qf4 fu fu c b 0 a
def qf3(fu:Nat):Nat->q4u|0=>fun _ _ _ _=>none|n+1=>qt2 fu (qf3 fu n)
def qlw(b:Tree (wV×Bs)):Option ((Int×Int)):=(q55 fu (Tree.node b.val b.kids) 0).bind fun a=>bif decide (40<(a.1.length:Int)) then(ft 2 (-1)).bind fun c=>some c else qf3 fu fu a.1 a.2 0 (0,0)
abbrev q4w:=wV->Bs->Int->Int->(List Bs)->Option (Bs)
abbrev qkl:=wV->Bs->Int->Option (Bs)
def qsn(fu:Nat)(g:qkl)(h:q4w):q4w:=fun f c e b a=>bif decide (b<(a.length:Int)) then bif decide (0<=b/\b.toNat<a.length) then(a[b.toNat]?).bind fun d=>bif decide (c.length+d.length<=ap) then bif decide (List.length (c++d)+List.length ([13,10]:Bs)<=ap) then h f ((c++d)++([13,10]:Bs)) e (af (b+1)) a else none else none else none else g f c (af (e+1))
def qao(fu:Nat)(a:qkl):Nat->q4w|0=>fun _ _ _ _ _=>none|n+1=>qsn fu a (qao fu a n)
def qsm(d:qkl):qkl:=fun c b a=>bif decide (a<(c.length:Int)) then(am c a).bind fun f=>(am c a).bind fun e=>(qet fu f.1 e.2).bind fun g=>qao fu d fu c b a 0 g else bif decide (b.length+List.length ([13,10]:Bs)<=ap) then bif decide (List.length (b++([13,10]:Bs))<=maxLen) then some (b++([13,10]:Bs)) else none else none
def w8(fu:Nat):Nat->qkl|0=>fun _ _ _=>none|n+1=>qsm fu (w8 fu n)
def qk7(a:List (Bs×Bs)):Option (Bs):=w8 fu fu a ([]:Bs) 0
def qlu(a:wV×Bs):Option ((Int×Int)):=(qep fu a.1).bind fun b=>bif b.1 != 0 then some b else bif decide (12000<(a.2.length:Int)) then(ft 1 (-4)).bind fun c=>some c else(qk7 fu a.1).bind fun d=>bif decide (12000<(af ((d.length:Int)+(a.2.length:Int)))) then(ft 1 (-4)).bind fun e=>some e else(qlp fu a.2).bind fun f=>some f
abbrev q4x:=wV->Bs->Int->wV->Option (wV)
def qub(f:q4x):q4x:=fun e d c a=>bif decide (c<(e.length:Int)) then(am e c).bind fun b=>(ji fu b.1 ([99,111,110,116,101,110,116,45,116,121,112,101]:Bs)).bind fun g=>bif g then bif decide (List.length (a++([(b.1,d)]:List (Bs×Bs)))<=a7) then f e d (af (c+1)) (a++([(b.1,d)]:List (Bs×Bs))) else none else bif decide (List.length (a++([b]:List (Bs×Bs)))<=a7) then f e d (af (c+1)) (a++([b]:List (Bs×Bs))) else none else some a
def qf6(fu:Nat):Nat->q4x|0=>fun _ _ _ _=>none|n+1=>qub fu (qf6 fu n)
def qua(b:List (Bs×Bs))(a:Bs):Option (wV):=qf6 fu fu b a 0 []
def xp(b:wV×Bs)(a:wV×Bs):Option Bool:=(qli fu b.1 a.1).bind fun d=>bif d then(qky b.2 a.2).bind fun c=>some c else some false
def qlt(a:wV×Bs):Option (Bs):=(qk7 fu a.1).bind fun b=>bif decide (List.length (b++a.2)<=a7) then some (b++a.2) else none
abbrev q4z:=Bs->Bs->Int->Option Bool
def qt9(fu:Nat)(d:q4z):q4z:=fun c b a=>bif decide ((af (a+(b.length:Int)))<=(c.length:Int)) then bif a==0 then bif decide (0<=a/\a<=af (a+(b.length:Int))/\af (a+(b.length:Int))<=(c.length:Int)) then bif(List.take ((af (a+(b.length:Int))).toNat-a.toNat) (List.drop a.toNat c))==b then some true else d c b (af (a+1)) else none else(am c (af (a-1))).bind fun e=>bif e==10 then bif decide (0<=a/\a<=af (a+(b.length:Int))/\af (a+(b.length:Int))<=(c.length:Int)) then bif(List.take ((af (a+(b.length:Int))).toNat-a.toNat) (List.drop a.toNat c))==b then some true else d c b (af (a+1)) else none else d c b (af (a+1)) else some false
def qf5(fu:Nat):Nat->q4z|0=>fun _ _ _=>none|n+1=>qt9 fu (qf5 fu n)
def qt8(b:Bs)(a:Bs):Option Bool:=qf5 fu fu b a 0
abbrev u9:=(wV×Bs)
abbrev ko:=wU->Option u9
abbrev vaz:=Int->Int->wU->(List Bs)->Option u9
abbrev q42:=Bs->Bs->Int->wU->(Bs×Bs×wV)->Bs->Bs->wV->Option u9
abbrev q41:=Bs->Bs->Int->wU->(List Bs)->Option u9
abbrev qrv:=Int->Int->wU->(List Bs)->Option u9
abbrev q40:=Int->wU->(List Bs)->Option u9
def qf0(c:ko)(fu:Nat)(f:qrv):vaz:=fun d e a b=>f d (af (e+1)) (Tree.node a.val a.kids) b
def qtx(i:ko)(fu:Nat)(k:q42):q42:=fun d h f e g a b c=>bif decide (f<(g.2.2.length:Int)) then(am g.2.2 f).bind fun j=>bif decide (List.length (c++([j]:List (Bs×Bs)))<=a7) then k d h (af (f+1)) (Tree.node e.val e.kids) g a b (c++([j]:List (Bs×Bs))) else none else bif decide (List.length (c++([(([98,111,117,110,100,97,114,121]:Bs),d)]:List (Bs×Bs)))<=a7) then(qe5 fu (a,(b,c++([(([98,111,117,110,100,97,114,121]:Bs),d)]:List (Bs×Bs))))).bind fun l=>(qua fu e.val.1 l).bind fun m=>bif decide (h.length+List.length ([45,45]:Bs)<=ap) then bif decide (List.length (h++([45,45]:Bs))+d.length<=ap) then bif decide (List.length ((h++([45,45]:Bs))++d)+List.length ([45,45,13,10]:Bs)<=ap) then bif decide (List.length (((h++([45,45]:Bs))++d)++([45,45,13,10]:Bs))<=maxLen) then some (m,((h++([45,45]:Bs))++d)++([45,45,13,10]:Bs)) else none else none else none else none else none
def qf1(a:ko)(fu:Nat):Nat->q42|0=>fun _ _ _ _ _ _ _ _=>none|n+1=>qtx a fu (qf1 a fu n)
def qtw(e:ko)(fu:Nat)(i:q41):q41:=fun c d f a b=>bif decide (f<(b.length:Int)) then bif decide (d.length+List.length ([45,45]:Bs)<=ap) then bif decide (List.length (d++([45,45]:Bs))+c.length<=ap) then bif decide (List.length ((d++([45,45]:Bs))++c)+List.length ([13,10]:Bs)<=ap) then bif decide (0<=f/\f.toNat<b.length) then(b[f.toNat]?).bind fun h=>bif decide (List.length (((d++([45,45]:Bs))++c)++([13,10]:Bs))+h.length<=ap) then bif decide (List.length ((((d++([45,45]:Bs))++c)++([13,10]:Bs))++h)+List.length ([13,10]:Bs)<=ap) then i c (((((d++([45,45]:Bs))++c)++([13,10]:Bs))++h)++([13,10]:Bs)) (af (f+1)) (Tree.node a.val a.kids) b else none else none else none else none else none else none else(qbc fu a.val.1).bind fun g=>qf1 e fu fu c d 0 (Tree.node a.val a.kids) g.1 g.1.1 g.1.2.1 []
def qa9(a:ko)(fu:Nat):Nat->q41|0=>fun _ _ _ _ _=>none|n+1=>qtw a fu (qa9 a fu n)
def qtv(a:ko)(fu:Nat)(h:qrv):qrv:=fun e d b c=>bif decide (d<(c.length:Int)) then bif decide (0<=d/\d.toNat<c.length) then(c[d.toNat]?).bind fun i=>(ol fu e).bind fun f=>bif decide (List.length ([45,45,98]:Bs)+f.length<=ap) then(qt8 fu i (([45,45,98]:Bs)++f)).bind fun j=>bif j then qf0 a fu h (af (e+1)) (-1) (Tree.node b.val b.kids) c else qf0 a fu h e d (Tree.node b.val b.kids) c else none else none else(ol fu e).bind fun g=>bif decide (List.length ([98]:Bs)+g.length<=ap) then qa9 a fu fu (([98]:Bs)++g) ([]:Bs) 0 (Tree.node b.val b.kids) c else none
def qa8(a:ko)(fu:Nat):Nat->qrv|0=>fun _ _ _ _=>none|n+1=>qtv a fu (qa8 a fu n)
def qtu(b:ko)(fu:Nat)(h:q40):q40:=fun d a c=>bif decide (d<(a.kids.length:Int)) then(am a.kids d).bind fun e=>(b (Tree.node e.val e.kids)).bind fun g=>(qlt fu g).bind fun f=>bif decide (List.length (c++([f]:List Bs))<=a7) then h (af (d+1)) (Tree.node a.val a.kids) (c++([f]:List Bs)) else none else qa8 b fu fu 0 0 (Tree.node a.val a.kids) c
def qfz(a:ko)(fu:Nat):Nat->q40|0=>fun _ _ _=>none|n+1=>qtu a fu (qfz a fu n)
def qls(a:ko)(fu:Nat)(b:Tree (wV×Bs)):Option u9:=bif(b.kids.length:Int)==0 then some b.val else qfz a fu fu 0 (Tree.node b.val b.kids) []
def ur(fu:Nat):Nat->ko|0=>fun _=>none|n+1=>qls (ur fu n) fu
def q56(a:Tree (wV×Bs)):Option u9:=ur fu fu a
def qbd(b:Tree (wV×Bs)):Option Bool:=(qud fu).bind fun h=>bif !h then some false else(qg6 fu (Tree.node b.val b.kids)).bind fun a=>(qlw fu (Tree.node b.val b.kids)).bind fun c=>bif c.1 != 0 then bif((a.2.1==c.1)&&((a.2.2==c.2)&&true)) then(xp fu a.1 ([],[])).bind fun i=>some i else some false else(q56 fu (Tree.node b.val b.kids)).bind fun f=>(qlu fu f).bind fun d=>bif d.1 != 0 then(ft d.1 (-3)).bind fun e=>bif((a.2.1==e.1)&&((a.2.2==e.2)&&true)) then(xp fu a.1 ([],[])).bind fun j=>some j else some false else bif a.2.1==0 then(xp fu a.1 f).bind fun g=>some g else some false
end
end Go.Sym

