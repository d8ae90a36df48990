/- What the claim rests on, part 3: gathered texts. -/
import Derived.RangeFuncRecord
import Derived.Lib.ItoaNum
import Derived.Lib.Index
import Derived.Lib.AtoiAll
import Derived.Shelf.SlSortCmp.Insertion
import Derived.Lib.Replace
import Derived.Lib.Repeat
import Derived.Lib.MapLaws
import Derived.Lib.ValidLaws
import Derived.Lib.Join
import Derived.Lib.FieldsP
import Derived.Lib.BytesEntry
import Derived.Laws.Externs
import Derived.Lib.Bytealg
import Derived.WalkKit
import Derived.ProofKit
import Derived.OpenShut
import Derived.ShutString
import Derived.ChangeOld
import Derived.Carry
import Derived.Handed
import Derived.Deep.DeepHandedRow
import Derived.LaidMore
import Derived.Lay
import Derived.LaidHandle
import Derived.MakeChecks
import Derived.LaidLaws
import Derived.Test.YtboiflmddgacmaaGreatDoorSyN2
set_option linter.defProp false
set_option linter.unusedSimpArgs false
set_option linter.unusedVariables false
namespace Go.Sym
open Go.RowKit
variable[LC]
def nk(i:Nat)(c:Code):Code:=match c with
 |.seq a b=>match i with|0=>a|_=>b
 |.cond _ a b=>match i with|0=>a|_=>b
 |.block _ a=>a|.loop a=>a|.scope a=>a|.rangeFunc _ _ a b=>match i with|0=>a|_=>b
 |c=>c
def sub(body:Code):List Nat->Code|[]=>body|i::p=>nk i (sub body p)
structure cr where
 kd:Nat
 path:List Nat
 it:Item
def pd(body:Code)(kd:Nat)(p:List Nat):Item:=match kd with
 |0 => .code (sub body p)|1=>match sub body p with|.block id _ => .inBlock id|c => .code c
 |2=>match sub body p with|.loop x => .inLoop x|c => .code c
 |3=>match sub body p with|.scope x => .inScope x|c => .code c
 |_ => .beginRound
def cr.Ok(body:Code)(i:cr):Prop:=i.it=pd body i.kd i.path
abbrev mv:=List (Nat×List Nat)
def il(body:Code):mv->List cr|[]=>[]|(kd,p)::r=>⟨kd,p,pd body kd p⟩::il body r
def cw:List cr->List Item|[]=>[]|i::r=>i.it::cw r
def vb:mv->List cr->Bool|[],[]=>true|(kd,p)::r,i::k=>Nat.beq kd i.kd&&jz p i.path&&vb r k|_,_=>false
def qzw{body:Code}:∀{key:mv}{k:List cr},vb key k=true->(∀i∈k,i.Ok body)->cw (il body key)=cw k
 |[],[],_,_=>rfl|(kd,p)::r,⟨kd',p',it⟩::k,h,hk=>by
  simp only[vb,qA]at h;obtain⟨⟨h1,h2⟩,h3⟩:=h;have h1:=qN h1;have h2:=qef h2;subst h1 h2;have ho:it=pd body kd p:=hk _ qH;simp only[il,cw];rw[qzw h3 (fun i hi=>hk i (qE _ hi)),ho]
 |[],_::_,h,_=>by cases h
 |_::_,[],h,_=>by cases h
def qoj{body:Code}:∀{key:mv},∀i∈il body key,i.Ok body
 |[],i,h=>by cases h
 |(kd,p)::r,i,h=>by
  rcases List.mem_cons.1 h with rfl|h
  ·rfl
  ·exact qoj i h
def zcb{body:Code}{kd:Nat}{p:List Nat}{c:Code}(h:Item.code c=pd body kd p):sub body p=c:=by
 unfold pd at h;split at h
 ·injection h with h;exact h.symm
 ·split at h
  ·cases h
  ·injection h with h;exact h.symm
 ·split at h
  ·cases h
  ·injection h with h;exact h.symm
 ·split at h
  ·cases h
  ·injection h with h;exact h.symm
 ·cases h
def zcc{body:Code}{kd:Nat}{p:List Nat}{c:Code}(h:Item.inLoop c=pd body kd p):sub body p = .loop c:=by
 unfold pd at h;split at h
 ·cases h
 ·split at h<;>cases h
 ·split at h
  ·rename_i e;injection h with h;subst h;exact e
  ·cases h
 ·split at h<;>cases h
 ·cases h
def kg(id:Nat):List cr->Option (List cr)
 |[]=>none|i::k=>match i.it with|.inBlock id'=>if id'==id then some k else kg id k|_=>kg id k
def qn4{id:Nat}:∀{k k':List cr},kg id k=some k'->exitTo id (cw k)=some (cw k')/\∀i∈k',i∈k
 |[],_,h=>by cases h
 |⟨kd,p,it⟩::k,k',h=>by
  simp only[kg]at h;split at h
  ·rename_i id';split at h
   ·rename_i he;simp only[qI]at h;subst h;exact⟨by simp only[cw,exitTo];rw[qX he],fun i hi=>qE _ hi⟩
   ·rename_i he;obtain⟨h1,h2⟩:=qn4 h;exact⟨by simp only[cw,exitTo];rw[qW he];exact h1,fun i hi=>qE _ (h2 i hi)⟩
  ·rename_i hne;obtain⟨h1,h2⟩:=qn4 h;refine⟨?_,fun i hi=>qE _ (h2 i hi)⟩
   (try simp only at hne)
   simp[cw];cases it<;>first
    |(exfalso;exact hne _ rfl)
    |(simp[exitTo];exact h1)
def qmu(P:Program)(s:St):ResultVar->Option AV
 |.tmp t=>ae s.fr t|.cell t T=>match ae s.fr t with
  |some (.ptr b off)=>match ae s.hp b with|some (.cells cs _)=>g8 P T cs off|_=>none
  |some (.rop cs)=>g8 P T cs 0|some (.oel k sz 0 0)=>match ae s.hp k,py P T,cv P T with|some (.row τ l _),some true,some _=>bif τ.is1&&Nat.beq sz 1 then some (.arr τ l) else none|_,_,_=>none
  |_=>none
def qpk(P:Program)(s:St):ResultVar->Bool
 |.tmp _=>true|.cell t T=>match ae s.fr t with
  |some (.oel k _ 0 0)=>match ae s.hp k,cv P T with|some (.row _ l _),some n=>decide (l.length=n)|_,_=>true
  |_=>true
def qav(P:Program)(s:St):List ResultVar->Bool|[]=>true|x::xs=>qpk P s x&&qav P s xs
def uc(P:Program)(s:St):List ResultVar->Option (List AV)
 |[]=>some []|x::xs=>match qmu P s x with
  |some v=>match uc P s xs with|some vs=>some (v::vs)|none=>none
  |none=>none
def qmv(P:Program)(fn:Func)(s:St):Option AV:=
 match uc P s fn.results.toList with
 |some vs=>match vs with|[v]=>some v|vs=>some (.tup vs)
 |none=>none
def frzC(p:Pt)(b off:Nat)(s:St):St:=match ae s.hp b with|some (.cells cs _)=>frzL (qeu p (.agg (cs.drop off))) s|_=>s
def coR(bs:List (Nat×ar)):List ResultVar->List Pt->St->St
 |[],_,s=>s|x::xs,ps,s=>match ps with
  |[]=>s|p::ps=>match x with
   |.tmp t=>coR bs xs ps (coF bs [(t,p)] s)|.cell t _=>match ae s.fr t with|some (.ptr b off)=>coR bs xs ps (frzC p b off (coB1 bs b [p] off s))|_=>coR bs xs ps s
def qfl:Pt->List Pt|.tup ps=>ps|p=>[p]
def qel(v:AV)(ids:NM)(p:Pt)(hp:List (Nat×ar))(s:St):Option (p.den×dx hp):=
 match p.get v ids with
 |some (d,nm)=>match lr s.hp hp nm with|some (d',nm')=>bif cu nm'&&nh nm' hp then some (d,d') else none|none=>none
 |none=>none
def qn6(P:Program)(fn:Func)(ids:NM)(rv:Option AV)(p:Pt)(hp:List (Nat×ar))(s:St):Option (p.den×dx hp):=
 match rv with
 |some v=>qel v ids p hp (coB hp ids hp s)|none=>match qmv P fn (coR hp fn.results.toList (qfl p) (coB hp ids hp s)) with|some v=>qel v ids p hp (coR hp fn.results.toList (qfl p) (coB hp ids hp s))|none=>none
def qn7(P:Program)(fn:Func)(ids:NM)(rv:Option AV)(p:Pt)(hp:List (Nat×ar))(s:St):Bool:=
 match rv with|some _=>true|none=>qav P (coR hp fn.results.toList (qfl p) (coB hp ids hp s)) fn.results.toList
def RS.fin(P:Program)(fn:Func)(ids:NM)(rv:Option AV)(s:St):{α:Type}->RS α->Option α
 | _,.one p hp _ fro _=>bif qn7 P fn ids rv p hp s then(match qn6 P fn ids rv p hp s with
  |some y=>some (fro y)| none=>none) else none
 |_,.two l r=>match l.fin P fn ids rv s with
  |some a=>some (.inl a)|none=>match r.fin P fn ids rv s with|some b=>some (.inr b)|none=>none
structure dm(R:Type) where
 key:mv
 ls:LS
 F:ls.den->Option R
def sh{R:Type}(ids:NM)(s:St)(k:List cr):List (dm R)->Option (dm R)
 |[]=>none| l::ls=>bif vb l.key k then(match sh ids s k ls with
   |none=>some l|some l'=>match l.ls.get ids (l.ls.co ids s) with
    |some _=>some l| none=>some l') else sh ids s k ls
structure Cx:Type 1 where
 P:Program
 tb:Tb
 fn:Func
 f:FuncId
 ids:NM
 rd:Option Nat
 tags:List (List Nat×Nat)
def St.noDf(s:St):Bool:=match s.df with|[]=>true|_=>false
def zl:List Nat->St->Option St
 |[],s=>some { s with df:=[] }|n::ns,s=>match ae s.hp n with|some .dfr=>zl ns { s with hp:=(n,.dead)::s.hp,df:=ns }|_=>none
def nv:Option ck->Bool|none=>true|some _=>false
def jb(cx:Cx){R:Type}(enc:RS R)(j:Option ck)(s:St):Option R:=
 match cx.rd with
 |none=>match zl s.df s with|some s'=>enc.fin cx.P cx.fn cx.ids none s'|none=>none
 |some m=>bif s.noDf then
   (match ae s.hp m with
   |some (.loop _ _ f n fr ps tag D)=>enc.fin cx.P cx.fn cx.ids (some (.val (.bool (nv j)))) { s with hp:=(m,.loop (bif nv j then .ready else .done) j f n fr ps tag D)::s.hp }| _=>none)
  else none
def St.enterRF(s:St)(f:FuncId)(ps:List Tmp)(tag:Nat)(around:Option Nat):Option St:=
 bif aq s.nx s.hp then
  (match around with
  |none=>some { s with hp:=(s.nx,.loop .ready none f s.n s.fr ps tag (s.nx+1))::(s.nx+1,.dfr)::s.hp,df:=(s.nx+1)::s.df,nx:=s.nx+32 }|some m=>match ae s.hp m with
   |some (.loop _ _ _ _ _ _ _ D)=>some { s with hp:=(s.nx,.loop .ready none f s.n s.fr ps tag D)::s.hp,nx:=s.nx+32 }| _=>none)
 else none
def q2s(s:St)(ys:List AV)(d:D):Option St:=match d with
 |.mem names xs hp _ hp'=>
  bif cu names&&ly names&&aq s.nx s.hp then
   (match ek (ao names) s.hp names,ay false [] (AV.rens (ao names) ys) xs with
   |some hpv,some _=>match ft hpv hp with|some _=>some { s with hp:=gl (gh names hp' s.nx) hp'++(ie names++s.hp),nx:=s.nx+32 }|none=>none
   | _,_=>none)
  else none
 |_=>none
def im(p:List Nat):List (List Nat×Nat)->Option Nat|[]=>none|(q,t)::r=>bif jz q p then some t else im p r
def q1p:LoopState->Bool|.busy=>false|_=>true
def qfq(cx:Cx)(p:List Nat)(g:Operand)(ps:List Tmp)(s:St):Option (Rq×St×List AV):=
 match im p cx.tags,s.ev g with
 |some tag,some (.fn (.func h) [] cap)=>match s.enterRF cx.f ps tag cx.rd with
  |some s1=>match rh (zk s1 h (.yld s.nx::cap)) cx.tb.ents with|some q=>some (q,s1,.yld s.nx::cap)|none=>none
  |none=>none
 |_,_=>none
def q2u(cx:Cx)(p:List Nat)(g:Operand)(ps:List Tmp)(s:St):Option St:=
 match im p cx.tags,s.ev g with
 |some tag,some (.fn (.func h) [] cap)=>match s.enterRF cx.f ps tag cx.rd with
  |some s1=>match qed (fun e=>l7 h e.key) cx.tb.ents with|some e=>some (coB e.hp (nz s1 e.hp (pm e.args (.yld s.nx::cap))) e.hp (frzL (rm e.args (.yld s.nx::cap)) s))|none=>none
  |none=>none
 |_,_=>none
def qfr{R:Type}(nl:Nat)(a:Rq×St×List AV)(K:Option ck->St->Option R):Option R:=
 a.1.K fun d=>match q2s a.2.1 a.2.2 d with
  |some s3=>match ae s3.hp nl with|some (.loop st pe _ _ _ _ _ _)=>bif q1p st then K pe { s3 with hp:=(nl,.dead)::s3.hp } else none|_=>none
  |none=>none
def rfR(cx:Cx){R:Type}(p:List Nat)(g:Operand)(ps:List Tmp)(s:St)(K:Option ck->St->Option R):Option R:=
 match qfq cx p g ps s with
 |some a=>qfr s.nx a K|none=>match q2u cx p g ps s with
  |some s'=>match qfq cx p g ps s' with|some a=>qfr s'.nx a K|none=>none
  |none=>none
def run(cx:Cx){R:Type}(enc:RS R)(labs:List (dm R)):Nat->Bool->List cr->St->Option R
 |0,_,_,_=>none|n+1,chk,k,s=>match(bif chk then sh cx.ids s k labs else none) with
  |some lab=>match lab.ls.get cx.ids (lab.ls.co cx.ids s) with|some d=>lab.F d|none=>none
  |none=>match k with
   |[]=>jb cx enc none s|⟨_,p,it⟩::k'=>match it with
    |.code c=>match c with
     |.skip=>run cx enc labs n true k' s|.label _=>run cx enc labs n true k' s|.seq x y=>run cx enc labs n true (⟨0,0::p,.code x⟩::⟨0,1::p,.code y⟩::k') s|.cond c x y=>match s.ev c with|some (.bool b)=>bif b then run cx enc labs n true (⟨0,0::p,.code x⟩::k') (s.know c true) else run cx enc labs n true (⟨0,1::p,.code y⟩::k') (s.know c false)|some (.val (.bool b))=>bif b then run cx enc labs n true (⟨0,0::p,.code x⟩::k') s else run cx enc labs n true (⟨0,1::p,.code y⟩::k') s|_=>none
     |.block id x=>run cx enc labs n true (⟨0,0::p,.code x⟩::⟨1,p,.inBlock id⟩::k') s|.loop x=>run cx enc labs n true (⟨0,0::p,.code x⟩::⟨2,p,.inLoop x⟩::k') s|.scope x=>run cx enc labs n true (⟨0,0::p,.code x⟩::⟨3,p,.inScope x⟩::k') s|.exit id=>match kg id k' with
      |some k''=>run cx enc labs n true k'' s|none=>match cx.rd with|some _=>jb cx enc (some (.exit id)) s|none=>none
     |.region _ ops d=>bif d then qnv cx.P cx.tb ops s (fun s'=>run cx enc labs n true k' s'.bump) else se cx.P cx.tb ops ops.toList s (fun s'=>run cx enc labs n true k' s'.bump)
     |.ret=>jb cx enc (some .ret) s|.rangeFunc g ps _ _=>rfR cx p g ps.toList s fun j s'=>match j with
      |none=>run cx enc labs n true k' s'|some .ret=>jb cx enc (some .ret) s'|some (.exit id)=>match kg id k' with
       |some k''=>run cx enc labs n true k'' s'|none=>match cx.rd with|some _=>jb cx enc (some (.exit id)) s'|none=>none
     |_=>none
    |.inBlock _=>run cx enc labs n true k' s|.inScope _=>run cx enc labs n true k' s|.inLoop x=>run cx enc labs n true (⟨0,0::p,.code x⟩::⟨2,p,.inLoop x⟩::k') s|.beginRound=>match cx.rd with
     |some m=>match ae s.hp m with|some (.loop .ready pe f n' fr ps tag D)=>run cx enc labs n true k' { s with hp:=(m,.loop .busy pe f n' fr ps tag D)::s.hp }|_=>none
     |none=>none
    |_=>none
def qf(P:Program)(ro:Option Nat)(f:FuncId)(x:Machine)(cs:List Frame)(Q:Value->World->Prop):Prop:=
 match ro with|none=>∃v w' fr,Q v w'/\Steps P x (lone fr cs w')/\fr.fn=f/\fr.leaving P w' (.returned v)|some _=>∀c cs',cs=c::cs'->∃v w',Q v w'/\Steps P x (lone (c.finish v) cs' w')
def qf.head{P:Program}{ro:Option Nat}{f:FuncId}{x y:Machine}{cs:List Frame}{Q:Value->World->Prop}(h:Steps P x y)(k:qf P ro f y cs Q):qf P ro f x cs Q:=by
 cases ro with
 |none=>obtain⟨v,w',fr,h1,h2,h3⟩:=k;exact⟨v,w',fr,h1,h.trans h2,h3⟩
 |some l=>exact fun c cs' e=>by obtain⟨v,w',h1,h2⟩:=k c cs' e;exact⟨v,w',h1,h.trans h2⟩
section
variable{P:Program}{zpp:World}{zpk:Gh}{zpm:List (Nat×ag)}{G:Gh}{s:St}{a:Act}{w:World}
def sj(tmps:Array Value)(x:ResultVar):Sem Value:=match x with|.tmp t=>pure (tmps.getD t undef)|.cell a t=>do loadVar t (← asAddr (tmps.getD a undef))
def zd7(fn:Func)(tmps:Array Value):results fn tmps=(do let vs ← fn.results.mapM (sj tmps);pure (if h:vs.size=1 then vs[0] else .tuple vs)):=rfl
def q9e(hr:ai zpp zpk zpm G s a w){x:ResultVar}{v:AV}(hq:qpk P s x=true)(h:qmu P s x=some v):∃u,(sj a.tmps x).run P w = .ok u w/\aj v G u:=by
 cases x with
 |tmp t=>
  obtain⟨u,h1,h2⟩:=hr.frame t v h;exact⟨u,by simp[sj,Array.getD_eq_getD_getElem?,h1],h2⟩
 |cell t T=>
  simp only[qmu]at h;split at h
  ·rename_i b off hb;split at h
   ·rename_i cs T' hc;obtain⟨u,h1,B,hB,rfl⟩:=hr.frame _ _ hb;obtain⟨B',vs,k1,k2,k3,_⟩:=hr.fin.mem.holds _ _ hc;rw[k1]at hB;injection hB with hB;subst hB
    obtain⟨z,hz,hrz⟩:=sn (P:=P) (w:=w) h (o:=0) k3 (fun j u hu=>by rw[wO];exact cell_of_heap k2 hu)
    rw[wO]at hz;exact⟨z,by simp[sj,Array.getD_eq_getD_getElem?,h1,asAddr,hz],hrz⟩
   ·cases h
  ·rename_i cs hb;obtain⟨u,h1,b,o,rfl,hc⟩:=hr.frame _ _ hb;obtain⟨vs,k1,k2⟩:=hc.values;obtain⟨z,hz,hrz⟩:=sn (P:=P) (w:=w) h (o:=o) k1 (fun j u hu=>hr.fin.mem.agree _ _ _ (k2 j u hu))
   exact⟨z,by simpa [sj,Array.getD_eq_getD_getElem?,h1,asAddr] using hz,hrz⟩
  ·rename_i k sz hb;split at h
   ·rename_i τ l E n hl hagg hn;simp only[qpk,hb,hl,hn,decide_eq_true_eq]at hq;cases hbb:τ.is1&&Nat.beq sz 1<;>rw[hbb]at h<;>simp only[qT,qF,reduceCtorEq,qI]at h
    subst h;simp only[qA]at hbb;have hsz:τ.sz=1:=vh hbb.1;obtain⟨u,h1,B,n0,c0,ho,rfl⟩:=hr.frame _ _ hb;obtain⟨ad,c',q1,q2⟩:=hr.fin.mem.holds _ _ hl;rw[ho]at q1;simp only[qI,qP]at q1;obtain⟨rfl,rfl,rfl⟩:=q1;rcases q2 with⟨q2,_⟩|⟨g,vs,fz,k1,k2,k3,k4,k5,k6,k7,k8,k9⟩
    ·cases q2
    ·simp only[qI,Addr.mk.injEq,and_true]at k1;subst k1;have hfl:(l.flatMap τ.enc).length=n:=by rw[ij,hsz,hq,Nat.mul_one]
     have hload:g8 P T (l.flatMap τ.enc) 0=some (.agg (l.flatMap τ.enc)):=by
      unfold g8;rw[hagg,hn];have:Nat.ble (0+n) (l.flatMap τ.enc).length=true:=by rw[hfl,wO];simp
      simp only[this,qT,List.drop_zero];rw[List.take_of_length_le (by rw[hfl];exact wF _)]
     obtain⟨u,hu,us,rfl,hru⟩:=sn (P:=P) (w:=w) hload (B:=B) (o:=0) k7 (fun j u hu=>by
      rw[List.getElem?_take]at hu;split at hu
      ·rw[wO];exact cell_of_heap k2 hu
      ·cases hu)
     simp at hu;refine⟨.agg us,by simp[sj,Array.getD_eq_getD_getElem?,h1,asAddr,hu],?_⟩
     have:=qpf (G:=G) hbb.1 hru;simpa using this
   ·cases h
  ·cases h
def qyi(hr:ai zpp zpk zpm G s a w):∀{xs:List ResultVar}{vs:List AV},qav P s xs=true->uc P s xs=some vs ->
  ∃us:List Value,(xs.mapM (sj a.tmps)).run P w = .ok us w/\ak vs G us
 |[],vs,_,h=>by simp only[uc,qI]at h;subst h;exact⟨[],oC,trivial⟩|x::xs,vs,hq,h=>by
  simp only[qav,qA]at hq;simp only[uc]at h;split at h
  ·rename_i v hv;split at h
   ·rename_i us hus;simp only[qI]at h;subst h;obtain⟨u,hu,hru⟩:=q9e hr hq.1 hv;obtain⟨us',hu',hru'⟩:=qyi hr hq.2 hus;refine⟨u::us',?_,hru,hru'⟩;rw[List.mapM_cons];simp[Sem.run_bind,hu,Result.andThen_ok,hu',Sem.run_pure]
   ·cases h
  ·cases h
def q9f(hr:ai zpp zpk zpm G s a w){fn:Func}{v:AV}(hq:qav P s fn.results.toList=true)(h:qmv P fn s=some v):∃u,(results fn a.tmps).run P w = .ok u w/\aj v G u:=by
 unfold qmv at h;have key:∀vs,uc P s fn.results.toList=some vs->∃us:List Value,(results fn a.tmps).run P w = .ok (if h:us.toArray.size=1 then us.toArray[0] else .tuple us.toArray) w/\ak vs G us:=fun vs hv=>by
  obtain⟨us,h1,h2⟩:=qyi hr hq hv;refine⟨us,?_,h2⟩;rw[zd7,Array.mapM_eq_mapM_toList];simp only[Sem.run_bind,Sem.run_map,h1,Result.andThen_ok,Sem.run_pure]
 split at h
 ·rename_i vs hv;obtain⟨us,h1,h2⟩:=key _ hv;split at h
  ·simp at h;subst h
   match us,h2 with|[u],h2=>exact⟨u,by rw[h1];rfl,h2.1⟩|[],h2=>exact h2.elim|_::_::_,h2=>exact h2.2.elim
  ·rename_i hne;simp at h;subst h;refine⟨.tuple us.toArray,?_,us.toArray,rfl,by simpa using h2⟩
   rw[h1,dif_neg];intro he;have hl:=h2.length;simp at he;rw[he]at hl
   match vs,hl,hne with|[x],_,hne=>exact hne x rfl
 ·cases h
def ai.frzC{p:Pt}{b off:Nat}{s:St}{G:Gh}(hr:ai zpp zpk zpm G s a w):∃G',ai zpp zpk zpm G' (frzC p b off s) a w:=by
 unfold Sym.frzC;split
 ·exact hr.frzL
 ·exact⟨G,hr⟩
def ai.coR{bs:List (Nat×ar)}:∀{xs:List ResultVar}{ps:List Pt}{s:St}{G:Gh},ai zpp zpk zpm G s a w->∃G',ai zpp zpk zpm G' (coR bs xs ps s) a w
 |[],_,s,G,hr=>⟨G,hr⟩|x::xs,ps,s,G,hr=>by
  unfold Sym.coR;split
  ·exact⟨G,hr⟩
  ·split
   ·obtain⟨G',hr'⟩:=hr.coF (bs:=bs) (l:=[(_,_)]);exact ai.coR hr'
   ·split
    ·obtain⟨G',hr'⟩:=hr.coB1 (bs:=bs);obtain⟨G2,hr2⟩:=hr'.frzC;exact ai.coR hr2
    ·exact ai.coR hr
def qem(hr:ai zpp zpk zpm G s a w){ids:NM}(hid:∀n bx,ae zpm n=some bx->ap ids n=some n){v:AV}{p:Pt}{hp:List (Nat×ar)}{y:p.den×dx hp}(h:qel v ids p hp s=some y) :
  ∃G',Fin zpp zpk zpm G' (bi hp y.2) w/\∀u,aj v G u->aj (p.put y.1) G' u:=by
 unfold qel at h;split at h
 ·rename_i d nm h1;split at h
  ·rename_i d' nm' h2;cases hq:cu nm'&&nh nm' hp<;>rw[hq]at h<;>simp only[qT,qF,reduceCtorEq]at h
   have h:=qJ h;subst h;simp at hq;obtain⟨g1,g2⟩:=Pt.get_seen h1;obtain⟨b1,b2⟩:=qw h2;obtain⟨b3,_⟩:=b2 nm' hq.1 (bn.refl _);exact⟨G.view nm',hr.fin.fit hq.1 (fun n bx hb=>b1 _ _ (g1 _ _ (hid n bx hb))) b3,fun u hu=>(g2 nm' hq.1 b1).rep hu⟩
  ·cases h
 ·cases h
def yy(P:Program)(fn:Func)(rv:Option AV)(a:Act)(w:World)(Q:Value->Prop):Prop:=
 match rv with|none=>∃u,(results fn a.tmps).run P w = .ok u w/\Q u|some x=>∀b,x = .val (.bool b)->Q (.bool b)
def zbm(hr:ai zpp zpk zpm G s a w){ids:NM}(hid:∀n bx,ae zpm n=some bx->ap ids n=some n){fn:Func}{rv:Option AV}{p:Pt}{hp:List (Nat×ar)}{y:p.den×dx hp}(hq:qn7 P fn ids rv p hp s=true)(h:qn6 P fn ids rv p hp s=some y) :
  yy P fn rv a w fun u=>∃G',Fin zpp zpk zpm G' (bi hp y.2) w/\aj (p.put y.1) G' u:=by
 unfold qn6 at h;split at h
 ·rename_i x;obtain⟨G1,hr1⟩:=hr.coB (bs:=hp) (nm:=ids) (l:=hp);obtain⟨G',h1,h2⟩:=qem hr1 hid h;exact fun b e=>⟨G',h1,h2 _ (by subst e;rfl)⟩
 ·split at h
  ·rename_i v hv;obtain⟨G1,hr1⟩:=hr.coB (bs:=hp) (nm:=ids) (l:=hp);obtain⟨G2,hr2⟩:=hr1.coR (bs:=hp) (xs:=fn.results.toList) (ps:=qfl p);obtain⟨G',h1,h2⟩:=qem hr2 hid h;obtain⟨u,hu,hru⟩:=q9f hr2 hq hv;exact⟨u,hu,G',h1,h2 _ hru⟩
  ·cases h
def yy.mono{fn:Func}{rv:Option AV}{Q Q':Value->Prop}(h:yy P fn rv a w Q)(k:∀v,Q v->Q' v):yy P fn rv a w Q':=by
 cases rv with
 |none=>obtain⟨u,h1,h2⟩:=h;exact⟨u,h1,k _ h2⟩
 |some x=>exact fun b e=>k _ (h b e)
def qen(hr:ai zpp zpk zpm G s a w){ids:NM}(hid:∀n bx,ae zpm n=some bx->ap ids n=some n){fn:Func}{rv:Option AV}:∀{α:Type}{enc:RS α}{x:α},enc.fin P fn ids rv s=some x ->
  yy P fn rv a w fun u=>∃G',Fin zpp zpk zpm G' (enc.res x).2 w/\aj (enc.res x).1 G' u
 |_,.one p hp tq fro ok,x,h=>by
  simp[RS.fin]at h;cases hq:qn7 P fn ids rv p hp s<;>rw[hq]at h<;>simp at h
  split at h
  ·rename_i y hy;have h:=qJ h;subst h;have:=zbm (P:=P) hr hid hq hy;simp[RS.res,ok];exact this
  ·cases h
 |_,.two l r,x,h=>by
  simp[RS.fin]at h;split at h
  ·rename_i y hy;have h:=qJ h;subst h;have:=qen (enc:=l) hr hid hy;exact this
  ·split at h
   ·rename_i y hy;have h:=qJ h;subst h;have:=qen (enc:=r) hr hid hy;exact this
   ·cases h
def qze:∀{ns:List Nat}{s s':St}{G:Gh}{a:Act}{w:World},s.df=ns->zl ns s=some s'->ai zpp zpk zpm G s a w->∀(fr:Frame)(cs:List Frame),fr.mode = .returning->fr.defers=a.defers ->
  ∃w',ai zpp zpk zpm G s' { a with defers:=[] } w'/\Steps P (lone fr cs w) (lone { fr with defers:=[] } cs w')
 |[],s,s',G,a,w,hd,h,hr,fr,cs,hm,hfd=>by
  simp[zl,qI]at h;subst h;obtain⟨bs,h1,h2⟩:=hr.defers;rw[hd]at h2;have:bs=[]:=by cases bs with|nil=>rfl|cons _ _=>simp at h2
  subst this;refine⟨w,⟨⟨[],rfl,rfl⟩,hr.size,hr.frame,hr.fresh,hr.fin⟩,?_⟩;have e:({ fr with defers:=[] }:Frame)=fr:=by rw[← show fr.defers=[] by rw[hfd,h1];rfl]
  rw[e];exact .refl _ _
 |n::ns,s,s',G,a,w,hd,h,hr,fr,cs,hm,hfd=>by
  simp[zl]at h;split at h
  ·rename_i hl;obtain⟨bs,h1,h2⟩:=hr.defers;rw[hd]at h2
   cases bs with
   |nil=>simp at h2|cons b bs=>
    simp at h2;obtain⟨B,k1,k2,k3⟩:=hr.fin.mem.holds n _ hl;rw[k1]at h2;obtain⟨e,h2⟩:=h2;injection e with e;subst e
    have hr1:=hr.setBox (bx' := .dead) (o := .deferred none) hl (show G.at n .dfr=some b from k1) (fun c hc=>by cases hc) trivial k3
    have hr2:ai zpp zpk zpm G { s with hp:=(n,.dead)::s.hp,df:=ns } { a with defers:=bs.map (fun b=>{ target := .collected b,args:=#[] }) } (w.putObj b (.deferred none)):=
     ⟨⟨bs,rfl,h2⟩,hr1.size,hr1.frame,hr1.fresh,hr1.fin⟩
    have hs:=step_collected (P:=P) (cs:=cs) (fr:=fr) (by rw[hm];simp) (by rw[hfd,h1];rfl) rfl (run_takeDeferred k2)
    obtain⟨w',i1,i2⟩:=qze (a:={ a with defers:=bs.map (fun b=>{ target := .collected b,args:=#[] }) }) rfl h hr2 { fr with defers:=[]++bs.map (fun b=>{ target := .collected b,args:=#[] }) } cs hm rfl
    exact⟨w',i1,(Steps.one hs).trans i2⟩
  ·cases h
end
structure Cx.Ok(cx:Cx)(body:Code):Prop where
 ents:∀e∈cx.tb.ents,e.Sound cx.P
 mixed:cx.P.follows .mixedOrders=true
 func:cx.P.funcs[cx.f]? = some cx.fn
 tags:∀p t,im p cx.tags=some t->∀g ps x y,sub body p = .rangeFunc g ps x y->LC.lc t=some (x,y)
def lj(cx:Cx)(zpk:Gh)(zpm:List (Nat×ag))(b:Frame):Prop:=match cx.rd with|none=>b.roundOf=none|some m=>∃B bx,zpk.box m=some B/\ae zpm m=some bx/\b.roundOf=some B
section
variable{zpp:World}{zpk:Gh}{zpm:List (Nat×ag)}{G:Gh}{s:St}{a:Act}{w:World}
def zee{P:Program}(fn:FuncId)(tmps:Array Value)(ps:Array Tmp)(asn bo:Code){l:Nat}{r:Loop}(h:w.heap[l]? = some (.loop r)) :
  (Instr.enterLoop fn tmps ps asn bo (some l)).run P w = .ok (w.heap.size,[]) (w.alloc (.loop { state := .ready,pending:=none,fn,tmps,params:=ps,assign:=asn,body:=bo,defers:=r.defers })):=by
 unfold Instr.enterLoop;simp only[Sem.run_bind,run_getLoop h,run_newObj_alloc,Result.andThen,Sem.run_pure]
def q02(hr:ai zpp zpk zpm G s a w){k D DB:Nat}{f:FuncId}{ps:Array Tmp}{tag:Nat}{asn bo:Code}(htag:LC.lc tag=some (asn,bo))(hk:ae s.hp k=none)(hkx:s.nx<=k)(hD:G.box D=some DB)(hne:D≠k) :
  ai zpp zpk zpm (G.addBox k w.heap.size) { s with hp:=(k,.loop .ready none f s.n s.fr ps.toList tag D)::s.hp } a (w.alloc (.loop { state := .ready,pending:=none,fn:=f,tmps:=a.tmps,params:=ps,assign:=asn,body:=bo,defers:=DB })):=by
 have hle:G.le (G.addBox k w.heap.size):=Gh.addBox_le (hr.fresh k hkx hk).1;refine hr.newBox hk hkx (fun b hb => ?_) ⟨w.heap.size,a.tmps,DB,Gh.addBox_self,by rw[Gh.addBox_ne hne];exact hD,⟨asn,bo,htag,?_⟩,hr.size,fun i x hx => ?_,fun o => ?_⟩
 ·have hb:(G.addBox k w.heap.size).box k=some b:=hb;rw[Gh.addBox_self]at hb;injection hb with hb;exact hb.symm
 ·rw[ko];simp
 ·obtain⟨v,h1,h2⟩:=hr.frame i x hx;exact⟨v,h1,h2.le hle⟩
 ·cases hq:(G.addBox k w.heap.size).imm w.heap.size o with
  |none=>rfl|some v=>
   have:=World.block_lt_of_cell? _ _ (hr.fin.mem.agree _ _ _ hq);simp at this
def ai.nx(hr:ai zpp zpk zpm G s a w){k:Nat}(h:s.nx<=k):ai zpp zpk zpm G { s with nx:=k } a w:=⟨hr.defers,hr.size,hr.frame,fun m hm hl=>hr.fresh m (Nat.le_trans h hm) hl,hr.fin⟩
def zbe(hr:ai zpp zpk zpm G s a w){cx:Cx}{ps:Array Tmp}{tag:Nat}{asn bo:Code}(htag:LC.lc tag=some (asn,bo)){s1:St}(h:s.enterRF cx.f ps.toList tag cx.rd=some s1){b:Frame}(hb:b.fn=cx.f)(hrd:lj cx zpk zpm b) :
  ∃G1 l mark w1,(Instr.enterLoop b.fn a.tmps ps asn bo b.roundOf).run cx.P w = .ok (l,mark) w1/\G1.box s.nx=some l/\G.le G1/\ai zpp zpk zpm G1 s1 { a with defers:=mark++a.defers } w1/\s1.nx=s.nx+32:=by
 unfold St.enterRF at h;cases hn:aq s.nx s.hp<;>rw[hn]at h<;>simp only[qT,qF,reduceCtorEq]at h
 have hk0:=gq hn s.nx (wF _) oA
 have hk1:=gq hn (s.nx+1) oA oA
 unfold lj at hrd;split at h
 ·rename_i hc;rw[hc]at hrd;simp only at hrd;simp only[qI]at h;subst h;have hr1:=hr.newBox (k:=s.nx+1) (bx := .dfr) (o := .deferred (some [])) hk1 oA (fun b hb=>by
   have hb:(G.addBox (s.nx+1) w.heap.size).box (s.nx+1)=some b:=hb;rw[Gh.addBox_self]at hb;injection hb with hb;exact hb.symm)
   ⟨w.heap.size,Gh.addBox_self,ko _ _,fun o=>by
    cases hq:(G.addBox (s.nx+1) w.heap.size).imm w.heap.size o with
    |none=>rfl|some v=>
     have:=World.block_lt_of_cell? _ _ (hr.fin.mem.agree _ _ _ hq);simp at this⟩
  have hk0':ae ((s.nx+1,ag.dfr)::s.hp) s.nx=none:=by
   simp only[ae];have:Nat.beq (s.nx+1) s.nx=false:=by
    cases hq:Nat.beq (s.nx+1) s.nx
    ·rfl
    ·have:=qN hq;omega
   rw[this];exact hk0
  have hr2:=q02 hr1 (k:=s.nx) (D:=s.nx+1) (f:=cx.f) (ps:=ps) htag hk0' (wF _) Gh.addBox_self oA
  have hle1:G.le (G.addBox (s.nx+1) w.heap.size):=Gh.addBox_le (hr.fresh (s.nx+1) oA hk1).1
  have hle2:(G.addBox (s.nx+1) w.heap.size).le ((G.addBox (s.nx+1) w.heap.size).addBox s.nx (w.alloc (.deferred (some []))).heap.size):=Gh.addBox_le (hr1.fresh s.nx (wF _) hk0').1;refine⟨_,w.heap.size+1,[{ target := .collected w.heap.size,args:=#[] }],_,by rw[hrd,hb];exact run_enterLoop_outer _ _ _ _ _,?_,hle1.trans hle2,?_,rfl⟩
  ·rw[Gh.addBox_self,World.size_alloc]
  ·have hr3:=hr2.nx (k:=s.nx+32) (by show s.nx<=_;omega)
   refine⟨?_,hr3.size,hr3.frame,hr3.fresh,hr3.fin⟩;obtain⟨bs,h1,h2⟩:=hr3.defers;refine⟨w.heap.size::bs,by rw[h1];rfl,?_⟩
   simp only[List.map_cons,List.cons.injEq];refine⟨?_,h2⟩;rw[Gh.addBox_ne oA,Gh.addBox_self]
 ·rename_i m hc;rw[hc]at hrd;simp only at hrd;obtain⟨B,bx0,e1,e2,e3⟩:=hrd;split at h
  ·rename_i D hm;simp only[qI]at h;subst h;obtain⟨B',tmps,DB,k1,k2,⟨asn',bo',_,k3⟩,_⟩:=hr.fin.mem.holds _ _ hm;have:=hr.fin.keep m bx0 B e2 e1;rw[this]at k1;injection k1 with k1;subst k1
   have hne:D≠s.nx:=fun e=>by subst e;rw[(hr.fresh _ (wF _) hk0).1]at k2;cases k2
   have hr2:=q02 hr (k:=s.nx) (D:=D) (f:=cx.f) (ps:=ps) htag hk0 (wF _) k2 hne;have hle2:G.le (G.addBox s.nx w.heap.size):=Gh.addBox_le (hr.fresh s.nx (wF _) hk0).1;refine⟨_,w.heap.size,[],_,by rw[e3,hb];exact zee _ _ _ _ _ k3,Gh.addBox_self,hle2,?_,rfl⟩
   exact hr2.nx (k:=s.nx+32) (by show s.nx<=_;omega)
  ·cases h
end
def qol:Option ck->List Item|none=>[]|some j=>[.code j.code]
section
variable{zpp:World}{zpk:Gh}{zpm:List (Nat×ag)}{G:Gh}{s:St}{a:Act}{w:World}{cx:Cx}{body:Code}{R:Type}
def q2t(ok:cx.Ok body)(hr:ai zpp zpk zpm G s a w){p:List Nat}{g:Operand}{ps:Array Tmp}{asn bo:Code}(hsub:sub body p = .rangeFunc g ps asn bo){q:Rq×St×List AV}(hq:qfq cx p g ps.toList s=some q)
  {K:Option ck->St->Option R} {x:R} (h:qfr s.nx q K=some x) {b:Frame} (cs:List Frame) (hb:b.fn=cx.f) (_hkind:b.kind = .normal) (hrd:lj cx zpk zpm b) (k:List Item) :
  ∃j s' G' a' w',K j s'=some x/\ai zpp zpk zpm G' s' a' w'/\Steps cx.P (lone (b.atR a (.code (.rangeFunc g ps asn bo)::k)) cs w) (lone (b.atR a' (qol j++k)) cs w'):=by
 unfold qfq at hq;split at hq
 ·rename_i tag h0 cap ht hg;split at hq
  ·rename_i s1 hs1;split at hq
   ·rename_i q1 hq1;have hq:=qJ hq;subst hq;obtain⟨G1,l,mark,w1,he,hl,hle,hr1,hnx⟩:=zbe hr (ok.tags p tag ht g ps asn bo hsub) hs1 hb hrd;unfold qfr at h;obtain⟨d,hd,h⟩:=Rq.K_some h;simp only at h hd;obtain⟨e,hemem,hc⟩:=rl hq1;unfold zk at hc;cases hkk:l7 h0 e.key<;>rw[hkk]at hc<;>simp only[qT,qF,reduceCtorEq]at hc
    obtain⟨N,x1,x1',y,k1,k2,k3,k4,k5,k6⟩:=qfa hc hd;subst k2;have hs:=ok.ents e hemem x1 x1' y k1;rw[qon hkk]at hs;obtain⟨hpl,hct⟩:=hs;unfold q2s at h;simp only at h;cases hbb:cu N&&ly N&&aq s1.nx s1.hp<;>rw[hbb]at h<;>simp only[qT,qF,reduceCtorEq]at h
    simp only[qA]at hbb;obtain⟨⟨hb1,_⟩,hb2⟩:=hbb
    cases hv:ek (ao N) s1.hp N with
    |none=>rw[hv]at h;simp only[reduceCtorEq]at h|some hpv=>
    cases hvs:ay false [] (AV.rens (ao N) (.yld s.nx::cap)) (Pts.put e.args x1) with
    |none=>rw[hv,hvs]at h;simp only[reduceCtorEq]at h|some ps1=>
    rw[hv,hvs]at h;simp only at h
    cases hvw:ft hpv (bi e.hp x1') with
    |none=>rw[hvw]at h;simp only[reduceCtorEq]at h|some ps2=>
    rw[hvw]at h;simp only at h;have p1:=k5 _ hvs;have p2:=k6 _ _ hv hvw;obtain⟨fs,cps,hge,hfs,hcs⟩:=aw hr hg;have hfs0:fs=#[]:=Array.eq_empty_of_size_eq_zero (by simpa using hfs.length.symm)
    subst hfs0;have hge':({ a with defers:=mark++a.defers }:Act).eval g = .func (.func h0) #[] cps:=hge
    have hres:(resolve a.eval (rangeCall g l) 0).run cx.P w1 = .ok { target := .fn (.func h0) cps,args:=#[.func (.yield l) #[] #[]] } w1:=by
     have hy:a.eval (.const (.func (.yield l) #[] #[])) = .func (.yield l) #[] #[]:=rfl;simp[resolve,hge,Deferred.ofValue,hy]
    have hinv:(invoke (.fn (.func h0) cps) #[.func (.yield l) #[] #[]]).run cx.P w1 = .ok (.enter h0 (#[.func (.yield l) #[] #[]]++cps)) w1:=by
     simp[invoke,hpl _ w1]
    have henter:=stepR_rangeFunc (P:=cx.P) (b:=b) (a:=a) (k:=k) (cs:=cs) he hres hinv;have hreps:ak (.yld s.nx::cap) G1 (.func (.yield l) #[] #[]::cps.toList):=⟨⟨l,hl,rfl⟩,hcs.le hle⟩;have hm:bj (G1.view N) (bi e.hp x1') w1:=(hr1.fin.mem.view hv (u9 hb1)).vw hvw p2;have hreps2:=gc (Gh.le.refl _) (fun e=>by cases e) hvs p1 (ak.ren (G:=G1) (G':=G1.view N) (fun _ _ _ h=>h) (mg N) (od N) hreps)
    have hcalls:=hct w1 (G1.view N) _ hm hreps2;have e1:(Value.func (.yield l) #[] #[]::cps.toList).toArray=#[.func (.yield l) #[] #[]]++cps:=oC
    rw[e1]at hcalls;obtain⟨en,w2,fr,hpost,hcomes,hfrfn,hleave⟩:=hcalls (b.atR { a with defers:=mark++a.defers } (.inRangeFunc l::k)::cs)
    obtain⟨G2,v,rfl,_,hle2,hr2⟩:=q1b hr1 hb1 hb2 (wF _) hv hvw p2 hpost;have hsteps:Steps cx.P (lone (b.atR a (.code (.rangeFunc g ps asn bo)::k)) cs w) (lone (b.atR { a with defers:=mark++a.defers } (.endRangeFunc l::k)) cs w2):=by
     refine(Steps.one henter).trans (Steps.trans hcomes (.one ?_));rw[← finish_atR_inRangeFunc l v];exact step_leave_returned hleave
    split at h
    ·rename_i st pe f' n' fr' ps' tag' D' hlk;cases hnb:q1p st<;>rw[hnb]at h<;>simp only[qT,qF,reduceCtorEq]at h
     obtain⟨B,tmps,DB,i1,i2,⟨asn',bo',_,i3⟩,i4,i5,i6⟩:=hr2.fin.mem.holds _ _ hlk;have:=hle2.box _ _ hl;rw[this]at i1;injection i1 with i1;subst i1
     have hend:=run_endLoop (P:=cx.P) i3 (by intro e;simp only at e;subst e;cases hnb)
     have hst:=stepR_endRangeFunc (b:=b) (a:={ a with defers:=mark++a.defers }) (k:=k) (cs:=cs) hend
     have e2:(Option.map Item.code (Option.map ck.code pe)).toList=qol pe:=by cases pe<;>rfl
     rw[e2]at hst;exact⟨pe,_,G2,{ a with defers:=mark++a.defers },_,h,(hr2.nx (k:=s1.nx+32) (Nat.le_add_right _ _)).setBox (bx' := .dead) hlk (show G2.at s.nx (.loop st pe f' n' fr' ps' tag' D')=some l from this) (fun c hc=>by cases hc) trivial i6,hsteps.trans (.one hst)⟩
    ·cases h
   ·cases hq
  ·cases hq
 ·cases hq
def zd8(ok:cx.Ok body)(hr:ai zpp zpk zpm G s a w){p:List Nat}{g:Operand}{ps:Array Tmp}{asn bo:Code}(hsub:sub body p = .rangeFunc g ps asn bo)
  {K:Option ck->St->Option R} {x:R} (h:rfR cx p g ps.toList s K=some x) {b:Frame} (cs:List Frame) (hb:b.fn=cx.f) (hkind:b.kind = .normal) (hrd:lj cx zpk zpm b) (k:List Item) :
  ∃j s' G' a' w',K j s'=some x/\ai zpp zpk zpm G' s' a' w'/\Steps cx.P (lone (b.atR a (.code (.rangeFunc g ps asn bo)::k)) cs w) (lone (b.atR a' (qol j++k)) cs w'):=by
 unfold rfR at h;split at h
 ·rename_i q hq;exact q2t ok hr hsub hq h cs hb hkind hrd k
 ·split at h
  ·rename_i s' hs';have:∃G',ai zpp zpk zpm G' s' a w:=by
    unfold q2u at hs';split at hs'
    ·split at hs'
     ·split at hs'
      ·have hs':=qJ hs';subst hs';obtain⟨G1,hr1⟩:=hr.frzL;exact hr1.coB
      ·cases hs'
     ·cases hs'
    ·cases hs'
   obtain⟨G',hr'⟩:=this;split at h
   ·rename_i q hq;exact q2t ok hr' hsub hq h cs hb hkind hrd k
   ·cases h
  ·cases h
def fk(cx:Cx)(zpm:List (Nat×ag)){R:Type}(enc:RS R)(k:List Item)(s:St)(r:R):Prop:=
 ∀(zpp:World)(zpk G:Gh)(a:Act)(w:World),ai zpp zpk zpm G s a w->∀(b:Frame)(cs:List Frame),b.fn=cx.f->b.kind = .normal->lj cx zpk zpm b ->
  qf cx.P b.roundOf cx.f (lone (b.atR a k) cs w) cs fun v w'=>∃G',Fin zpp zpk zpm G' (enc.res r).2 w'/\aj (enc.res r).1 G' v
def qgs(cx:Cx)(j:Option ck)(k:List Item):Prop:=match j with|none=>k=[]|some .ret=>∃k',k = .code .ret::k'|some (.exit id)=>cx.rd≠none/\∃k',k = .code (.exit id)::k'/\exitTo id k'=none
def qec(ok:cx.Ok body)(hid:∀n bx,ae zpm n=some bx->ap cx.ids n=some n){enc:RS R}{j:Option ck}{r:R}{k:List Item}(hk:qgs cx j k)(h:jb cx enc j s=some r):fk cx zpm enc k s r:=by
 intro zpp zpk G a w hr b cs hb hkind hrd;unfold jb at h;unfold lj at hrd;split at h
 ·rename_i hrdn;rw[hrdn]at hrd;simp only at hrd;split at h
  ·rename_i s' hs';have h1:Steps cx.P (lone (b.atR a k) cs w) (lone { b.atR a k with mode := .returning } cs w):=by
    cases j with
    |none=>simp only[qgs]at hk;subst hk;exact .one (stepR_end hrd)|some j=>cases j with
     |ret=>obtain⟨k',rfl⟩:=hk;exact .one (stepR_ret hrd)
     |exit id=>exact absurd hrdn hk.1
   obtain⟨w',i1,i2⟩:=qze (P:=cx.P) rfl hs' hr { b.atR a k with mode := .returning } cs rfl rfl
   obtain⟨u,u1,u2⟩:=qen (P:=cx.P) i1 hid h;rw[hrd];exact⟨u,w',_,u2,h1.trans i2,hb,rfl,rfl,hkind,cx.fn,by rw[← ok.func,← hb];rfl,u1⟩
  ·cases h
 ·rename_i m hrdm;rw[hrdm]at hrd;simp only at hrd;obtain⟨B,bx0,e1,e2,e3⟩:=hrd;cases hd:s.noDf<;>rw[hd]at h<;>simp only[qT,qF,reduceCtorEq]at h
  split at h
  ·rename_i st pe f n fr ps tag D hl;obtain⟨B',tmps,DB,i1,i2,⟨asn,bo,i3,i4⟩,i5,i6,i7⟩:=hr.fin.mem.holds _ _ hl;have:=hr.fin.keep m bx0 B e2 e1;rw[this]at i1;injection i1 with i1;subst i1
   have hend:=run_endRound (P:=cx.P) (j.map ck.code) i4;have hiso:(j.map ck.code).isNone=nv j:=by cases j<;>rfl
   rw[hiso]at hend;have hst:(if nv j=true then LoopState.ready else LoopState.done)=(bif nv j then LoopState.ready else LoopState.done):=by cases nv j<;>rfl
   rw[hst]at hend;have hr2:=hr.setBox (bx' := .loop (bif nv j then .ready else .done) j f n fr ps tag D) (o := .loop { state:=bif nv j then .ready else .done,pending:=j.map ck.code,fn:=f,tmps:=tmps,params:=ps.toArray,assign:=asn,body:=bo,defers:=DB }) hl (show G.box m=some B from this)
    (fun c hc=>by have hc:G.box m=some c:=hc;rw[this]at hc;injection hc with hc;exact hc.symm)
    ⟨B,tmps,DB,this,i2,⟨asn,bo,i3,by rw[World.putObj_heap_same (Array.getElem?_eq_some_iff.1 i4).1]⟩,i5,i6,i7⟩ i7
   have hfin:=qen (P:=cx.P) hr2 hid h;rw[e3];intro c cs' hcs;subst hcs;refine⟨.bool (nv j),_,hfin _ rfl,.one ?_⟩
   cases j with
   |none=>simp only[qgs]at hk;subst hk;exact stepR_round_end e3 hkind hend|some j=>cases j with
    |ret=>obtain⟨k',rfl⟩:=hk;exact stepR_round_ret e3 hkind hend
    |exit id=>obtain⟨_,k',rfl,hx⟩:=hk;exact stepR_round_exit e3 hkind hx hend
  ·cases h
end
section
variable{zpm:List (Nat×ag)}{s:St}{cx:Cx}{body:Code}{R:Type}{enc:RS R}
def fk.via{k k':List Item}{s':St}{r:R}(h:fk cx zpm enc k' s' r)(hs:∀zpp zpk G a w,ai zpp zpk zpm G s a w->∀(b:Frame)(cs:List Frame),b.fn=cx.f->b.kind = .normal->lj cx zpk zpm b ->
  ∃G' a' w',ai zpp zpk zpm G' s' a' w'/\Steps cx.P (lone (b.atR a k) cs w) (lone (b.atR a' k') cs w')):fk cx zpm enc k s r:=by
 intro zpp zpk G a w hr b cs hb hk hrd;obtain⟨G',a',w',h1,h2⟩:=hs zpp zpk G a w hr b cs hb hk hrd;exact(h zpp zpk G' a' w' h1 b cs hb hk hrd).head h2
def fk.one{k k':List Item}{r:R}(h:fk cx zpm enc k' s r)(hs:∀(a:Act)(w:World)(b:Frame)(cs:List Frame),step cx.P (lone (b.atR a k) cs w) = .next (lone (b.atR a k') cs w)):fk cx zpm enc k s r:=
 h.via fun _ _ G a w hr b cs _ _ _=>⟨G,a,w,hr,.one (hs a w b cs)⟩
def lh(cx:Cx)(zpm:List (Nat×ag)){R:Type}(enc:RS R)(body:Code)(l:dm R):Prop:=∀d r,l.F d=some r->fk cx zpm enc (cw (il body l.key)) (l.ls.st d) r
def qo7{ids:NM}{s:St}{k:List cr}:∀{ls:List (dm R)}{l:dm R},sh ids s k ls=some l->l∈ls/\vb l.key k=true
 |[],_,h=>by cases h
 |x::xs,l,h=>by
  simp only[sh]at h;cases hb:vb x.key k<;>rw[hb]at h<;>simp only[qT,qF]at h
  ·obtain⟨h1,h2⟩:=qo7 h;exact⟨qE _ h1,h2⟩
  ·split at h
   ·simp only[qI]at h;subst h;exact⟨qH,hb⟩
   ·rename_i l' hl;split at h
    ·simp only[qI]at h;subst h;exact⟨qH,hb⟩
    ·simp only[qI]at h;subst h;obtain⟨h1,h2⟩:=qo7 hl;exact⟨qE _ h1,h2⟩
def q1u{i:cr}{k:List cr}(h:∀x∈i::k,x.Ok body):i.Ok body/\∀x∈k,x.Ok body:=⟨h _ qH,fun x hx=>h x (qE _ hx)⟩
def gm{i:cr}{k:List cr}(h:i.Ok body)(k':∀x∈k,x.Ok body):∀x∈i::k,x.Ok body:=fun x hx=>by
 rcases List.mem_cons.1 hx with rfl|hx
 ·exact h
 ·exact k' x hx
def zap{kd:Nat}{p:List Nat}{c:Code}(h:(cr.mk kd p (.code c)).Ok body):sub body p=c:=zcb h
def lu{p:List Nat}{c:Code}(i:Nat){x:Code}(h:sub body p=c)(hc:nk i c=x):(cr.mk 0 (i::p) (.code x)).Ok body:=by
 show Item.code x = .code (nk i (sub body p));rw[h,hc]
def q95{p:List Nat}{id:Nat}{x:Code}(h:sub body p = .block id x):(cr.mk 1 p (.inBlock id)).Ok body:=by
 show Item.inBlock id=(match sub body p with | .block id _ => .inBlock id|c => .code c)
 rw[h]
def q01{p:List Nat}{x:Code}(h:sub body p = .loop x):(cr.mk 2 p (.inLoop x)).Ok body:=by
 show Item.inLoop x=(match sub body p with | .loop x => .inLoop x|c => .code c)
 rw[h]
def zev{P:Program}{b:Frame}{a:Act}{k:List Item}{cs:List Frame}{w:World}{x:Code}:step P (lone (b.atR a (.inScope x::k)) cs w) = .next (lone (b.atR a k) cs w):=
 step_lone_go (by simp[stepG,stepG.exec,Frame.atR])
def zew{P:Program}{b:Frame}{a:Act}{k:List Item}{cs:List Frame}{w:World}{c:Code} :
  step P (lone (b.atR a (.code (.scope c)::k)) cs w) = .next (lone (b.atR a (.code c :: .inScope c::k)) cs w):=
 step_lone_go (by simp[stepG,stepG.exec,Frame.atR])
def zem{p:List Nat}{x:Code}(h:sub body p = .scope x):(cr.mk 3 p (.inScope x)).Ok body:=by
 show Item.inScope x=(match sub body p with | .scope x => .inScope x|c => .code c)
 rw[h]
def qn3{id:Nat}:∀{k:List cr},kg id k=none->(∀i∈k,i.Ok body)->exitTo id (cw k)=none
 |[],_,_=>rfl|⟨kd,p,it⟩::k,h,hk=>by
  simp only[kg]at h;have hk':=(q1u hk).2;split at h
  ·rename_i id';split at h
   ·cases h
   ·rename_i he;simp only[cw,exitTo];rw[qW he];exact qn3 h hk'
  ·rename_i hne;have:=qn3 h hk';simp only[cw];cases it<;>first
    |(exfalso;exact hne _ rfl)
    |(simp only[exitTo];exact this)
abbrev IH(cx:Cx)(zpm:List (Nat×ag)){R:Type}(enc:RS R)(body:Code)(labs:List (dm R))(n:Nat):Prop:=
 ∀(chk:Bool)(k:List cr)(s:St)(r:R),(∀i∈k,i.Ok body)->run cx enc labs n chk k s=some r->fk cx zpm enc (cw k) s r
def sk(cx:Cx){R:Type}(enc:RS R)(labs:List (dm R))(n:Nat)(p:List Nat)(k':List cr)(s:St)(c:Code):Option R:=match c with
 |.skip=>run cx enc labs n true k' s|.label _=>run cx enc labs n true k' s|.seq x y=>run cx enc labs n true (⟨0,0::p,.code x⟩::⟨0,1::p,.code y⟩::k') s|.cond c x y=>match s.ev c with|some (.bool b)=>bif b then run cx enc labs n true (⟨0,0::p,.code x⟩::k') (s.know c true) else run cx enc labs n true (⟨0,1::p,.code y⟩::k') (s.know c false)|some (.val (.bool b))=>bif b then run cx enc labs n true (⟨0,0::p,.code x⟩::k') s else run cx enc labs n true (⟨0,1::p,.code y⟩::k') s|_=>none
 |.block id x=>run cx enc labs n true (⟨0,0::p,.code x⟩::⟨1,p,.inBlock id⟩::k') s|.loop x=>run cx enc labs n true (⟨0,0::p,.code x⟩::⟨2,p,.inLoop x⟩::k') s|.scope x=>run cx enc labs n true (⟨0,0::p,.code x⟩::⟨3,p,.inScope x⟩::k') s|.exit id=>match kg id k' with
  |some k''=>run cx enc labs n true k'' s|none=>match cx.rd with|some _=>jb cx enc (some (.exit id)) s|none=>none
 |.region _ ops d=>bif d then qnv cx.P cx.tb ops s (fun s'=>run cx enc labs n true k' s'.bump) else se cx.P cx.tb ops ops.toList s (fun s'=>run cx enc labs n true k' s'.bump)
 |.ret=>jb cx enc (some .ret) s|.rangeFunc g ps _ _=>rfR cx p g ps.toList s fun j s'=>match j with
  |none=>run cx enc labs n true k' s'|some .ret=>jb cx enc (some .ret) s'|some (.exit id)=>match kg id k' with
   |some k''=>run cx enc labs n true k'' s'|none=>match cx.rd with|some _=>jb cx enc (some (.exit id)) s'|none=>none
 |_=>none
def zed{labs:List (dm R)}{n:Nat}(ih:IH cx zpm enc body labs n){p:List Nat}{k':List cr}{c:Operand}{x y:Code}{r:R}(hsub:sub body p = .cond c x y)(hk':∀i∈k',i.Ok body)(h:sk cx enc labs n p k' s (.cond c x y)=some r):fk cx zpm enc (.code (.cond c x y)::cw k') s r:=by
 unfold sk at h;simp only at h;split at h
 ·rename_i t ht;cases t<;>simp only[qT,qF]at h
  ·refine(ih true _ _ r (gm (lu 1 hsub rfl) hk') h).via fun zpp zpk G a w hr b cs _ _ _ => ?_
   have he:a.eval c = .bool false:=aw hr ht;exact⟨G,a,w,hr.know he,.one (stepR_cond he)⟩
  ·refine(ih true _ _ r (gm (lu 0 hsub rfl) hk') h).via fun zpp zpk G a w hr b cs _ _ _ => ?_
   have he:a.eval c = .bool true:=aw hr ht;exact⟨G,a,w,hr.know he,.one (stepR_cond he)⟩
 ·rename_i t ht;cases t<;>simp only[qT,qF]at h
  ·refine(ih true _ _ r (gm (lu 1 hsub rfl) hk') h).via fun zpp zpk G a w hr b cs _ _ _ => ?_
   have he:a.eval c = .bool false:=aw hr ht;exact⟨G,a,w,hr,.one (stepR_cond he)⟩
  ·refine(ih true _ _ r (gm (lu 0 hsub rfl) hk') h).via fun zpp zpk G a w hr b cs _ _ _ => ?_
   have he:a.eval c = .bool true:=aw hr ht;exact⟨G,a,w,hr,.one (stepR_cond he)⟩
 ·cases h
def zei(ok:cx.Ok body){labs:List (dm R)}{n:Nat}(ih:IH cx zpm enc body labs n){p:List Nat}{k':List cr}{id:Nat}{ops:Array Oper}{d:Bool}{r:R}(hk':∀i∈k',i.Ok body)(h:sk cx enc labs n p k' s (.region id ops d)=some r):fk cx zpm enc (.code (.region id ops d)::cw k') s r:=by
 unfold sk at h;simp only at h;cases d<;>simp only[qT,qF]at h
 ·intro zpp zpk G a w hr b cs hb hkd hrd;have hops:=q1y (P:=cx.P) (ops:=ops) ok.ents (N:=fun a' w'=>qf cx.P b.roundOf cx.f (lone (b.atR a' (cw k')) cs w') cs fun v w'=>∃G',Fin zpp zpk zpm G' (enc.res r).2 w'/\aj (enc.res r).1 G' v)
   (fun s' h' G' a' w' hr'=>ih true k' s'.bump r hk' h' zpp zpk G' a' w' hr'.bump b cs hb hkd hrd) ops.toList 0 s G a w (fun j hj=>oC) h hr
  have e:List.range' 0 ops.toList.length=List.range ops.size:=by simp[List.range_eq_range']
  rw[e]at hops;obtain⟨a',w',h1,h2⟩:=zav (id:=id) hops b (cw k') cs hkd;exact h1.head h2
 ·intro zpp zpk G a w hr b cs hb hkd hrd;obtain⟨a',w',h1,h2⟩:=za9 (P:=cx.P) ok.ents ok.mixed h (N:=fun a' w'=>qf cx.P b.roundOf cx.f (lone (b.atR a' (cw k')) cs w') cs fun v w'=>∃G',Fin zpp zpk zpm G' (enc.res r).2 w'/\aj (enc.res r).1 G' v)
   (fun s' h' G' a' w' hr'=>ih true k' s'.bump r hk' h' zpp zpk G' a' w' hr'.bump b cs hb hkd hrd) hr id b (cw k') cs hkd
  exact h1.head h2
def q21(ok:cx.Ok body)(hid:∀n bx,ae zpm n=some bx->ap cx.ids n=some n){labs:List (dm R)}{n:Nat}(ih:IH cx zpm enc body labs n){k':List cr}{id:Nat}{r:R}(hk':∀i∈k',i.Ok body)
  (h:(match kg id k' with
   |some k''=>run cx enc labs n true k'' s|none=>match cx.rd with
    |some _=>jb cx enc (some (.exit id)) s| none=>none)=some r):fk cx zpm enc (.code (.exit id)::cw k') s r:=by
 split at h
 ·rename_i k'' hx;obtain⟨h1,h2⟩:=qn4 hx;exact(ih true k'' s r (fun i hi=>hk' i (h2 i hi)) h).one fun a w b cs=>stepR_exit h1
 ·rename_i hx;split at h
  ·rename_i m hm;exact qec ok hid (j:=some (.exit id)) ⟨by rw[hm];simp,_,rfl,qn3 hx hk'⟩ h
  ·cases h
def zeh(ok:cx.Ok body)(hid:∀n bx,ae zpm n=some bx->ap cx.ids n=some n){labs:List (dm R)}{n:Nat}(ih:IH cx zpm enc body labs n){p:List Nat}{k':List cr}{g:Operand}{ps:Array Tmp}{asn bo:Code}{r:R}(hsub:sub body p = .rangeFunc g ps asn bo)(hk':∀i∈k',i.Ok body)
  (h:sk cx enc labs n p k' s (.rangeFunc g ps asn bo)=some r):fk cx zpm enc (.code (.rangeFunc g ps asn bo)::cw k') s r:=by
 unfold sk at h;simp only at h;intro zpp zpk G a w hr b cs hb hkd hrd;obtain⟨j,s',G',a',w',h1,h2,h3⟩:=zd8 ok hr hsub h cs hb hkd hrd (cw k');refine qf.head h3 ?_
 cases j with
 |none=>exact ih true k' s' r hk' h1 zpp zpk G' a' w' h2 b cs hb hkd hrd|some j=>cases j with|ret=>exact qec ok hid (j:=some .ret) (k := .code .ret::cw k') ⟨_,rfl⟩ h1 zpp zpk G' a' w' h2 b cs hb hkd hrd|exit id=>exact q21 ok hid ih hk' h1 zpp zpk G' a' w' h2 b cs hb hkd hrd
def zec(ok:cx.Ok body)(hid:∀n bx,ae zpm n=some bx->ap cx.ids n=some n){labs:List (dm R)}{n:Nat}(ih:IH cx zpm enc body labs n){kd:Nat}{p:List Nat}{k':List cr}{c:Code}{r:R}(hi:(cr.mk kd p (.code c)).Ok body)(hk':∀i∈k',i.Ok body)
  (h:sk cx enc labs n p k' s c=some r):fk cx zpm enc (.code c::cw k') s r:=by
 have hsub:=zap hi
 cases c with
 |skip=>exact(ih true k' s r hk' h).one fun a w b cs=>stepR_skip
 |label l=>exact(ih true k' s r hk' h).one fun a w b cs=>stepR_label
 |seq x y=>exact(ih true _ s r (gm (lu 0 hsub rfl) (gm (lu 1 hsub rfl) hk')) h).one fun a w b cs=>stepR_seq
 |cond c x y=>exact zed ih hsub hk' h|block id x=>exact(ih true _ s r (gm (lu 0 hsub rfl) (gm (q95 hsub) hk')) h).one fun a w b cs=>stepR_block
 |loop x=>exact(ih true _ s r (gm (lu 0 hsub rfl) (gm (q01 hsub) hk')) h).one fun a w b cs=>stepR_loop
 |scope x=>exact(ih true _ s r (gm (lu 0 hsub rfl) (gm (zem hsub) hk')) h).one fun a w b cs=>zew
 |exit id=>exact q21 ok hid ih hk' h|region id ops d=>exact zei ok ih hk' h|ret=>exact qec ok hid (j:=some .ret) ⟨_,rfl⟩ h|rangeFunc g ps asn bo=>exact zeh ok hid ih hsub hk' h|_=>cases h
def zeb{labs:List (dm R)}{n:Nat}(ih:IH cx zpm enc body labs n){k':List cr}{r:R}(hk':∀i∈k',i.Ok body)
  (h:(match cx.rd with
   |some m=>match ae s.hp m with|some (.loop .ready pe f n' fr ps tag D)=>run cx enc labs n true k' { s with hp:=(m,.loop .busy pe f n' fr ps tag D)::s.hp }|_=>none
   | none=>none)=some r):fk cx zpm enc (.beginRound::cw k') s r:=by
 split at h
 ·rename_i m hm;split at h
  ·rename_i pe f n' fr ps tag D hl;refine(ih true k' _ r hk' h).via fun zpp zpk G a w hr b cs _ _ hrd => ?_
   unfold lj at hrd;rw[hm]at hrd;simp only at hrd;obtain⟨B,bx0,e1,e2,e3⟩:=hrd;obtain⟨B',tmps,DB,i1,i2,⟨asn,bo,i3,i4⟩,i5,i6,i7⟩:=hr.fin.mem.holds _ _ hl;have:=hr.fin.keep m bx0 B e2 e1;rw[this]at i1;injection i1 with i1;subst i1
   have hbr:=run_beginRound (P:=cx.P) i4 rfl;exact⟨G,a,_,hr.setBox (bx' := .loop .busy pe f n' fr ps tag D) hl (show G.box m=some B from this)
    (fun c hc=>by have hc:G.box m=some c:=hc;rw[this]at hc;injection hc with hc;exact hc.symm)
    ⟨B,tmps,DB,this,i2,⟨asn,bo,i3,by rw[World.putObj_heap_same (Array.getElem?_eq_some_iff.1 i4).1]⟩,i5,i6,i7⟩ i7,.one (stepR_beginRound e3 hbr)⟩
  ·cases h
 ·cases h
def qpn(ok:cx.Ok body)(hid:∀n bx,ae zpm n=some bx->ap cx.ids n=some n){labs:List (dm R)}(hlab:∀l∈labs,lh cx zpm enc body l) :
  ∀(n:Nat)(chk:Bool)(k:List cr)(s:St)(r:R),(∀i∈k,i.Ok body)->run cx enc labs n chk k s=some r->fk cx zpm enc (cw k) s r:=by
 intro n
 induction n with
 |zero=>intro chk k s r _ h;cases h
 |succ n ih=>
  intro chk k s r hk h;unfold run at h
  cases hl:(bif chk then sh cx.ids s k labs else none) with
  |some lab=>
   rw[hl]at h;have hl:sh cx.ids s k labs=some lab:=by cases chk<;>simp only[qT,qF,reduceCtorEq]at hl;exact hl
   obtain⟨hm,hkey⟩:=qo7 hl;simp only at h;split at h
   ·rename_i d hd;have hg:=hlab lab hm d r h;rw[qzw hkey hk]at hg;refine hg.via fun zpp zpk G a w hr b cs _ _ _ => ?_
    obtain⟨G1,hr1⟩:=hr.co lab.ls cx.ids;obtain⟨G2,hr2⟩:=hr1.fit hid hd;exact⟨G2,a,w,hr2,.refl _ _⟩
   ·cases h
  |none=>
   rw[hl]at h;simp only at h;clear hl
   cases k with
   |nil=>exact qec ok hid (by rfl) h|cons i k'=>
    obtain⟨kd,p,it⟩:=i;obtain⟨hi,hk'⟩:=q1u hk;clear hk
    cases it with
    |code c=>exact zec ok hid ih hi hk' h|inBlock id=>exact(ih true k' s r hk' h).one fun a w b cs=>stepR_inBlock
    |inScope id=>exact(ih true k' s r hk' h).one fun a w b cs=>zev
    |inLoop x=>
     have hsub:sub body p = .loop x:=zcc hi;exact(ih true _ s r (gm (lu 0 hsub rfl) (gm (q01 hsub) hk')) h).one fun a w b cs=>stepR_inLoop
    |beginRound=>exact zeb ih hk' h|_=>cases h
end
def St.reCell(s:St)(b off:Nat):St:=
 match ae s.hp b with
 |some (.cells cs T)=>match cs[off]? with
  |some (.own k)=>match ae s.hp k with|some (.row τ l E)=>bif aq s.nx s.hp then{ s with hp:=(b,.cells (cs.set off (.own s.nx)) T)::(s.nx,.row τ l E)::(k,.dead)::s.hp,nx:=s.nx+32 } else s|_=>s
  |_=>s
 |_=>s
def qe3:Pt->Bool|.own _=>true|_=>false
def reB1(b:Nat):List Pt->Nat->St->St|[],_,s=>s|p::ps,off,s=>reB1 b ps (off+1) (bif qe3 p then s.reCell b off else s)
def reB:List (Nat×ar)->St->St
 |[],s=>s|(n,p)::r,s=>match p with|.cells ps _=>reB r (reB1 n ps 0 s)|_=>reB r s
def St.reSlot(s:St)(i:Nat):St:=
 match ae s.fr i with
 |some (.own k)=>match ae s.hp k with|some (.row τ l E)=>bif aq s.nx s.hp&&Nat.blt i s.n then{ s with fr:=(i,.own s.nx)::s.fr,hp:=(s.nx,.row τ l E)::(k,.dead)::s.hp,nx:=s.nx+32 } else s|_=>s
 |_=>s
def reA:List Pt->Nat->St->St|[],_,s=>s|p::ps,i,s=>reA ps (i+1) (bif qe3 p then s.reSlot i else s)
section
variable{zpp:World}{zpk:Gh}{zpm:List (Nat×ag)}{G:Gh}{s:St}{a:Act}{w:World}
def Fin.rename{hp:List (Nat×ag)}(hf:Fin zpp zpk zpm G hp w){k k':Nat}{τ:Ty}{l:List τ.den}{E:TypeId}{v:Option Addr×Nat×Nat}(hk:ae hp k=some (.row τ l E))(hk':ae hp k'=none)(hfr:G.own k'=none)(ho:G.own k=some v) :
  Fin zpp zpk zpm (G.addOwn k' v) ((k',.row τ l E)::(k,.dead)::hp) w:=by
 have hle:G.le (G.addOwn k' v):=Gh.addOwn_le hfr;have hlk:∀m b,ae ((k',ag.row τ l E)::(k,.dead)::hp) m=some b->(m=k'/\b = .row τ l E)\/b = .dead\/(m≠k/\ae hp m=some b):=fun m b h=>by
  simp[ae]at h;cases hb:Nat.beq k' m
  ·rw[hb]at h;cases hb2:Nat.beq k m
   ·rw[hb2]at h;exact .inr (.inr ⟨fun e=>by subst e;simp at hb2,h⟩)
   ·rw[hb2]at h;simp at h;exact .inr (.inl h.symm)
  ·rw[hb]at h;simp at h;exact .inl ⟨(qN hb).symm,h.symm⟩
 have hat:(G.addOwn k' v).at k' (.row τ l E)=G.at k (.row τ l E):=by simp[Gh.at,Gh.addOwn_self,ho]
 refine⟨⟨hf.mem.agree,hf.mem.one,?_,?_,hf.mem.tab⟩,hf.bel,hf.imm_le,hf.imm_new,?_,fun n bx B h1 h2=>hle.box _ _ (hf.keep n bx B h1 h2),fun n bx B h1 h2=>hle.own _ _ (hf.keepOwn n bx B h1 h2)⟩
 ·intro m b h;rcases hlk m b h with⟨rfl,rfl⟩|rfl|⟨_,h⟩
  ·obtain⟨ad,c,i1,i2⟩:=hf.mem.holds k _ hk;rw[ho]at i1;injection i1 with i1;subst i1
   exact⟨ad,c,Gh.addOwn_self,i2⟩
  ·trivial
  ·exact(hf.mem.holds m b h).mono hle (fun _ _=>rfl) (fun _ _ _ h => .inl h)
 ·intro m m' b b' c h1 h2 h3 h4;rcases hlk m b h1 with⟨rfl,rfl⟩|rfl|⟨n1,g1⟩<;>rcases hlk m' b' h2 with⟨e2,rfl⟩|rfl|⟨n2,g2⟩
  ·exact e2.symm
  ·cases h4
  ·rw[hat]at h3;rw[(hf.mem.holds m' b' g2).at_le hle]at h4;exact absurd (hf.mem.apart m' k b' _ c g2 hk h4 h3) n2
  ·cases h3
  ·cases h3
  ·cases h3
  ·subst e2;rw[hat]at h4;rw[(hf.mem.holds m b g1).at_le hle]at h3;exact absurd (hf.mem.apart m k b _ c g1 hk h3 h4) n1
  ·cases h4
  ·rw[(hf.mem.holds m b g1).at_le hle]at h3;rw[(hf.mem.holds m' b' g2).at_le hle]at h4;exact hf.mem.apart m m' b b' c g1 g2 h3 h4
 ·intro m b c h1 h2;rcases hlk m b h1 with⟨rfl,rfl⟩|rfl|⟨n1,h1⟩
  ·rw[hat]at h2;exact hf.base k _ c hk h2
  ·cases h2
  ·rw[(hf.mem.holds m b h1).at_le hle]at h2;exact hf.base m b c h1 h2
def ai.reCell(hr:ai zpp zpk zpm G s a w)(b off:Nat):∃G',ai zpp zpk zpm G' (s.reCell b off) a w:=by
 unfold St.reCell;split
 ·rename_i cs T hb0;split
  ·rename_i k hx0;split
   ·rename_i τ l E hk0;cases hn:aq s.nx s.hp
    ·exact⟨G,hr⟩
    ·simp;have hk:=gq hn s.nx (wF _) oA
     obtain⟨ad,c,i1,_⟩:=hr.fin.mem.holds k _ hk0;have hfresh:=hr.fresh s.nx (wF _) hk;have hle:G.le (G.addOwn s.nx (ad,l.length,c)):=Gh.addOwn_le hfresh.2;have hf:=hr.fin.rename hk0 hk hfresh.2 i1;have hne:s.nx≠b:=fun e=>by rw[e,hb0]at hk;cases hk
     have hne2:k≠b:=fun e=>by rw[e,hb0]at hk0;cases hk0
     have hb1:ae ((s.nx,ag.row τ l E)::(k,.dead)::s.hp) b=some (.cells cs T):=by
      simp[ae];cases hq:Nat.beq s.nx b
      ·cases hq2:Nat.beq k b
       ·exact hb0
       ·exact absurd (qN hq2) hne2
      ·exact absurd (qN hq) hne
     obtain⟨B,vs,k1,k2,k3,k4,k5⟩:=hf.mem.holds _ _ hb1;have hv:vs.toList[off]? = some (.slice ad l.length c):=by
      obtain⟨v,h1,h2⟩:=fh k3 hx0;obtain⟨a',n',c',q1,q2⟩:=h2;rw[hle.own _ _ i1]at q1;simp at q1;obtain⟨rfl,rfl,rfl⟩:=q1;subst q2;exact h1
     have hset:vs.toList.set off (.slice ad l.length c)=vs.toList:=by
      obtain⟨hlt,he⟩:=List.getElem?_eq_some_iff.1 hv;rw[← he,List.set_getElem_self]
     refine⟨G.addOwn s.nx (ad,l.length,c),⟨by obtain⟨bs,q1,q2⟩:=hr.defers;exact⟨bs,q1,lx hle.box q2⟩,hr.size,fun j x hx=>by obtain⟨v,h1,h2⟩:=hr.frame j x hx;exact⟨v,h1,h2.le hle⟩,fun m hm hl => ?_,?_⟩⟩
     ·simp only at hm;have hmn:s.nx≠m:=oA
      simp[ae]at hl;cases hq:Nat.beq b m<;>rw[hq]at hl<;>simp at hl
      cases hq1:Nat.beq s.nx m<;>rw[hq1]at hl<;>simp at hl
      cases hq2:Nat.beq k m<;>rw[hq2]at hl<;>simp at hl
      obtain⟨h1,h2⟩:=hr.fresh m oA hl
      refine⟨h1,?_⟩;show(bif Nat.beq m s.nx then some _ else G.own m)=none
      cases hbm:Nat.beq m s.nx
      ·exact h2
      ·exact absurd (qN hbm).symm hmn
     ·refine hf.update (bx := .cells cs T) (bx' := .cells (cs.set off (.own s.nx)) T) hb1 (B:=B) k1 k1 ⟨rfl,rfl,rfl,wF _,fun _ _ _=>rfl⟩ ⟨B,vs,k1,k2,?_,k4,k5⟩ k5
      have:=qau off k3 (x := .own s.nx) (v := .slice ad l.length c) ⟨ad,l.length,c,Gh.addOwn_self,rfl⟩
      rwa [hset]at this
   ·exact⟨G,hr⟩
  ·exact⟨G,hr⟩
 ·exact⟨G,hr⟩
def ai.reSlot(hr:ai zpp zpk zpm G s a w)(i:Nat):∃G',ai zpp zpk zpm G' (s.reSlot i) a w:=by
 unfold St.reSlot;split
 ·rename_i k hx0;split
  ·rename_i τ l E hk0;cases hn:aq s.nx s.hp&&Nat.blt i s.n
   ·exact⟨G,hr⟩
   ·simp;simp at hn;have hk:=gq hn.1 s.nx (wF _) oA
    obtain⟨ad,c,i1,_⟩:=hr.fin.mem.holds k _ hk0;have hfresh:=hr.fresh s.nx (wF _) hk;have hle:G.le (G.addOwn s.nx (ad,l.length,c)):=Gh.addOwn_le hfresh.2;refine⟨G.addOwn s.nx (ad,l.length,c),⟨by obtain⟨bs,q1,q2⟩:=hr.defers;exact⟨bs,q1,lx hle.box q2⟩,hr.size,fun j x hx => ?_,fun m hm hl => ?_,hr.fin.rename hk0 hk hfresh.2 i1⟩⟩
    ·simp[ae]at hx;cases hq:Nat.beq i j
     ·rw[hq]at hx;obtain⟨v,h1,h2⟩:=hr.frame j x hx;exact⟨v,h1,h2.le hle⟩
     ·rw[hq]at hx;simp at hx;subst hx;have:=qN hq;subst this;obtain⟨v,h1,a',n',c',q1,q2⟩:=hr.frame i _ hx0;rw[i1]at q1;simp at q1;obtain⟨rfl,rfl,rfl⟩:=q1;exact⟨v,h1,ad,l.length,c,Gh.addOwn_self,q2⟩
    ·simp only at hm;have hmn:s.nx≠m:=oA
     simp[ae]at hl;cases hq1:Nat.beq s.nx m<;>rw[hq1]at hl<;>simp at hl
     cases hq2:Nat.beq k m<;>rw[hq2]at hl<;>simp at hl
     obtain⟨h1,h2⟩:=hr.fresh m oA hl
     refine⟨h1,?_⟩;show(bif Nat.beq m s.nx then some _ else G.own m)=none
     cases hbm:Nat.beq m s.nx
     ·exact h2
     ·exact absurd (qN hbm).symm hmn
  ·exact⟨G,hr⟩
 ·exact⟨G,hr⟩
def ai.reA:∀{ps:List Pt}{i:Nat}{s:St}{G:Gh},ai zpp zpk zpm G s a w->∃G',ai zpp zpk zpm G' (reA ps i s) a w
 |[],_,s,G,hr=>⟨G,hr⟩|p::ps,i,s,G,hr=>by
  unfold Sym.reA;cases qe3 p
  ·exact ai.reA hr
  ·obtain⟨G',hr'⟩:=hr.reSlot i;exact ai.reA hr'
def ai.reB1{b:Nat}:∀{ps:List Pt}{off:Nat}{s:St}{G:Gh},ai zpp zpk zpm G s a w->∃G',ai zpp zpk zpm G' (reB1 b ps off s) a w
 |[],_,s,G,hr=>⟨G,hr⟩|p::ps,off,s,G,hr=>by
  unfold Sym.reB1;cases qe3 p
  ·exact ai.reB1 hr
  ·obtain⟨G',hr'⟩:=hr.reCell b off;exact ai.reB1 hr'
def ai.reB:∀{l:List (Nat×ar)}{s:St}{G:Gh},ai zpp zpk zpm G s a w->∃G',ai zpp zpk zpm G' (reB l s) a w
 |[],s,G,hr=>⟨G,hr⟩|(n,p)::r,s,G,hr=>by
  unfold Sym.reB;split
  ·obtain⟨G',hr'⟩:=hr.reB1;exact ai.reB hr'
  ·exact ai.reB hr
end
def c8:List (Nat×ar)->NM|[]=>[]|(n,_)::r=>(n,n)::c8 r
def fq(N:NM)(n:Nat):Bool:=match ao N n with|some m=>Nat.beq m n|none=>false
def pb{N:NM}{n:Nat}(h:fq N n=true):ao N n=some n:=by
 unfold fq at h;split at h
 ·rename_i m hm;have:=qN h;subst this;exact hm
 ·cases h
mutual
def qpa(N:NM):Pt->Bool|.agg ps=>kv N ps|.tup ps=>kv N ps|.ptr b _=>fq N b|.own k=>fq N k|.el k _=>fq N k|.iel _ k _=>fq N k|.yld k=>fq N k|.pn k=>fq N k|.fn _ ps=>kv N ps|_=>true
def kv(N:NM):List Pt->Bool|[]=>true|p::ps=>qpa N p&&kv N ps
end
def q9v{ρ:Nat->Option Nat}:∀{τ:Ty}{d:τ.den},(τ.av d).ren ρ=τ.av d|.int _,_=>rfl|.byte,_=>rfl|.bool,_=>rfl|.str,_=>rfl|.unit,_=>rfl|.list _,_=>rfl|.prod a b,d=>by show AV.agg (AV.rens ρ ((Ty.prod a b).enc d))=_;rw[Ty.enc_ren];rfl|.tree a,d=>by show AV.agg (AV.rens ρ ((Ty.tree a).enc d))=_;rw[Ty.enc_ren];rfl
mutual
def q18{N:NM}:∀{p:Pt}{d:p.den},qpa N p=true->(p.put d).ren (ao N)=p.put d|.h τ,d,_=>q9v|.c _,_,_=>rfl|.agg ps,d,h=>congrArg AV.agg (si (ps:=ps) (d:=d) h)|.tup ps,d,h=>congrArg AV.tup (si (ps:=ps) (d:=d) h)|.ptr b off,_,h=>by show AV.ren (ao N) (.ptr b off)=_;simp[AV.ren,pb (show fq N b=true from h)];rfl|.own k,_,h=>by show AV.ren (ao N) (.own k)=_;simp[AV.ren,pb (show fq N k=true from h)];rfl|.arr _,_,_=>rfl|.el k sz,_,h=>by show AV.ren (ao N) (.oel k sz 0 0)=_;simp[AV.ren,pb (show fq N k=true from h)];rfl|.iel t k sz,_,h=>by show AV.ren (ao N) (.iface t (.oel k sz 0 0))=_;simp[AV.ren,pb (show fq N k=true from h)];rfl|.yld k,_,h=>by show AV.ren (ao N) (.yld k)=_;simp[AV.ren,pb (show fq N k=true from h)];rfl|.pn k,_,h=>by show AV.ren (ao N) (.pn k)=_;simp[AV.ren,pb (show fq N k=true from h)];rfl|.fn f ps,d,h=>congrArg (AV.fn (.func f) []) (si (ps:=ps) (d:=d) h)|.u,_,_=>rfl
def si{N:NM}:∀{ps:List Pt}{d:Pts.den ps},kv N ps=true->AV.rens (ao N) (Pts.put ps d)=Pts.put ps d
 |[],_,_=>rfl|p::ps,d,h=>by
  simp[kv,qA]at h;have h1:=q18 (p:=p) (d:=d.1) h.1;have h2:=si (ps:=ps) (d:=d.2) h.2;show AV.ren (ao N) (p.put d.1)::AV.rens (ao N) (Pts.put ps d.2)=p.put d.1::Pts.put ps d.2;rw[h1,h2]
end
def fIn(N:NM):List (Nat×Pt)->Bool|[]=>true|(_,p)::r=>qpa N p&&fIn N r
def q0f{N:NM}:∀{l:List (Nat×Pt)}{d:kh l},fIn N l=true->jf (ao N) (f4 l d)=f4 l d
 |[],_,_=>rfl|(i,p)::r,d,h=>by
  simp[fIn,qA]at h;have h1:=q18 (p:=p) (d:=d.1) h.1;have h2:=q0f (l:=r) (d:=d.2) h.2;show(i,AV.ren (ao N) (p.put d.1))::jf (ao N) (f4 r d.2)=(i,p.put d.1)::f4 r d.2;rw[h1,h2]
def qm9(N:NM):ar->Bool|.cells ps _=>kv N ps|.loop _ _ _ _ fr _ _ D=>fq N D&&fIn N fr|_=>true
def qv(N:NM):List (Nat×ar)->Bool|[]=>true|(n,p)::r=>fq N n&&qm9 N p&&qv N r
def q97{N:NM}:∀{p:ar}{d:p.den},qm9 N p=true->cq (ao N) (p.put d)=p.put d
 |.cells ps T,d,h=>congrArg (fun l=>ag.cells l T) (si (ps:=ps) (d:=d) h)
 |.row _ _,_,_=>rfl|.loop st pe f n fr ps tag D,d,h=>by
  simp[qm9,qA]at h;have h2:=q0f (l:=fr) (d:=d) h.2;have h3:cq (ao N) (.loop st pe f n (f4 fr d) ps tag D) = .loop st pe f n (jf (ao N) (f4 fr d)) ps tag D:=by simp[cq,pb h.1]
  exact h3.trans (congrArg (fun l=>ag.loop st pe f n l ps tag D) h2)
 |.dfr,_,_=>rfl|.it,_,_=>rfl|.dead,_,_=>rfl|.dat τ T,d,_=>congrArg (fun l=>ag.cells l T) (Ty.enc_ren (ao N) τ d)
def qmz{N:NM}:∀{l:List (Nat×ar)}{d:dx l},qv N l=true->∀n b,ae (bi l d) n=some b->ao N n=some n/\cq (ao N) b=b
 |[],_,_,_,_,h=>by cases h
 |(m,p)::r,d,h,n,b,hl=>by
  simp[qv,qA]at h;have hl:(bif Nat.beq m n then some (p.put d.1) else ae (bi r d.2) n)=some b:=hl
  cases hb:Nat.beq m n
  ·rw[hb]at hl;exact qmz (d:=d.2) h.2 n b hl
  ·rw[hb]at hl;have:=qN hb;subst this;simp at hl;subst hl;exact⟨pb h.1.1,q97 h.1.2⟩
def bj.only{G:Gh}{hp:List (Nat×ag)}{w:World}{N:NM}(hm:bj G hp w)(h:∀n b,ae hp n=some b->ao N n=some n/\cq (ao N) b=b):bj (G.view N) hp w:=by
 have hb:∀n b,ae hp n=some b->(G.view N).box n=G.box n/\(G.view N).own n=G.own n:=fun n b hl=>by
  have:=mb (h n b hl).1;exact⟨by simp[Gh.view,this],by simp[Gh.view,this]⟩
 have hat:∀n b c,ae hp n=some b->(G.view N).at n b=some c->G.at n b=some c:=fun n b c hl hc=>by
  have:=(h n b hl).2;exact ln (G:=G) (G':=G.view N) (ρ:=ao N) (hb n b hl).1 (hb n b hl).2 (by rw[this];exact hc)
 refine⟨hm.agree,hm.one,fun n b hl => ?_,fun n m b b' c h1 h2 h3 h4=>hm.apart n m b b' c h1 h2 (hat _ _ _ h1 h3) (hat _ _ _ h2 h4),hm.tab⟩
 have:=b9.ren (G:=G) (G':=G.view N) (ρ:=ao N) (n:=n) (m:=n) (fun _ _ _ h=>h) (fun _ _ _ h=>h) (mg N) (od N) (fun B hB=>by rw[(hb n b hl).1];exact hB) (fun B hB=>by rw[(hb n b hl).2];exact hB) (hm.holds n b hl)
 rw[(h n b hl).2]at this;exact this
def Fin.only{G G':Gh}{hp hp':List (Nat×ag)}{w w':World}{N:NM}(h:∀n b,ae hp n=some b->ao N n=some n/\cq (ao N) b=b)(hf:Fin w (G.view N) hp G' hp' w'):Fin w G hp G' hp' w':=by
 have hb:∀n b,ae hp n=some b->(G.view N).box n=G.box n/\(G.view N).own n=G.own n:=fun n b hl=>by
  have:=mb (h n b hl).1;exact⟨by simp[Gh.view,this],by simp[Gh.view,this]⟩
 have hblk:∀c,jw (G.view N) hp c->jw G hp c:=fun c⟨n,b,h1,h2⟩=>⟨n,b,h1,ln (G:=G) (G':=G.view N) (ρ:=ao N) (hb n b h1).1 (hb n b h1).2 (by rw[(h n b h1).2];exact h2)⟩
 refine⟨hf.mem,⟨hf.bel.os,hf.bel.tape,hf.bel.output,hf.bel.size,fun k hk hS=>hf.bel.block k hk fun hx=>hS (hblk k hx)⟩,hf.imm_le,fun b o v hv => ?_,fun n b c h1 h2 => ?_,fun n b B h1 h2=>hf.keep n b B h1 (by rw[(hb n b h1).1];exact h2),fun n b B h1 h2=>hf.keepOwn n b B h1 (by rw[(hb n b h1).2];exact h2)⟩
 ·rcases hf.imm_new b o v hv with h|h|h
  ·exact .inl h
  ·exact .inr (.inl h)
  ·exact .inr (.inr (hblk _ h))
 ·rcases hf.base n b c h1 h2 with h|h
  ·exact .inl h
  ·exact .inr (hblk _ h)
def qaf:List AV->Nat->List (Nat×AV)|[],_=>[]|x::xs,i=>(i,x)::qaf xs (i+1)
def q0o:∀{xs:List AV}{G:Gh}{vs:List Value}(i:Nat),ak xs G vs->∀j x,ae (qaf xs i) j=some x->i<=j/\∃v,vs[j-i]? = some v/\aj x G v
 |[],_,[],_,_,j,x,h=>by cases h
 |x::xs,G,v::vs,i,hr,j,y,h=>by
  simp[qaf,ae]at h;cases hb:Nat.beq i j
  ·rw[hb]at h;obtain⟨h1,u,h2,h3⟩:=q0o (i+1) hr.2 j y h;refine⟨oA,u,?_,h3⟩
   rw[show j-i=(j-(i+1))+1 by omega];simpa using h2
  ·rw[hb]at h;have:=qN hb;subst this;simp at h;subst h;exact⟨wF _,v,oC,hr.1⟩
 |[],_,_::_,_,h,_,_,_=>h.elim|_::_,_,[],_,h,_,_,_=>h.elim
def uh{G:Gh}{w:World}{hp:List (Nat×ag)}(hm:bj G hp w):Fin w G hp G hp w:=
 ⟨hm,⟨rfl,rfl,rfl,wF _,fun _ _ _=>rfl⟩,fun _ _ _ h=>h,fun _ _ _ h => .inl h,fun n bx _b h1 h2 => .inr ⟨n,bx,h1,h2⟩,fun _ _ _ _ h=>h,fun _ _ _ _ h=>h⟩
def NX:Nat:=64
def qpl(cx:Cx)(body:Code){R:Type}(enc:RS R)(labs:List (dm R))(asn:List Pt)(pts:List (Nat×ar))(xs:List AV)(hp:List (Nat×ag)):Option R:=
 run cx enc labs 1000000 true [⟨0,[],.code body⟩] (reB pts (reA (bif cx.tb.sub then asn else[]) 0 { n:=cx.fn.ntmps,fr:=qaf xs 0,hp:=hp,nx:=NX,df:=[] }))
def qer(cx:Cx)(args:List Pt)(hp:List (Nat×ar)):Bool:=kv (c8 hp) args&&qv (c8 hp) hp&&Nat.ble args.length cx.fn.ntmps
def qe0:∀{l:List (Nat×ar)}{d:dx l}{n:Nat}{b:ag},ae (bi l d) n=some b->ap (c8 l) n=some n
 |[],_,_,_,h=>by cases h
 |(m,p)::r,d,n,b,h=>by
  have h:(bif Nat.beq m n then some (p.put d.1) else ae (bi r d.2) n)=some b:=h
  simp[c8,ap];cases hb:Nat.beq m n
  ·rw[hb]at h;exact qe0 (d:=d.2) h
  ·have:=qN hb;subst this;rfl
def qo0{m:Nat}:∀{l:List (Nat×ar)}{d:dx l},ae (bi l d) m=none->ap (c8 l) m=none
 |[],_,_=>rfl|(n,p)::r,d,h=>by
  have h:(bif Nat.beq n m then some (p.put d.1) else ae (bi r d.2) m)=none:=h
  simp[c8,ap];cases hb:Nat.beq n m
  ·rw[hb]at h;exact qo0 (d:=d.2) h
  ·rw[hb]at h;cases h
def q19:∀{ps:List Pt}{d:Pts.den ps},(Pts.put ps d).length=ps.length|[],_=>rfl|p::ps,d=>by show(p.put d.1::Pts.put ps d.2).length=_;simp[q19]
def cm.sound_fn{e:cm}{cx:Cx}{body:Code}{labs:List (dm e.R)}(ok:cx.Ok body)(hkey:e.key = .fn cx.f)(hbody:cx.fn.body=some body)(hrd:cx.rd=none)(hids:cx.ids=c8 e.hp)(hpl:li cx.P cx.f)
  (hfine:qer cx e.args e.hp=true) (hlab:∀d',∀l∈labs,lh cx (bi e.hp d') e.out body l) (hF:∀d d',qpl cx body e.out labs e.args e.hp (Pts.put e.args d) (bi e.hp d')=e.F d d'):e.Sound cx.P:=by
 intro d d' r hr;rw[hkey];refine⟨hpl,fun w G vs hm hreps => ?_⟩
 simp only[qer,qA]at hfine;obtain⟨⟨f1,f2⟩,f3⟩:=hfine;have f3:=Nat.le_of_ble_eq_true f3;have hin:=qmz (d:=d') f2;have hm':=hm.only hin;have hreps':ak (Pts.put e.args d) (G.view (c8 e.hp)) vs:=by
  have:=ak.ren (ρ:=ao (c8 e.hp)) (G:=G) (G':=G.view (c8 e.hp)) (fun _ _ _ h=>h) (mg _) (od _) hreps
  rwa [si f1]at this
 have hlv:=hreps.length;rw[q19]at hlv;have hrun:=hF d d';rw[hr]at hrun;have hg:=qpn (enc:=e.out) ok (zpm:=bi e.hp d') (fun n bx h=>by rw[hids];exact qe0 h) (hlab d') _ _ _ _ _ (fun i hi=>by
  rcases List.mem_cons.1 hi with rfl|hi
  ·rfl
  ·cases hi) hrun
 have hr0:ai w (G.view (c8 e.hp)) (bi e.hp d') (G.view (c8 e.hp)) { n:=cx.fn.ntmps,fr:=qaf (Pts.put e.args d) 0,hp:=bi e.hp d',nx:=NX,df:=[] } { tmps:=vs.toArray++Array.replicate (cx.fn.ntmps-vs.toArray.size) undef,defers:=[] } w:=by
  refine⟨⟨[],rfl,rfl⟩,oD,fun i x hx => ?_,fun m _ hl => ?_,uh hm'⟩
  ·obtain⟨_,v,h2,h3⟩:=q0o 0 hreps' i x hx;refine⟨v,?_,h3⟩;have hlt:i<vs.length:=by have:=(List.getElem?_eq_some_iff.1 h2).1;simpa using this
   rw[Array.getElem?_append_left (by simpa using hlt)]
   simpa using h2
  ·have:ap (c8 e.hp) m=none:=qo0 hl;simp[Gh.view,this]
 obtain⟨G0,hr0'⟩:=hr0.reA (ps:=bif cx.tb.sub then e.args else[]) (i:=0)
 obtain⟨G1,hr1⟩:=hr0'.reB (l:=e.hp);intro cs
 let b:Frame:={ (default:Frame) with fn:=cx.f,kind := .normal }
 have henter:Frame.enter cx.P cx.f vs.toArray .normal=b.atR { tmps:=vs.toArray++Array.replicate (cx.fn.ntmps-vs.toArray.size) undef,defers:=[] } [.code body]:=by
  simp[Frame.enter,Frame.atR,ok.func,hbody,b];rfl
 have:=hg w _ _ _ w hr1 b cs rfl rfl (by unfold lj;rw[hrd];rfl)
 obtain⟨v,w',fr,⟨G',h1,h2⟩,h3,h4,h5⟩:=this;exact⟨.returned v,w',fr,⟨v,G',rfl,h1.only hin,h2⟩,by rw[henter];exact h3,h4,h5⟩
def qfm:List Tmp->List AV->List (Nat×AV)->List (Nat×AV)|p::ps,x::xs,fr=>qfm ps xs ((p,x)::fr)|_,_,fr=>fr
def zd(n:Nat):List Nat->Bool|[]=>true|p::ps=>Nat.blt p n&&zd n ps
def q2a{G:Gh}{n:Nat}:∀{ps:List Tmp}{xs:List AV}{vs:List Value}{fr:List (Nat×AV)}{tmps:Array Value},zd n ps=true->tmps.size=n->ps.length=xs.length->ak xs G vs->(∀i x,ae fr i=some x->∃v,tmps[i]? = some v/\aj x G v) ->
  ((ps.zip vs).foldl (fun(tmps:Array Value)(q:Tmp×Value)=>tmps.setIfInBounds q.1 q.2) tmps).size=n/\∀i x,ae (qfm ps xs fr) i=some x->∃v,((ps.zip vs).foldl (fun(tmps:Array Value)(q:Tmp×Value)=>tmps.setIfInBounds q.1 q.2) tmps)[i]? = some v/\aj x G v
 |[],[],[],fr,tmps,_,hn,_,_,hfr=>⟨hn,hfr⟩|p::ps,x::xs,v::vs,fr,tmps,hlt,hn,hl,hr,hfr=>by
  simp[zd,qA]at hlt;have hp:p<n:=by have:=hlt.1;simpa using this
  simp;refine q2a hlt.2 (by simp[hn]) (by simpa using hl) hr.2 (fun i y hy => ?_)
  simp[ae]at hy;cases he:Nat.beq p i
  ·rw[he]at hy;simp at hy;have hne:p≠i:=fun e=>by subst e;simp at he
   obtain⟨u,h1,h2⟩:=hfr i y hy;exact⟨u,by simp[hne,h1],h2⟩
  ·rw[he]at hy;simp at hy;subst hy;have:=qN he;subst this;exact⟨v,by simp[hn,hp],hr.1⟩
 |[],_::_,_,_,_,_,_,h,_,_=>by simp at h|_::_,[],_,_,_,_,_,h,_,_=>by simp at h|[],[],_::_,_,_,_,_,_,h,_=>h.elim|_::_,_::_,[],_,_,_,_,_,h,_=>h.elim
def pu(cx:Cx)(body:Code)(p:List Nat)(m:Nat){R:Type}(enc:RS R)(labs:List (dm R))(pts:List (Nat×ar))(xs:List AV)(hp:List (Nat×ag)):Option R:=
 match ae hp m with
 |some (.loop .ready none f n fr ps tag _)=>bif Nat.beq f cx.f&&zd n ps&&eqLen ps xs&&tagIs tag p cx.tags then
   run cx enc labs 1000000 true (il body [(0,0::p),(4,[]),(0,1::p)]) (reB pts { n:=n,fr:=qfm ps xs fr,hp:=hp,nx:=NX,df:=[] })
  else none
 |_=>none
where
 eqLen:List Tmp->List AV->Bool
  |[],[]=>true|_::ps,_::xs=>eqLen ps xs|_,_=>false
 tagIs (tag:Nat) (p:List Nat) (tags:List (List Nat×Nat)):Bool:=match im p tags with|some t=>Nat.beq t tag|none=>false
def qzx:∀{ps:List Tmp}{xs:List AV},pu.eqLen ps xs=true->ps.length=xs.length
 |[],[],_=>rfl|_::ps,_::xs,h=>by simp[qzx (ps:=ps) (xs:=xs) h]|[],_::_,h=>by cases h
 |_::_,[],h=>by cases h
def qoh:Code->Bool|.rangeFunc _ _ _ _=>true|_=>false
def cm.sound_yld{e:cm}{cx:Cx}{body:Code}{p:List Nat}{m:Nat}{labs:List (dm e.R)}(ok:cx.Ok body)(hkey:e.key = .yld m)(hrd:cx.rd=some m)(hids:cx.ids=c8 e.hp)(hrf:qoh (sub body p)=true)
  (hfine:(kv (c8 e.hp) e.args&&qv (c8 e.hp) e.hp)=true) (hlab:∀d',∀l∈labs,lh cx (bi e.hp d') e.out body l) (hF:∀d d',pu cx body p m e.out labs e.hp (Pts.put e.args d) (bi e.hp d')=e.F d d'):e.Sound cx.P:=by
 intro d d' r hr;rw[hkey];intro w G vs B hm hreps hB;simp at hfine;obtain⟨f1,f2⟩:=hfine;have hin:=qmz (d:=d') f2;have hm':=hm.only hin;have hreps':ak (Pts.put e.args d) (G.view (c8 e.hp)) vs:=by
  have:=ak.ren (ρ:=ao (c8 e.hp)) (G:=G) (G':=G.view (c8 e.hp)) (fun _ _ _ h=>h) (mg _) (od _) hreps
  rwa [si f1]at this
 have hrun:=hF d d';rw[hr]at hrun;unfold pu at hrun;split at hrun
 ·rename_i f n fr ps tag D hl;cases hb:Nat.beq f cx.f&&zd n ps&&pu.eqLen ps (Pts.put e.args d)&&pu.tagIs tag p cx.tags<;>rw[hb]at hrun<;>simp at hrun
  simp only[qA]at hb;obtain⟨⟨⟨b1,b2⟩,b3⟩,b4⟩:=hb;have b1:=qN b1;subst b1;have b3:=qzx b3;unfold pu.tagIs at b4;split at b4
  rotate_left
  ·cases b4
  rename_i t ht;have b4:=qN b4;subst b4;obtain⟨B',tmps,DB,i1,i2,⟨asn,bo,i3,i4⟩,i5,i6,i7⟩:=hm'.holds m _ hl;have hBv:(G.view (c8 e.hp)).box m=some B:=by
   have:=mb (hin m _ hl).1;simp[Gh.view,this,hB]
  rw[hBv]at i1;injection i1 with i1;subst i1
  obtain⟨g,ps0,x,y,hs⟩:∃g ps x y,sub body p = .rangeFunc g ps x y:=by
   cases hc:sub body p<;>rw[hc]at hrf<;>first|exact⟨_,_,_,_,rfl⟩|cases hrf
  have hcode:=ok.tags p t ht g ps0 x y hs;rw[i3]at hcode;simp at hcode;obtain⟨rfl,rfl⟩:=hcode;have hg:=qpn (enc:=e.out) ok (zpm:=bi e.hp d') (fun n bx h=>by rw[hids];exact qe0 h) (hlab d') _ _ _ _ _ qoj hrun
  have hlv:=hreps.length;obtain⟨j1,j2⟩:=q2a (n:=n) b2 i5 b3 hreps' i6;have hr0:ai w (G.view (c8 e.hp)) (bi e.hp d') (G.view (c8 e.hp)) { n:=n,fr:=qfm ps (Pts.put e.args d) fr,hp:=bi e.hp d',nx:=NX,df:=[] } { tmps:=(ps.zip vs).foldl (fun(tmps:Array Value)(q:Tmp×Value)=>tmps.setIfInBounds q.1 q.2) tmps,defers:=[] } w:=
   ⟨⟨[],rfl,rfl⟩,j1,j2,fun k _ hk=>by simp[Gh.view,qo0 hk],uh hm'⟩
  obtain⟨G1,hr1⟩:=hr0.reB (l:=e.hp);refine⟨_,i4,fun c cs=>⟨oD,?_⟩⟩
  let b:Frame:={ (default:Frame) with fn:=cx.f,kind := .normal,roundOf:=some B }
  have:=hg w _ _ _ w hr1 b (c::cs) rfl rfl (by unfold lj;rw[hrd];exact⟨B,_,hBv,hl,rfl⟩)
  obtain⟨v,w',⟨G',h1,h2⟩,h3⟩:=this c cs rfl;refine⟨v,w',⟨v,G',rfl,h1.only hin,h2⟩,?_⟩;have e1:Frame.round B cx.f ((ps.toArray.zip vs.toArray).foldl (fun tmps(t,a)=>tmps.setIfInBounds t a) tmps) asn bo .normal=b.atR { tmps:=(ps.zip vs).foldl (fun(tmps:Array Value)(q:Tmp×Value)=>tmps.setIfInBounds q.1 q.2) tmps,defers:=[] } (cw (il body [(0,0::p),(4,[]),(0,1::p)])):=by
   simp[Frame.round,Frame.atR,b,cw,il,pd,sub,hs,nk,List.zip_toArray]
  simp only at e1 ⊢;rw[e1];exact h3
 ·cases hrun
def lh.of_run{cx:Cx}{body:Code}{zpm:List (Nat×ag)}{R:Type}{enc:RS R}{labs:List (dm R)}(ok:cx.Ok body)(hid:∀n bx,ae zpm n=some bx->ap cx.ids n=some n)(hlab:∀l∈labs,lh cx zpm enc body l){l:dm R}
  (h:∀d,run cx enc labs 1000000 false (il body l.key) (l.ls.st d)=l.F d):lh cx zpm enc body l:=fun d r hr=>by
 have:=h d;rw[hr]at this;exact qpn ok hid hlab _ _ _ _ _ qoj this
end Go.Sym
namespace Go.Sym
open Go.RowKit
def o5(f:Func):Code:=match f.body with|some c=>c|none => .skip
def af(n:Int):Int:=IntKind.i64.wrap n
section
variable[LC]{cx:Cx}{zpm:List (Nat×ag)}{R:Type}{enc:RS R}{body:Code}{P:Program}
def ip:∀p t,im p []=some t->∀g ps x y,sub body p = .rangeFunc g ps x y->LC.lc t=some (x,y):=fun _ _ h=>by cases h
def ji{p:List Nat}{t:Nat}{tags:List (List Nat×Nat)}(h:LC.lc t=some (nk 0 (sub body p),nk 1 (sub body p)))(k:∀p t,im p tags=some t->∀g ps x y,sub body p = .rangeFunc g ps x y->LC.lc t=some (x,y)) :
  ∀q u,im q ((p,t)::tags)=some u->∀g ps x y,sub body q = .rangeFunc g ps x y->LC.lc u=some (x,y):=fun q u hq g ps x y hs=>by
 simp only[im]at hq;cases hb:jz p q
 ·rw[hb]at hq;exact k q u hq g ps x y hs
 ·rw[hb]at hq;simp only[qT,qI]at hq;subst hq;have:=qef hb;subst this;rw[h,hs];rfl
end
abbrev Bs:Type:=List UInt8
def q12:Nat->Nat->List Nat|0,_=>[]|f+1,n=>bif Nat.ble n 1 then[] else Nat.mod n 2::q12 f (Nat.div n 2)
mutual
def Pt.ts:Pt->List Type->List Type|.h τ,a=>τ.den::a|.agg ps,a=>Pts.ts ps a|.tup ps,a=>Pts.ts ps a|.fn _ ps,a=>Pts.ts ps a|.arr τ,a=>List τ.den::a|_,a=>a
def Pts.ts:List Pt->List Type->List Type|[],a=>a|p::ps,a=>p.ts (Pts.ts ps a)
end
def HL:List Type->Type|[]=>Unit|t::l=>t×HL l
abbrev jc:HL []:=()
mutual
def Pt.pk:(p:Pt)->{a:List Type}->p.den->HL a->HL (p.ts a)|.h _,_,d,x=>(d,x)|.agg ps,_,d,x=>Pts.pk ps d x|.tup ps,_,d,x=>Pts.pk ps d x|.fn _ ps,_,d,x=>Pts.pk ps d x|.arr _,_,d,x=>(d,x)|.c _,_,_,x=>x|.ptr _ _,_,_,x=>x|.own _,_,_,x=>x|.el _ _,_,_,x=>x|.iel _ _ _,_,_,x=>x|.yld _,_,_,x=>x|.pn _,_,_,x=>x|.u,_,_,x=>x
def Pts.pk:(ps:List Pt)->{a:List Type}->Pts.den ps->HL a->HL (Pts.ts ps a)|[],_,_,x=>x|p::ps,_,d,x=>p.pk d.1 (Pts.pk ps d.2 x)
end
mutual
def Pt.un:(p:Pt)->{a:List Type}->HL (p.ts a)->p.den×HL a|.h _,_,x=>x|.agg ps,_,x=>Pts.un ps x|.tup ps,_,x=>Pts.un ps x|.fn _ ps,_,x=>Pts.un ps x|.arr _,_,x=>x|.c _,_,x=>((),x)|.ptr _ _,_,x=>((),x)|.own _,_,x=>((),x)|.el _ _,_,x=>((),x)|.iel _ _ _,_,x=>((),x)|.yld _,_,x=>((),x)|.pn _,_,x=>((),x)|.u,_,x=>((),x)
def Pts.un:(ps:List Pt)->{a:List Type}->HL (Pts.ts ps a)->Pts.den ps×HL a|[],_,x=>((),x)|p::ps,_,x=>(((p.un x).1,(Pts.un ps (p.un x).2).1),(Pts.un ps (p.un x).2).2)
end
mutual
def Pt.un_pk:∀(p:Pt){a:List Type}(d:p.den)(x:HL a),p.un (p.pk d x)=(d,x)|.h _,_,_,_=>rfl|.agg ps,_,d,x=>Pts.un_pk ps d x|.tup ps,_,d,x=>Pts.un_pk ps d x|.fn _ ps,_,d,x=>Pts.un_pk ps d x|.arr _,_,_,_=>rfl|.c _,_,_,_=>rfl|.ptr _ _,_,_,_=>rfl|.own _,_,_,_=>rfl|.el _ _,_,_,_=>rfl|.iel _ _ _,_,_,_=>rfl|.yld _,_,_,_=>rfl|.pn _,_,_,_=>rfl|.u,_,_,_=>rfl
def Pts.un_pk:∀(ps:List Pt){a:List Type}(d:Pts.den ps)(x:HL a),Pts.un ps (Pts.pk ps d x)=(d,x)
 |[],_,_,_=>rfl|p::ps,_,d,x=>by
  show(((p.un (p.pk d.1 (Pts.pk ps d.2 x))).1,(Pts.un ps (p.un (p.pk d.1 (Pts.pk ps d.2 x))).2).1),(Pts.un ps (p.un (p.pk d.1 (Pts.pk ps d.2 x))).2).2)=(d,x);rw[Pt.un_pk p,Pts.un_pk ps];rfl
end
def fts:List (Nat×Pt)->List Type->List Type|[],a=>a|(_,p)::r,a=>p.ts (fts r a)
def ik:(l:List (Nat×Pt))->{a:List Type}->kh l->HL a->HL (fts l a)|[],_,_,x=>x|(_,p)::r,_,d,x=>p.pk d.1 (ik r d.2 x)
def ve:(l:List (Nat×Pt))->{a:List Type}->HL (fts l a)->kh l×HL a|[],_,x=>((),x)|(_,p)::r,_,x=>(((p.un x).1,(ve r (p.un x).2).1),(ve r (p.un x).2).2)
def q0g:∀(l:List (Nat×Pt)){a:List Type}(d:kh l)(x:HL a),ve l (ik l d x)=(d,x)
 |[],_,_,_=>rfl|(_,p)::r,_,d,x=>by
  show(((p.un (p.pk d.1 (ik r d.2 x))).1,(ve r (p.un (p.pk d.1 (ik r d.2 x))).2).1),(ve r (p.un (p.pk d.1 (ik r d.2 x))).2).2)=(d,x);rw[Pt.un_pk p,q0g r];rfl
def ar.ts:ar->List Type->List Type|.cells ps _,a=>Pts.ts ps a|.row τ _,a=>List τ.den::a|.loop _ _ _ _ fr _ _ _,a=>fts fr a|.dfr,a=>a|.it,a=>List UInt8::Nat::a|.dead,a=>a|.dat τ _,a=>τ.den::a
def ar.pk:(p:ar)->{a:List Type}->p.den->HL a->HL (p.ts a)|.cells ps _,_,d,x=>Pts.pk ps d x|.row _ _,_,d,x=>(d,x)|.loop _ _ _ _ fr _ _ _,_,d,x=>ik fr d x|.dfr,_,_,x=>x|.it,_,d,x=>(d.1,(d.2,x))|.dead,_,_,x=>x|.dat _ _,_,d,x=>(d,x)
def ar.un:(p:ar)->{a:List Type}->HL (p.ts a)->p.den×HL a|.cells ps _,_,x=>Pts.un ps x|.row _ _,_,x=>x|.loop _ _ _ _ fr _ _ _,_,x=>ve fr x|.dfr,_,x=>((),x)|.it,_,x=>((x.1,x.2.1),x.2.2)|.dead,_,x=>((),x)|.dat _ _,_,x=>x
def ar.un_pk:∀(p:ar){a:List Type}(d:p.den)(x:HL a),p.un (p.pk d x)=(d,x)|.cells ps _,_,d,x=>Pts.un_pk ps d x|.row _ _,_,_,_=>rfl|.loop _ _ _ _ fr _ _ _,_,d,x=>q0g fr d x|.dfr,_,_,_=>rfl|.it,_,_,_=>rfl|.dead,_,_,_=>rfl|.dat _ _,_,_,_=>rfl
def uk:List (Nat×ar)->List Type->List Type|[],a=>a|(_,p)::r,a=>p.ts (uk r a)
def d9:(l:List (Nat×ar))->{a:List Type}->dx l->HL a->HL (uk l a)|[],_,_,x=>x|(_,p)::r,_,d,x=>p.pk d.1 (d9 r d.2 x)
def qz:(l:List (Nat×ar))->{a:List Type}->HL (uk l a)->dx l×HL a|[],_,x=>((),x)|(_,p)::r,_,x=>(((p.un x).1,(qz r (p.un x).2).1),(qz r (p.un x).2).2)
def qy1:∀(l:List (Nat×ar)){a:List Type}(d:dx l)(x:HL a),qz l (d9 l d x)=(d,x)
 |[],_,_,_=>rfl|(_,p)::r,_,d,x=>by
  show(((p.un (p.pk d.1 (d9 r d.2 x))).1,(qz r (p.un (p.pk d.1 (d9 r d.2 x))).2).1),(qz r (p.un (p.pk d.1 (d9 r d.2 x))).2).2)=(d,x);rw[ar.un_pk p,qy1 r];rfl
abbrev Cur:List Type->Type->Type|[],R=>R|t::l,R=>t->Cur l R
def app{R:Type}:{l:List Type}->Cur l R->HL l->R|[],f,_=>f|_::_,f,x=>app (f x.1) x.2
abbrev Nc:List Type->Type|[]=>Unit|[t]=>t|t::u::l=>t×Nc (u::l)
def Nc.fro:(l:List Type)->HL l->Nc l|[],_=>()|[_],x=>x.1|_::u::l,x=>(x.1,Nc.fro (u::l) x.2)
def Nc.to:(l:List Type)->Nc l->HL l|[],_=>()|[_],x=>(x,())|_::u::l,x=>(x.1,Nc.to (u::l) x.2)
def Nc.to_fro:∀(l:List Type)(x:HL l),Nc.to l (Nc.fro l x)=x
 |[],_=>rfl|[_],_=>rfl|_::u::l,x=>by
  show(x.1,Nc.to (u::l) (Nc.fro (u::l) x.2))=x;rw[Nc.to_fro];rfl
def RS.mk(p:Pt)(hp:List (Nat×ar)):RS (Nc (p.ts (uk hp []))):=
 .one p hp (fun x=>((p.un (Nc.to _ x)).1,(qz hp (p.un (Nc.to _ x)).2).1)) (fun y=>Nc.fro _ (p.pk y.1 (d9 hp y.2 jc))) fun y=>by
  obtain⟨d,d'⟩:=y;show((p.un (Nc.to _ (Nc.fro _ (p.pk d (d9 hp d' jc))))).1,(qz hp (p.un (Nc.to _ (Nc.fro _ (p.pk d (d9 hp d' jc))))).2).1)=(d,d');rw[Nc.to_fro,Pt.un_pk,qy1]
structure IF:Type 1 where
 key:ou
 args:List Pt
 hp:List (Nat×ar)
 R:Type
 out:RS R
abbrev IF.T(i:IF):Type:=Cur (Pts.ts i.args (uk i.hp [])) (Option i.R)
def IF.e(i:IF)(r:i.T):cm:=⟨i.key,i.args,i.hp,i.R,fun d d'=>app r (Pts.pk i.args d (d9 i.hp d' jc)),i.out⟩
abbrev KL:Type:=mv×LS
abbrev KL.T(l:KL)(R:Type):Type:=Cur (fts l.2.fr (uk l.2.hp [])) (Option R)
def KL.lab{R:Type}(l:KL)(r:l.T R):dm R:=⟨l.1,l.2,fun d=>app r (ik l.2.fr d.1 (d9 l.2.hp d.2 jc))⟩
def kl:Nat->List KL->KL|_,[]=>([],⟨0,[],[],0,[]⟩)|0,l::_=>l|n+1,_::r=>kl n r
def qpb:ou->Option Nat|.yld m=>some m|_=>none
section
variable[LC]{P:Program}{i:IF}
structure EP(P:Program):Type 1 where
 e:cm
 h:e.Sound P
structure EI(P:Program)(i:IF) where
 f:i.T
 h:(i.e f).Sound P
def EI.p(s:EI P i):EP P:=⟨i.e s.f,s.h⟩
def EP.es{P:Program}:List (EP P)->List cm|[]=>[]|x::l=>x.e::EP.es l
def EP.es_ok{P:Program}:∀{l:List (EP P)},∀e∈EP.es l,e.Sound P
 |[],_,h=>by cases h
 |x::_,e,h=>by
  rcases List.mem_cons.1 h with rfl|h
  ·exact x.h
  ·exact EP.es_ok e h
structure Fx(P:Program)(i:IF):Type 1 where
 etys:List (Nat×Ty)
 hm:P.follows .mixedOrders=true
 fn:Func
 f:FuncId
 hf:P.funcs[f]? = some fn
 calls:List (EP P)
 sub:Bool
 tags:List (List Nat×Nat)
 ht:∀p t,im p tags=some t->∀g ps x y,Sym.sub (o5 fn) p = .rangeFunc g ps x y->LC.lc t=some (x,y)
 ls:List KL
def Fx.body(x:Fx P i):Code:=o5 x.fn
def Fx.cx(x:Fx P i):Cx:={ P,tb:=⟨EP.es x.calls,x.etys,x.sub⟩,fn:=x.fn,f:=x.f,ids:=c8 i.hp,rd:=qpb i.key,tags:=x.tags }
def Fx.ok(x:Fx P i):x.cx.Ok x.body:=⟨EP.es_ok,x.hm,x.hf,x.ht⟩
structure PL(x:Fx P i)(k:Nat) where
 f:(kl k x.ls).T i.R
 h:∀d',lh x.cx (bi i.hp d') i.out x.body ((kl k x.ls).lab f)
abbrev Fx.L(x:Fx P i)(k:Nat):=PL x k
structure SL(x:Fx P i) where
 q:dm i.R
 h:∀d',lh x.cx (bi i.hp d') i.out x.body q
def PL.s{x:Fx P i}{k:Nat}(p:PL x k):SL x:=⟨(kl k x.ls).lab p.f,p.h⟩
def SL.qs{x:Fx P i}:List (SL x)->List (dm i.R)|[]=>[]|s::l=>s.q::SL.qs l
def SL.qs_ok{x:Fx P i}{d':dx i.hp}:∀{l:List (SL x)},∀q∈SL.qs l,lh x.cx (bi i.hp d') i.out x.body q
 |[],_,h=>by cases h
 |s::_,q,h=>by
  rcases List.mem_cons.1 h with rfl|h
  ·exact s.h d'
  ·exact SL.qs_ok q h
def Fx.jn{x:Fx P i}{k:Nat}(f:(kl k x.ls).T i.R)(l:List (SL x))
  (h:∀d,run x.cx i.out (SL.qs l) 1000000 false (il x.body (kl k x.ls).1) ((kl k x.ls).2.st d)=app f (ik (kl k x.ls).2.fr d.1 (d9 (kl k x.ls).2.hp d.2 ()))):PL x k:=
 ⟨f,fun _=>lh.of_run x.ok (fun _ _ h=>qe0 h) (SL.qs_ok) h⟩
def Fx.lp{x:Fx P i}{k:Nat}(g:Nat->(kl k x.ls).T i.R)(b:(kl k x.ls).T i.R->(kl k x.ls).T i.R)(h0:∀d:(kl k x.ls).2.den,app (g 0) (ik (kl k x.ls).2.fr d.1 (d9 (kl k x.ls).2.hp d.2 ()))=none)(hg:∀n,g (n+1)=b (g n))(l:PL x k->List (SL x))
  (h:∀r d,run x.cx i.out (SL.qs (l r)) 1000000 false (il x.body (kl k x.ls).1) ((kl k x.ls).2.st d)=app (b r.f) (ik (kl k x.ls).2.fr d.1 (d9 (kl k x.ls).2.hp d.2 ()))) (n:Nat):PL x k:=
 ⟨g n,by
  induction n with
  |zero=>intro d' d r hr;have:=h0 d;rw[show((kl k x.ls).lab (g 0)).F d=none from this]at hr;cases hr
  | succ n ih=>rw[hg];exact(Fx.jn (b (g n)) (l ⟨g n,ih⟩) (h ⟨g n,ih⟩)).h⟩
def Fx.fin(x:Fx P i)(f:i.T)(l:List (SL x))(hp:li P x.f)(hk:i.key = .fn x.f)(hb:x.fn.body=some x.body)(hfine:qer x.cx i.args i.hp=true)
  (h:∀d d',qpl x.cx x.body i.out (SL.qs l) i.args i.hp (Pts.put i.args d) (bi i.hp d')=app f (Pts.pk i.args d (d9 i.hp d' jc))):EI P i:=
 ⟨f,cm.sound_fn (e:=i.e f) (cx:=x.cx) (labs:=SL.qs l) x.ok hk hb (show qpb i.key=none by rw[hk];rfl) rfl hp hfine (fun _=>SL.qs_ok) h⟩
def Fx.fiy(x:Fx P i)(f:i.T)(l:List (SL x))(m:Nat)(hk:i.key = .yld m)(p:List Nat)(hb:qoh (Sym.sub x.body p)=true)(hfine:(kv (c8 i.hp) i.args&&qv (c8 i.hp) i.hp)=true)
  (h:∀d d',pu x.cx x.body p m i.out (SL.qs l) i.hp (Pts.put i.args d) (bi i.hp d')=app f (Pts.pk i.args d (d9 i.hp d' jc))):EI P i:=
 ⟨f,cm.sound_yld (e:=i.e f) (cx:=x.cx) (labs:=SL.qs l) (p:=p) (m:=m) x.ok hk (show qpb i.key=some m by rw[hk];rfl) rfl hb hfine (fun _=>SL.qs_ok) h⟩
def EI.rc(g:Nat->i.T)(b:i.T->i.T)(h0:∀d d',app (g 0) (Pts.pk i.args d (d9 i.hp d' jc))=none)(hg:∀n,g (n+1)=b (g n))(s:EI P i->EI P i)(hs:∀r,(s r).f=b r.f)(n:Nat):EI P i:=
 ⟨g n,by
  induction n with
  |zero=>intro d d' r hr;have:=h0 d d';rw[show(i.e (g 0)).F d d'=none from this]at hr;cases hr
  | succ n ih=>rw[hg,← hs ⟨g n,ih⟩];exact(s ⟨g n,ih⟩).h⟩
def pg:List Nat->Code->List Nat->mv->mv
 |[],_,p,k=>(0,p)::k|i::r,c,p,k=>match c with
  |.seq a b=>match i with|0=>pg r a (0::p) ((0,1::p)::k)|_=>pg r b (1::p) k
  |.block _ a=>pg r a (0::p) ((1,p)::k)|.loop a=>pg r a (0::p) ((2,p)::k)|.scope a=>pg r a (0::p) ((3,p)::k)|.rangeFunc _ _ _ b=>pg r b (i::p) []|c=>pg r (nk i c) (i::p) k
def zcf(b:Code)(n:Nat):mv:=pg (q12 200 n).reverse b [] []
def lz(P:Program)(f:FuncId):Func:=match P.funcs[f]? with|some fn=>fn|none=>default
structure LB where
 n:Nat
 fr:List (Nat×Pt)
 hp:List (Nat×ar)
 df:List Nat
abbrev lb(n:Nat)(fr:List (Nat×Pt))(hp:List (Nat×ar):=[])(df:List Nat:=[]):LB:=⟨n,fr,hp,df⟩
def q0z(fn:Func):List LB->List KL|[]=>[]|l::r=>(zcf (o5 fn) l.n,⟨fn.ntmps,l.fr,l.hp,64,l.df⟩)::q0z fn r
def qes:ou->FuncId|.fn f=>f|.ext f=>f|.yld _=>0
def zdo {f : FuncId} {fn : Func} (hf : P.funcs[f]? = some fn) (hn : (fn.name == "runtime.NumGoroutine") = false) (hb : fn.body.isNone = false) : li P f := fun args w => by
 have h1 : ¬ fn.name = "runtime.NumGoroutine" := by simpa using hn
 cases hq:fn.body with
 |none=>rw[hq]at hb;cases hb
 |some c=>simp[callFunc,hf,h1,hq]
def Fx.at(etys:List (Nat×Ty))(hm:P.follows .mixedOrders=true)(f:FuncId)(calls:List (EP P))(ls:List LB)(sub:Bool)(tags:List (List Nat×Nat))
  (ht:∀p t,im p tags=some t->∀g ps x y,Sym.sub (o5 (lz P f)) p = .rangeFunc g ps x y->LC.lc t=some (x,y)) (hf:P.funcs[f]? = some (lz P f)):Fx P i:=
 ⟨etys,hm,lz P f,f,hf,calls,sub,tags,ht,q0z (lz P f) ls⟩
def Fx.fi(x:Fx P i)(f:i.T)(l:List (SL x):=[])(hp:li P x.f:=by exact zdo (Fx.hf _) oB oB)(hk:i.key = .fn x.f:=by exact rfl)(hb:x.fn.body=some x.body:=by exact rfl)(hfine:qer x.cx i.args i.hp=true:=by kernel_rfl)
  (h:∀d d',qpl x.cx x.body i.out (SL.qs l) i.args i.hp (Pts.put i.args d) (bi i.hp d')=app f (Pts.pk i.args d (d9 i.hp d' jc)):=by intro d d';kernel_rfl):EI P i:=x.fin f l hp hk hb hfine h
def Fx.fo(x:Fx P i)(f:i.T)(l:List (SL x))(m:Nat)(p:List Nat)(hk:i.key = .yld m:=by exact rfl)(hb:qoh (Sym.sub x.body p)=true:=by kernel_rfl)(hfine:(kv (c8 i.hp) i.args&&qv (c8 i.hp) i.hp)=true:=by kernel_rfl)
  (h:∀d d',pu x.cx x.body p m i.out (SL.qs l) i.hp (Pts.put i.args d) (bi i.hp d')=app f (Pts.pk i.args d (d9 i.hp d' jc)):=by intro d d';kernel_rfl):EI P i:=x.fiy f l m hk p hb hfine h
def Fx.jm{x:Fx P i}{k:Nat}(f:(kl k x.ls).T i.R)(l:List (SL x):=[])(h:∀d,run x.cx i.out (SL.qs l) 1000000 false (il x.body (kl k x.ls).1) ((kl k x.ls).2.st d)=app f (ik (kl k x.ls).2.fr d.1 (d9 (kl k x.ls).2.hp d.2 ())):=by intro d;kernel_rfl):PL x k:=Fx.jn f l h
def Fx.lq{x:Fx P i}{k:Nat}(g:Nat->(kl k x.ls).T i.R)(b:(kl k x.ls).T i.R->(kl k x.ls).T i.R)(l:PL x k->List (SL x))(h0:∀d:(kl k x.ls).2.den,app (g 0) (ik (kl k x.ls).2.fr d.1 (d9 (kl k x.ls).2.hp d.2 ()))=none:=by intro _;exact rfl)(hg:∀n,g (n+1)=b (g n):=by intro _;exact rfl)
  (h:∀r d,run x.cx i.out (SL.qs (l r)) 1000000 false (il x.body (kl k x.ls).1) ((kl k x.ls).2.st d)=app (b r.f) (ik (kl k x.ls).2.fr d.1 (d9 (kl k x.ls).2.hp d.2 ())):=by intro _ d;kernel_rfl) (n:Nat):PL x k:=Fx.lp g b h0 hg l h n
end
end Go.Sym
namespace Go.Sym
def jk(n:Int):Option Bs:=bif decide (-9223372036854775808<=n/\n<=9223372036854775807) then some (Lib.itoa n) else none
def qh(s sep:Bs):Option Int:=bif decide (2<=List.length sep/\List.length s<4294967281/\List.length sep<=maxLen) then some (Lib.index s sep) else none
def gz{α:Type}(l:List α):Option (List α):=bif decide (List.length l<=a8) then some l else none
def qfe(s:Bs)(most:Int):Int×Bool:=match Lib.atoiAll s with|.ok v=>if Lib.itoa v=s/\0<=v/\v<=most then(v,true) else(0,false)|_=>(0,false)
def xi(s:Bs)(most:Int):Option (Int×Bool):=bif decide (List.length s<=281474976710656) then some (qfe s most) else none
abbrev Pc:Type:=Bs×Int×Bool×Bs
abbrev Pq:Type:={ x:Pc // -1125899906842624<=x.2.1/\x.2.1<=1125899906842624 }
instance:Inhabited Pq:=⟨⟨([],0,false,[]),oF⟩⟩
def jy(x y:Pq):Int:=af (x.1.2.1-y.1.2.1)
def f8(l:List Pq):List Pq:=(Go.Sort.pdq (Go.Proofs.ltOf jy) l.toArray 0 l.length (Lib.bitLen l.length) true true).toList
def toQ:List Pc->Option (List Pq)|[]=>some []|x::l=>if h : -1125899906842624<=x.2.1/\x.2.1<=1125899906842624 then(match toQ l with|some r=>some (⟨x,h⟩::r)|none=>none) else none
def ye(l:List Pc):Option (List Pc):=bif decide (List.length l<=a8) then(match toQ l with|some q=>some ((f8 q).map (·.1))|none=>none) else none
def qn(s:Bs)(n:Int):Option Bs:=bif decide (0<=n/\n<=9223372036854775807/\List.length s*n.toNat<=140737488355328) then some (Lib.repeatL s n.toNat) else none
def vu(rep:Bs):Nat->Bool->Bs->Bs
 |0,_,_=>[]|_+1,_,[]=>[]|n+1,inv,c::l=>if(Lib.decodeL (c::l)).1=65533/\(Lib.decodeL (c::l)).2=1 then(if inv then[] else rep)++vu rep n true l
  else(c::l).take (Lib.decodeL (c::l)).2++vu rep n false ((c::l).drop (Lib.decodeL (c::l)).2)
def yh(s rep:Bs):Option Bs:=bif decide (List.length s<=1000000/\List.length rep<=1000) then some (vu rep s.length false s) else none
def ym(s:Bs):Option Bool:=bif decide (List.length s<=9223372036854775807) then some (Lib.validD s) else none
def nr(a b:UInt8)(na nb:Bs)(c:UInt8):Bs:=if c=a then na else if c=b then nb else[c]
def dp(a b:UInt8)(na nb:Bs)(s:Bs):Bs:=s.flatMap (nr a b na nb)
def fm(a b:UInt8)(l:Bs):Nat:=l.count a+l.count b
def qeg(a b:UInt8)(na nb s t:Bs):dp a b na nb (s++t)=dp a b na nb s++dp a b na nb t:=List.flatMap_append
def qni(a b:UInt8)(s t:Bs):fm a b (s++t)=fm a b s+fm a b t:=by unfold fm;rw[List.count_append,List.count_append];omega
def qnj{a b:UInt8}(hab:a≠b)(c:UInt8):fm a b [c]=if c=a then 1 else if c=b then 1 else 0:=by
 unfold fm;simp only[List.count_cons,List.count_nil,beq_iff_eq];by_cases h:c=a
 ·subst h;simp[hab]
 ·by_cases h2:c=b
  ·subst h2;simp[h]
  ·simp[h,h2]
def qn1{a b:UInt8}(hab:a≠b)(a1 a2 b1 b2:UInt8):∀l:Bs,(dp a b [a1,a2] [b1,b2] l).length=l.length+fm a b l
 |[]=>rfl|c::l=>by
  have h:=qn1 hab a1 a2 b1 b2 l;rw[show c::l=[c]++l from rfl,qeg,qM,qM,qni,h,qnj hab]
  have:(dp a b [a1,a2] [b1,b2] [c]).length=1+(if c=a then 1 else if c=b then 1 else 0):=by
   show(nr a b [a1,a2] [b1,b2] c++[]).length=_;unfold nr;split
   ·rfl
   ·split<;>rfl
  rw[this];simp only[qL,qZ];omega
def qzy{a b:UInt8}(hab:a≠b)(na nb:Bs):∀l:Bs,fm a b l=0->dp a b na nb l=l
 |[],_=>rfl|c::l,h=>by
  rw[show c::l=[c]++l from rfl,qni,qnj hab]at h
  rw[show c::l=[c]++l from rfl,qeg,qzy hab na nb l oA]
  congr 1;show nr a b na nb c++[]=[c];unfold nr;by_cases h1:c=a
  ·rw[qX h1]at h;omega
  ·by_cases h2:c=b
   ·rw[qW h1,qX h2]at h;omega
   ·rw[qW h1,qW h2];rfl
def q3t{α:Type}(l:List α)(i:Nat)(h:i<l.length):l.take (i+1)=l.take i++[l[i]]:=by
 rw[List.take_add_one,List.getElem?_eq_getElem h];rfl
def tp(s:Bs)(p0 p1 _p2:Int)(on:List Bs):Option Bs:=
 match on with|[[a],[a1,a2],[b],[b1,b2]]=>bif decide (p0=0/\p1=0/\a≠b/\List.length s<=1000000) then some (dp a b [a1,a2] [b1,b2] s) else none|_=>none
def zd5{s r:Bs}{p0 p1 p2:Int}{on:List Bs}(h:tp s p0 p1 p2 on=some r) :
  ∃a a1 a2 b b1 b2,on=[[a],[a1,a2],[b],[b1,b2]]/\p0=0/\p1=0/\a≠b/\List.length s<=1000000/\r=dp a b [a1,a2] [b1,b2] s:=by
 unfold tp at h;split at h
 ·rename_i a a1 a2 b b1 b2;cases hd:decide (p0=0/\p1=0/\a≠b/\List.length s<=1000000)<;>rw[hd]at h<;>simp only[qT,qF,reduceCtorEq]at h
  obtain⟨h1,h2,h3,h4⟩:=of_decide_eq_true hd;exact⟨a,a1,a2,b,b1,b2,rfl,h1,h2,h3,h4,(qJ h).symm⟩
 ·cases h
def qm(s:Bs):Option Int:=bif decide (List.length s<=281474976710656) then(match Lib.atoiAll s with | .ok v=>some v|_=>none) else none
def tr(l:List Bs)(sep:Bs):Option Bs:=bif decide (List.length l<=140737488355328/\List.length (Lib.join l sep)<=140737488355328) then some (Lib.join l sep) else none
def dy(n:Nat):Bool:=n==32||n==9
def qk(s:Bs):Option (List Bs):=bif decide (List.length s<=4294967296) then some ((Lib.goFieldsP dy ⟨s.toArray⟩).map (·.data.toList)) else none
open Go.RowKit
variable[LC]
def mr(b:List UInt8)(c:UInt8):Option Int:=some (Lib.indexByte b c)
def qhg(f:FuncId)(r:List UInt8->UInt8->Option Int):cm:={ key := .ext f,args:=[.h (.list .byte),.h .byte],hp:=[],R:=Int,F:=fun d _=>r d.1 d.2.1,out := .one (α:=Int) (.h (.int .i64)) [] (fun r=>(r,())) (fun y=>y.1) (fun _=>rfl) }
def qhf(f:FuncId)(r:List UInt8->UInt8->Option Int):cm:={ key := .ext f,args:=[.h .str,.h .byte],hp:=[],R:=Int,F:=fun d _=>r d.1 d.2.1,out := .one (α:=Int) (.h (.int .i64)) [] (fun r=>(r,())) (fun y=>y.1) (fun _=>rfl) }
def qna(c:UInt8):((c.toNat:Int)).toNat.toUInt8=c:=oC
def zb2 {P : Program} {f : FuncId} {fn : Func} (hf : P.funcs[f]? = some fn) (hname : (fn.name == "runtime.NumGoroutine") = false) (hb : fn.body.isNone = true) (hn : Extern.findNext fn = none) (he : Extern.find fn = some Extern.BytealgIndexByte.indexByte) (b : List UInt8) (c : UInt8) :
  qbq P f [.str b,.byte c] (.int .i64 (Lib.indexByte b c)):=fun w G vs _ hr=>by
 match vs,hr with
 |[v1,v2],⟨h1,h2,_⟩=>
  have h1:v1 = .string ⟨b.toArray⟩:=h1;have h2:v2 = .int .u8 c.toNat:=h2;subst h1 h2;refine⟨.int .i64 (Lib.indexByte b c),?_,rfl⟩;rw[run_callFunc_extern hf hname hb hn he,show([Value.string ⟨b.toArray⟩,.int .u8 c.toNat]:List Value).toArray=#[.string ⟨b.toArray⟩,.int .u8 c.toNat] from rfl,Lib.run_indexByteString,qna]
  rfl
def zb3 {P : Program} {f : FuncId} {fn : Func} (hf : P.funcs[f]? = some fn) (hname : (fn.name == "runtime.NumGoroutine") = false) (hb : fn.body.isNone = true) (hn : Extern.findNext fn = none) (he : Extern.find fn = some Extern.BytealgIndexByte.indexByte) (b : List UInt8) (c : UInt8) :
  qbq P f [.sl .byte b,.byte c] (.int .i64 (Lib.indexByte b c)):=fun w G vs hm hr=>by
 match vs,hr with
 |[v1,v2],⟨h1,h2,_⟩=>
  have h2:v2 = .int .u8 c.toNat:=h2;subst h2;obtain⟨a,cp,rfl,hc,hl⟩:fb 1 (Ty.byte.At G.imm) b v1:=h1;refine⟨.int .i64 (Lib.indexByte b c),?_,rfl⟩;rw[run_callFunc_extern hf hname hb hn he];have key:∀k:Int,(Extern.BytealgIndexByte.indexByte #[.slice a b.length cp,.int .u8 c.toNat]).run P w = .ok (.int .i64 k) w->((Extern.BytealgIndexByte.indexByte ([Value.slice a b.length cp,.int .u8 c.toNat]:List Value).toArray).run P w).andThen (fun v w'=>Result.ok (Next.value v) w') = .ok (.value (.int .i64 k)) w:=by
   intro k hk;have e:([Value.slice a b.length cp,.int .u8 c.toNat]:List Value).toArray=#[.slice a b.length cp,.int .u8 c.toNat]:=rfl;rw[e,hk];rfl
  refine key _ ?_;have bb:Lib.bytesOf (b.map fun x=>(x.toNat:Int))=b:=by
   unfold Lib.bytesOf;rw[List.map_map];have:((fun n:Int=>UInt8.ofNat n.toNat) ∘ fun x:UInt8=>(x.toNat:Int))=id:=by funext x;simp
   rw[this,List.map_id]
  rcases hl with rfl|⟨g,o,rfl,hcells⟩
  ·have hs:=Lib.run_indexByteString (P:=P) .empty (c.toNat:Int) w
   cases a with|none=>exact hs|some ad=>exact hs
  ·have:=Lib.run_indexByteSlice (P:=P) (w:=w) g o b.length cp (b.map fun x=>(x.toNat:Int)) oC (fun i hi=>by
    have hk:G.imm g (o+i*1)=some (.int .u8 b[i].toNat):=hcells i _ (List.getElem?_eq_getElem hi);have:=hm.agree _ _ _ hk;rw[Nat.mul_one]at this;rw[this];simp[List.getD_eq_getElem?_getD,hi]) (c.toNat:Int)
   rw[bb,qna]at this;exact this
def q7r {P : Program} {f : FuncId} {fn : Func} (hf : P.funcs[f]? = some fn) (hname : (fn.name == "runtime.NumGoroutine") = false) (hb : fn.body.isNone = true) (hn : Extern.findNext fn = none) (he : Extern.find fn = some Extern.BytealgIndexByte.indexByte) :
  (qhf f mr).Sound P:=fun d d' r h=>by
 have h:some (Lib.indexByte (show List UInt8 from d.1) (show UInt8 from d.2.1))=some r:=h
 have h:=qJ h;subst h;exact zb2 hf hname hb hn he _ _
def q7t {P : Program} {f : FuncId} {fn : Func} (hf : P.funcs[f]? = some fn) (hname : (fn.name == "runtime.NumGoroutine") = false) (hb : fn.body.isNone = true) (hn : Extern.findNext fn = none) (he : Extern.find fn = some Extern.BytealgIndexByte.indexByte) :
  (qhg f mr).Sound P:=fun d d' r h=>by
 have h:some (Lib.indexByte (show List UInt8 from d.1) (show UInt8 from d.2.1))=some r:=h
 have h:=qJ h;subst h;exact zb3 hf hname hb hn he _ _
def qbw(b:List UInt8)(c:UInt8):Option Int:=some (Lib.countByte b c:Nat)
def qhe(f:FuncId)(r:List UInt8->UInt8->Option Int):cm:={ key := .ext f,args:=[.h .str,.h .byte],hp:=[],R:=Int,F:=fun d _=>r d.1 d.2.1,out := .one (α:=Int) (.h (.int .i64)) [] (fun r=>(r,())) (fun y=>y.1) (fun _=>rfl) }
def q7p {P : Program} {f : FuncId} {fn : Func} (hf : P.funcs[f]? = some fn) (hname : (fn.name == "runtime.NumGoroutine") = false) (hb : fn.body.isNone = true) (hn : Extern.findNext fn = none) (he : Extern.find fn = some Extern.BytealgCount.count) :
  (qhe f qbw).Sound P:=fun d d' r h=>by
 obtain⟨b,c,_⟩:=d;have h:some ((Lib.countByte (show List UInt8 from b) (show UInt8 from c):Nat):Int)=some r:=h
 have h:=qJ h;subst h;intro w G vs _ hr
 match vs,hr with
 |[v1,v2],⟨h1,h2,_⟩=>
  have h1:v1 = .string ⟨(show List UInt8 from b).toArray⟩:=h1
  have h2:v2 = .int .u8 (show UInt8 from c).toNat:=h2
  subst h1 h2;refine⟨.int .i64 (Lib.countByte (show List UInt8 from b) (show UInt8 from c):Nat),?_,rfl⟩
  rw[run_callFunc_extern hf hname hb hn he,show([Value.string ⟨(show List UInt8 from b).toArray⟩,.int .u8 (show UInt8 from c).toNat]:List Value).toArray=#[.string ⟨(show List UInt8 from b).toArray⟩,.int .u8 (show UInt8 from c).toNat] from rfl,Lib.run_countString,qna]
  rfl
end Go.Sym
namespace Go.Sym
open Go.ChangeShapes Go.WideShapes Go.ChangeAt Go.RowKit
variable[LC]
def Gw(w:World):Gh:=⟨fun b o=>match w.cell? ⟨b,o,none⟩ with|some v=>if v.oneCell'=true then some v else none|none=>none,fun _=>none,fun _=>none⟩
def ql5{w:World}{b o:Nat}{v:Value}(h:w.cell? ⟨b,o,none⟩=some v)(h1:v.oneCell'=true):(Gw w).imm b o=some v:=by
 simp[Gw];rw[h];simp[h1]
def q72(w:World)(ht:LC.tab (Gw w).imm w):bj (Gw w) [] w:=by
 have key:∀b o v,(Gw w).imm b o=some v->w.cell? ⟨b,o,none⟩=some v/\v.oneCell'=true:=by
  intro b o v h;simp[Gw]at h;split at h
  ·rename_i u hu;split at h
   ·rename_i h1;cases h;exact⟨hu,h1⟩
   ·cases h
  ·cases h
 exact⟨fun b o v h=>(key b o v h).1,fun b o v h=>(key b o v h).2,fun n bx h=>(by cases h),fun n m bx bx' b h=>(by cases h),ht⟩
inductive qmc{α:Type}(p:α->Prop):Tree α->Prop
 |mk (a:α) (l:List (Tree α)):p a->l.length<=maxLen->(∀x∈l,qmc p x)->qmc p (.node a l)
def Ty.bd:(τ:Ty)->τ.den->Prop|.int k,n=>(Lit.int k n).wf=true|.str,s=>List.length s<=maxLen|.prod a b,x=>a.bd x.1/\b.bd x.2|.list a,l=>List.length l<=maxLen/\∀x∈(show List a.den from l),a.bd x|.tree a,t=>qmc a.bd t|_,_=>True
def vd(P:Program)(rec:Ty->TypeId->Bool):Ty->List Field->Nat->Bool|τ,[f],o=>f.offset==o&&(P.cellsOf f.type==τ.sz&&rec τ f.type)|.prod a b,f::fs,o=>f.offset==o&&(P.cellsOf f.type==a.sz&&(rec a f.type&&vd P rec b fs (o+a.sz)))|_,_,_=>false
def qfx(P:Program)(t g:TypeId):Bool:=match P.underlying g with|some (.slice e)=>e==t|_=>false
def ss(P:Program)(rec:Ty->TypeId->Bool)(t:TypeId):Ty->List Field->Nat->Bool|τ,[f,g],o=>f.offset==o&&(P.cellsOf f.type==τ.sz&&(rec τ f.type&&(g.offset==o+τ.sz&&(P.cellsOf g.type==1&&qfx P t g.type))))|.prod a b,f::fs,o=>f.offset==o&&(P.cellsOf f.type==a.sz&&(rec a f.type&&ss P rec t b fs (o+a.sz)))|_,_,_=>false
def cf(P:Program):Nat->Ty->TypeId->Bool
 |0,_,_=>false|_+1,.int k,t=>match P.underlying t with|some (.int k')=>decide (k'=k)|_=>false
 |_+1,.byte,t=>match P.underlying t with|some (.int k')=>decide (k' = .u8)|_=>false
 |_+1,.bool,t=>match P.underlying t with|some .bool=>true|_=>false
 |_+1,.str,t=>match P.underlying t with|some .string=>true|_=>false
 |n+1,.list a,t=>match P.underlying t with|some (.slice e)=>P.cellsOf e==a.sz&&(decide (0<a.sz)&&cf P n a e)|_=>false
 |n+1,.prod a b,t=>match P.underlying t with|some (.struct fs)=>P.cellsOf t==(Ty.prod a b).sz&&vd P (cf P n) (.prod a b) fs.toList 0|_=>false
 |n+1,.tree a,t=>match P.underlying t with|some (.struct fs)=>P.cellsOf t==(Ty.tree a).sz&&ss P (cf P n) t a fs.toList 0|_=>false
 |_+1,_,_=>false
def q34{P:Program}{n:Nat}{k:IntKind}{t:TypeId}(h:cf P (n+1) (.int k) t=true):P.underlying t=some (.int k):=by
 unfold cf at h;split at h
 ·rename_i k' e;rw[e,of_decide_eq_true h]
 ·cases h
def q33{P:Program}{n:Nat}{t:TypeId}(h:cf P (n+1) .byte t=true):P.underlying t=some (.int .u8):=by
 unfold cf at h;split at h
 ·rename_i k' e;rw[e,of_decide_eq_true h]
 ·cases h
def q32{P:Program}{n:Nat}{t:TypeId}(h:cf P (n+1) .bool t=true):P.underlying t=some .bool:=by
 unfold cf at h;split at h
 ·rename_i e;exact e
 ·cases h
def q35{P:Program}{n:Nat}{t:TypeId}(h:cf P (n+1) .str t=true):P.underlying t=some .string:=by
 unfold cf at h;split at h
 ·rename_i e;exact e
 ·cases h
def ak.app{G:Gh}:∀{xs ys:List AV}{us vs:List Value},ak xs G us->ak ys G vs->ak (xs++ys) G (us++vs)|[],_,[],_,_,h=>h|[],_,_::_,_,h,_=>by simp[ak]at h|_::_,_,[],_,h,_=>by simp[ak]at h|_::_,_,_::_,_,h,k=>⟨h.1,ak.app h.2 k⟩
def qeb{G:Gh}:∀(τ:Ty)(x:τ.den)(cs:List Value),ak (τ.enc x) G cs->∀v∈cs,v.oneCell'=true
 |.int k,n,[v],h,u,hu=>by
  rw[List.mem_singleton]at hu;subst hu;have h1:u = .int k n:=h.1;rw[h1];rfl
 |.byte,c,[v],h,u,hu=>by
  rw[List.mem_singleton]at hu;subst hu;have h1:u = .int .u8 (UInt8.toNat c):=h.1;rw[h1];rfl
 |.bool,c,[v],h,u,hu=>by
  rw[List.mem_singleton]at hu;subst hu;have h1:u = .bool c:=h.1;rw[h1];rfl
 |.str,s,[v],h,u,hu=>by
  rw[List.mem_singleton]at hu;subst hu;have h1:u = .string ⟨List.toArray s⟩:=h.1;rw[h1];rfl
 |.list a,l,[v],h,u,hu=>by
  rw[List.mem_singleton]at hu;subst hu;obtain⟨ad,c,rfl,_⟩:fb a.sz (a.At G.imm) l u:=h.1;rfl
 |.unit,_,[],_,u,hu=>by cases hu
 |.unit,_,_::_,h,_,_=>by simp[Ty.enc,ak]at h|.prod a b,x,cs,h,u,hu=>by
  have key:∀(xs ys:List AV)(cs:List Value),ak (xs++ys) G cs->∃us vs,cs=us++vs/\ak xs G us/\ak ys G vs:=by
   intro xs
   induction xs with
   |nil=>intro ys cs h;exact⟨[],cs,rfl,trivial,h⟩|cons x xs ih=>
    intro ys cs h
    cases cs with
    |nil=>simp[ak]at h|cons c cs=>
     obtain⟨us,vs,e,h1,h2⟩:=ih ys cs h.2;exact⟨c::us,vs,by rw[e];rfl,⟨h.1,h1⟩,h2⟩
  obtain⟨us,vs,rfl,h1,h2⟩:=key _ _ _ h;rcases List.mem_append.1 hu with q|q
  ·exact qeb a x.1 us h1 u q
  ·exact qeb b x.2 vs h2 u q
 |.tree a,x,cs,h,u,hu=>by
  have key:∀(xs ys:List AV)(cs:List Value),ak (xs++ys) G cs->∃us vs,cs=us++vs/\ak xs G us/\ak ys G vs:=by
   intro xs
   induction xs with
   |nil=>intro ys cs h;exact⟨[],cs,rfl,trivial,h⟩|cons x xs ih=>
    intro ys cs h
    cases cs with
    |nil=>simp[ak]at h|cons c cs=>
     obtain⟨us,vs,e,h1,h2⟩:=ih ys cs h.2;exact⟨c::us,vs,by rw[e];rfl,⟨h.1,h1⟩,h2⟩
  obtain⟨us,vs,rfl,h1,h2⟩:=key _ _ _ h;rcases List.mem_append.1 hu with q|q
  ·exact qeb a _ us h1 u q
  ·cases vs with
   |nil=>cases q
   |cons v vs=>
    cases vs with
    |cons v' vs=>simp[ak]at h2|nil=>
     rw[List.mem_singleton]at q;subst q;obtain⟨ad,c,rfl,_⟩:fb (Ty.tree a).sz ((Ty.tree a).At G.imm) (Tree.kids x) u:=h2.1;rfl
 |.int _,_,[],h,_,_=>by simp[Ty.enc,ak]at h|.int _,_,_::_::_,h,_,_=>by simp[Ty.enc,ak]at h|.byte,_,[],h,_,_=>by simp[Ty.enc,ak]at h|.byte,_,_::_::_,h,_,_=>by simp[Ty.enc,ak]at h|.bool,_,[],h,_,_=>by simp[Ty.enc,ak]at h|.bool,_,_::_::_,h,_,_=>by simp[Ty.enc,ak]at h|.str,_,[],h,_,_=>by simp[Ty.enc,ak]at h|.str,_,_::_::_,h,_,_=>by simp[Ty.enc,ak]at h|.list _,_,[],h,_,_=>by simp[Ty.enc,ak]at h|.list _,_,_::_::_,h,_,_=>by simp[Ty.enc,ak]at h
def ak.cells{w:World}{b:Nat}:∀(xs:List AV)(cs:List Value)(o:Nat),ak xs (Gw w) cs->(∀v∈cs,v.oneCell'=true)->(∀(j:Nat)(v:Value),cs[j]? = some v->w.cell? ⟨b,o+j,none⟩=some v)->bh xs (Gw w) b o
 |[],[],_,_,_,_=>trivial|[],_::_,_,h,_,_=>by simp[ak]at h|_::_,[],_,h,_,_=>by simp[ak]at h|x::xs,c::cs,o,h,h1,h2=>by
  refine⟨⟨c,ql5 (h2 0 c rfl) (h1 c qH),h.1⟩,ak.cells xs cs (o+1) h.2 (fun v hv=>h1 v (qE _ hv)) (fun j v hj => ?_)⟩
  have:=h2 (j+1) v hj;rw[show o+1+j=o+(j+1) by omega];exact this
structure mp(H:Type) where
 b:DataW H->Nat
 ba:List (DataW H)->Nat
 str:∀s,b (.lit (.string s))=s.length+1
 lit:∀l,1<=b (.lit l)
 nilb:b .nil=1
 sl:∀e r,b (.slice e r)=ba e+ba r+1
 agg:∀l,b (.agg l)=ba l+1
 nil:ba []=0
 cons:∀d r,ba (d::r)=b d+ba r
def mp.app{H:Type}(B:mp H):∀(l r:List (DataW H)),B.ba (l++r)=B.ba l+B.ba r|[],r=>by rw[List.nil_append,B.nil,wO]|d::l,r=>by rw[wK,B.cons,B.cons,B.app l r,Nat.add_assoc]
mutual
def vx{α:Type}(f:α->Nat):Tree α->Nat|.node a l=>f a+qa5 f l+2
def qa5{α:Type}(f:α->Nat):List (Tree α)->Nat|[]=>0|t::l=>vx f t+qa5 f l
end
def q3z{α:Type}(f:α->Nat):∀l:List (Tree α),qa5 f l=(l.map (vx f)).sum|[]=>by simp[qa5]|t::l=>by rw[qa5,q3z f l,List.map_cons,List.sum_cons]
def zfa{α:Type}(f:α->Nat)(a:α)(l:List (Tree α)):vx f (.node a l)=f a+(l.map (vx f)).sum+2:=by
 rw[← q3z];simp[vx]
def Ty.bk:(τ:Ty)->τ.den->Nat|.str,s=>List.length s+1|.prod a b,x=>a.bk x.1+b.bk x.2|.list a,l=>((show List a.den from l).map a.bk).sum+1|.unit,_=>0|.tree a,t=>vx a.bk t|_,_=>1
section
variable{H:Type}{enc:TypeId×Value->H}{P:Program}{w:World}{base:Nat}{spare:Nat->Bool}{held:Bool}
def q0c(B:mp H)(n m:Nat)(cs:List Value)
  (ih:∀(τ:Ty)(t:TypeId)(cs:List Value)(y:DataW H×List MemPlace),cf P n τ t=true->DataW.trod enc P w base spare held m t cs=some y->∃x:τ.den,τ.bd x/\ak (τ.enc x) (Gw w) cs/\τ.bk x<=B.b y.1) :
  ∀(fs:List Field)(τ:Ty)(o:Nat)(xs:List (DataW H×List MemPlace)),vd P (cf P n) τ fs o=true->xs.length=fs.length->(∀(i:Nat)(f:Field),fs[i]? = some f->DataW.trod enc P w base spare held m f.type ((cs.drop f.offset).take (P.cellsOf f.type))=xs[i]?) ->
   ∃x:τ.den,τ.bd x/\ak (τ.enc x) (Gw w) ((cs.drop o).take τ.sz)/\τ.bk x<=B.ba (xs.map (·.1))
 |[],τ,o,xs,h,_,_=>by cases τ<;>simp[vd]at h
 |[f],τ,o,xs,h,hl,hf=>by
  have h':(f.offset==o&&(P.cellsOf f.type==τ.sz&&cf P n τ f.type))=true:=by cases τ<;>exact h
  simp at h'
  match xs,hl with
  |[y],_=>
   have hy:DataW.trod enc P w base spare held m f.type ((cs.drop f.offset).take (P.cellsOf f.type))=some y:=hf 0 f rfl;rw[h'.1,h'.2.1]at hy;obtain⟨x,x1,x2,x3⟩:=ih τ f.type _ y h'.2.2 hy;exact⟨x,x1,x2,oJ⟩
 |f::g::fs,τ,o,xs,h,hl,hf=>by
  cases τ with
  |prod a b=>
   have h':(f.offset==o&&(P.cellsOf f.type==a.sz&&(cf P n a f.type&&vd P (cf P n) b (g::fs) (o+a.sz))))=true:=h;simp at h'
   match xs,hl with
   |y::ys,hl=>
    have hy:DataW.trod enc P w base spare held m f.type ((cs.drop f.offset).take (P.cellsOf f.type))=some y:=hf 0 f rfl;rw[h'.1,h'.2.1]at hy;obtain⟨x1,b1,r1,k1⟩:=ih a f.type _ y h'.2.2.1 hy;obtain⟨x2,b2,r2,k2⟩:=q0c B n m cs ih (g::fs) b (o+a.sz) ys h'.2.2.2 (by simpa using hl) (fun i f' hf'=>hf (i+1) f' hf')
    refine⟨(x1,x2),⟨b1,b2⟩,?_,?_⟩
    ·show ak (a.enc x1++b.enc x2) (Gw w) ((cs.drop o).take (a.sz+b.sz));rw[List.take_add,List.drop_drop];exact ak.app r1 r2
    ·show a.bk x1+b.bk x2<=_;rw[List.map_cons,B.cons];omega
  |_=>simp[vd]at h
def q30(B:mp H)(n m:Nat)(cs:List Value){zpl:Ty}(t:TypeId)
  (ih:∀(τ:Ty)(t:TypeId)(cs:List Value)(y:DataW H×List MemPlace),cf P n τ t=true->DataW.trod enc P w base spare held m t cs=some y->∃x:τ.den,τ.bd x/\ak (τ.enc x) (Gw w) cs/\τ.bk x<=B.b y.1)
  (ihk:∀(g:TypeId)(cs:List Value)(y:DataW H×List MemPlace),qfx P t g=true->DataW.trod enc P w base spare held m g cs=some y->∃l:List (Ty.tree zpl).den,(Ty.list (.tree zpl)).bd l/\ak [.sl (.tree zpl) l] (Gw w) cs/\(l.map (Ty.tree zpl).bk).sum+1<=B.b y.1) :
  ∀(fs:List Field)(τ:Ty)(o:Nat)(xs:List (DataW H×List MemPlace)),ss P (cf P n) t τ fs o=true->xs.length=fs.length->(∀(i:Nat)(f:Field),fs[i]? = some f->DataW.trod enc P w base spare held m f.type ((cs.drop f.offset).take (P.cellsOf f.type))=xs[i]?) ->
   ∃(x:τ.den)(l:List (Ty.tree zpl).den),τ.bd x/\(Ty.list (.tree zpl)).bd l/\ak (τ.enc x++[.sl (.tree zpl) l]) (Gw w) ((cs.drop o).take (τ.sz+1))/\τ.bk x+((l.map (Ty.tree zpl).bk).sum+1)<=B.ba (xs.map (·.1))
 |[],τ,o,xs,h,_,_=>by cases τ<;>simp[ss]at h
 |[f],τ,o,xs,h,_,_=>by cases τ<;>simp[ss]at h
 |[f,g],τ,o,xs,h,hl,hf=>by
  have h':(f.offset==o&&(P.cellsOf f.type==τ.sz&&(cf P n τ f.type&&(g.offset==o+τ.sz&&(P.cellsOf g.type==1&&qfx P t g.type)))))=true:=by cases τ<;>exact h
  simp at h'
  match xs,hl with
  |[y,z],_=>
   have hy:DataW.trod enc P w base spare held m f.type ((cs.drop f.offset).take (P.cellsOf f.type))=some y:=hf 0 f rfl;have hz:DataW.trod enc P w base spare held m g.type ((cs.drop g.offset).take (P.cellsOf g.type))=some z:=hf 1 g rfl;rw[h'.1,h'.2.1]at hy;rw[h'.2.2.2.1,h'.2.2.2.2.1]at hz;obtain⟨x,x1,x2,x3⟩:=ih τ f.type _ y h'.2.2.1 hy;obtain⟨l,l1,l2,l3⟩:=ihk g.type _ z h'.2.2.2.2.2 hz;refine⟨x,l,x1,l1,?_,oJ⟩
   rw[List.take_add,List.drop_drop];exact ak.app x2 l2
 |f::g::k::fs,τ,o,xs,h,hl,hf=>by
  cases τ with
  |prod a b=>
   have h':(f.offset==o&&(P.cellsOf f.type==a.sz&&(cf P n a f.type&&ss P (cf P n) t b (g::k::fs) (o+a.sz))))=true:=h;simp at h'
   match xs,hl with
   |y::ys,hl=>
    have hy:DataW.trod enc P w base spare held m f.type ((cs.drop f.offset).take (P.cellsOf f.type))=some y:=hf 0 f rfl;rw[h'.1,h'.2.1]at hy;obtain⟨x1,b1,r1,k1⟩:=ih a f.type _ y h'.2.2.1 hy;obtain⟨x2,l,b2,bl,r2,k2⟩:=q30 B n m cs t ih ihk (g::k::fs) b (o+a.sz) ys h'.2.2.2 (by simpa using hl) (fun i f' hf'=>hf (i+1) f' hf')
    refine⟨(x1,x2),l,⟨b1,b2⟩,bl,?_,?_⟩
    ·show ak ((a.enc x1++b.enc x2)++[.sl (.tree zpl) l]) (Gw w) ((cs.drop o).take ((a.sz+b.sz)+1));rw[qS,Nat.add_assoc,List.take_add,List.drop_drop];exact ak.app r1 r2
    ·show(a.bk x1+b.bk x2)+_<=_;rw[List.map_cons,B.cons];omega
  |_=>simp[ss]at h
def zdi(B:mp H):∀(m n:Nat)(τ:Ty)(t:TypeId)(cs:List Value)(y:DataW H×List MemPlace),cf P n τ t=true->DataW.trod enc P w base spare held m t cs=some y->∃x:τ.den,τ.bd x/\ak (τ.enc x) (Gw w) cs/\τ.bk x<=B.b y.1:=by
 intro m
 induction m with
 |zero=>intro n τ t cs y _ h;simp[DataW.trod]at h|succ m ih=>
  intro n τ t cs y ht h
  cases n with
  |zero=>simp[cf]at ht|succ n=>
   cases τ with
   |int k=>
    obtain⟨n,rfl,rfl,hw⟩:=DataW.trod_int (q34 ht) h;exact⟨n,hw,⟨rfl,trivial⟩,B.lit _⟩
   |byte=>
    obtain⟨n,rfl,rfl,hw⟩:=DataW.trod_int (q33 ht) h;have hb:0<=n/\n<=255:=by simp[Lit.wf,qA,decide_eq_true_eq]at hw;exact hw
    refine⟨UInt8.ofNat n.toNat,trivial,⟨?_,trivial⟩,B.lit _⟩;show Value.int .u8 n = .int .u8 ((UInt8.ofNat n.toNat).toNat:Int);rw[UInt8.toNat_ofNat',Nat.mod_eq_of_lt oA]
    congr 1;omega
   |bool=>
    obtain⟨b,rfl,rfl⟩:=DataW.trod_bool (q32 ht) h;exact⟨b,trivial,⟨rfl,trivial⟩,B.lit _⟩
   |str=>
    obtain⟨s,rfl,rfl,hs⟩:=DataW.trod_string (q35 ht) h;refine⟨s.data.toList,?_,⟨?_,trivial⟩,Nat.le_of_eq (B.str _).symm⟩
    ·show s.data.toList.length<=maxLen;rw[Array.length_toList];exact hs
    ·show Value.string s = .string ⟨s.data.toList.toArray⟩;simp
   |unit=>simp[cf]at ht|tree a=>
    have ht0:=ht;unfold cf at ht;split at ht
    ·rename_i fs hu;simp at ht;obtain⟨xs,n',e1,rfl,ac,hxl,hg⟩:=DataW.trod_struct hu h;cases e1
     obtain⟨x,l,hb,hbl,hr,hk⟩:=q30 B n m cs t (fun τ t cs y=>ih n τ t cs y) (fun g cs y hg hy=>by
      have hg':cf P (n+2) (.list (.tree a)) g=true:=by
       unfold qfx at hg;unfold cf;split at hg
       ·rename_i e he;have:e=t:=by simpa using hg
        subst this;simp;exact⟨ht.1,by simp[Ty.sz],ht0⟩
       ·cases hg
      exact ih (n+2) (.list (.tree a)) g cs y hg' hy) fs.toList a 0 xs ht.2 (by rw[hxl,Array.length_toList]) (fun i f hf=>hg i f (by rw[← Array.getElem?_toList];exact hf))
     refine⟨.node x l,.mk x l hb hbl.1 hbl.2,?_,?_⟩
     ·rw[List.drop_zero,List.take_of_length_le (by rw[ac,ht.1];exact wF _)]at hr
      exact hr
     ·rw[B.agg];have e:(Ty.tree a).bk (.node x l)=a.bk x+(l.map (Ty.tree a).bk).sum+2:=zfa a.bk x l;omega
    ·cases ht
   |prod a b=>
    unfold cf at ht;split at ht
    ·rename_i fs hu;simp at ht;obtain⟨xs,n',e1,rfl,ac,hxl,hg⟩:=DataW.trod_struct hu h;cases e1
     obtain⟨x,hb,hr,hk⟩:=q0c B n m cs (fun τ t cs y=>ih n τ t cs y) fs.toList (.prod a b) 0 xs ht.2 (by rw[hxl,Array.length_toList]) (fun i f hf=>hg i f (by rw[← Array.getElem?_toList];exact hf))
     refine⟨x,hb,?_,by rw[B.agg];omega⟩
     rw[List.drop_zero,List.take_of_length_le (by rw[ac,ht.1];exact wF _)]at hr
     exact hr
    ·cases ht
   |list a=>
    unfold cf at ht;split at ht
    ·rename_i e hu;simp at ht;obtain⟨hsz,hpos,hte⟩:=ht;rcases DataW.trod_slice hu h with⟨rfl,rfl⟩|⟨ad,len,cap,elems,rest,n',e1,rfl,rfl,_,hlc,hcm,hel,hget,_⟩
     ·exact⟨[],⟨Nat.zero_le _,fun x hx=>by cases hx⟩,⟨⟨none,0,rfl,wF _,.inl rfl⟩,trivial⟩,Nat.le_of_eq (show 0+1=_ by rw[B.nilb])⟩
     ·cases e1
      have each:∀i,i<len->∃(x:a.den)(h:i<elems.length),a.bd x/\ad.spot=none/\a.At (Gw w).imm x ad.block (ad.off+i*a.sz)/\a.bk x<=B.b elems[i].1:=by
       intro i hi;have h1:=hget i hi;rw[List.getElem?_eq_getElem oA]at h1
       obtain⟨cs,hc,hc2⟩:=Option.bind_eq_some_iff.1 h1;obtain⟨x,hb,hr,hk⟩:=ih n a e cs _ hte hc2;unfold World.cells? at hc;split at hc
       ·have hl:=mapM_some_length hc;rw[List.length_range,hsz]at hl;have hcell:∀(j:Nat)(v:Value),cs[j]? = some v->w.cell? ((ad.add (i*P.cellsOf e)).add j)=some v:=by
         intro j v hj;have hj':j<cs.length:=by
          by_cases q:j<cs.length
          ·exact q
          ·rw[List.getElem?_eq_none oA]at hj;cases hj
         have:=mapM_some_get hc j j (by rw[List.getElem?_range oA])
         rw[this,hj]
        have hspot:ad.spot=none:=by
         have g0:=hget 0 oA
         rw[List.getElem?_eq_getElem oA]at g0
         obtain⟨cs0,hc0,_⟩:=Option.bind_eq_some_iff.1 g0;unfold World.cells? at hc0;split at hc0
         ·have jc:=mapM_some_length hc0;rw[List.length_range,hsz]at jc;have:=mapM_some_get hc0 0 0 (by rw[List.getElem?_range oA])
          rw[List.getElem?_eq_getElem oA]at this
          simp[Nat.zero_mul,Addr.add,if_true]at this;unfold World.cell? at this
          cases hs:ad.spot with
          |none=>rfl|some q=>
           rw[hs]at this;split at this
           ·simp at this
           ·cases this
         ·cases hc0
        refine⟨x,oA,hb,hspot,?_,hk⟩
        refine mn.1 (ak.cells _ cs _ hr (qeb a x cs hr) (fun j v hj => ?_))
        have:=hcell j v hj;rw[hsz]at this;have ea:(ad.add (i*a.sz)).add j=⟨ad.block,ad.off+i*a.sz+j,none⟩:=by
         obtain⟨b,o,s⟩:=ad;simp at hspot;subst hspot;unfold Addr.add;by_cases q1:i*a.sz=0
         ·by_cases q2:j=0
          ·simp[q1,q2]
          ·simp[q1,q2]
         ·by_cases q2:j=0
          ·simp[q1,q2]
          ·simp[q1,q2]
        rw[ea]at this;exact this
       ·cases hc
      have lst:∀k,k<=len->∃l:List a.den,l.length=k/\(∀x∈l,a.bd x)/\(∀(j:Nat)(x:a.den),l[j]? = some x->a.At (Gw w).imm x ad.block (ad.off+j*a.sz))/\(l.map a.bk).sum<=B.ba ((elems.take k).map (·.1)):=by
       intro k
       induction k with
       |zero=>intro _;exact⟨[],rfl,fun x hx=>(by cases hx),fun j x hj=>(by simp at hj),oC⟩
       |succ k ihk=>
        intro hk;obtain⟨l,l1,l2,l3,l4⟩:=ihk oA
        obtain⟨x,hx,x1,_,x2,x3⟩:=each k oA
        refine⟨l++[x],by simp[l1],fun y hy => ?_,fun j y hj => ?_,?_⟩
        ·rcases List.mem_append.1 hy with q|q
         ·exact l2 y q
         ·rw[List.mem_singleton]at q;subst q;exact x1
        ·by_cases q:j<l.length
         ·rw[List.getElem?_append_left q]at hj;exact l3 j y hj
         ·rw[List.getElem?_append_right oA]at hj
          have:j=k:=by
           by_cases q2:j-l.length=0
           ·omega
           ·rw[List.getElem?_eq_none oD]at hj;cases hj
          subst this;rw[l1,Nat.sub_self]at hj;cases hj
          exact x2
        ·rw[List.take_succ_eq_append_getElem hx,List.map_append,List.map_append,B.app,List.sum_append];simp only[List.map_cons,List.map_nil,B.cons,B.nil,List.sum_cons,List.sum_nil];omega
      obtain⟨l,l1,l2,l3,l4⟩:=lst len (wF _);refine⟨l,⟨by show l.length<=maxLen;omega,l2⟩,⟨⟨some ad,cap,by rw[← l1],oA,?_⟩,trivial⟩,?_⟩
      rotate_left
      ·rw[List.take_of_length_le oA]at l4
       rw[B.sl];show(l.map a.bk).sum+1<=_;omega
      by_cases q:l=[]
      ·exact .inl q
      ·obtain⟨_,_,_,hs,_⟩:=each 0 (by have:=List.length_pos_iff.2 q;omega)
       refine .inr ⟨ad.block,ad.off,?_,l3⟩;cases ad;simp at hs;subst hs;rfl
    ·cases ht
def zdh(B:mp H){r:Reach}{bb n:Nat}{τ:Ty}{t:TypeId}{v:Value}{d:DataW H}{ps:List MemPlace}(ht:cf P n τ t=true)(hv:Value.okWide P w r bb t v)(h:DataW.Trod enc P w base spare held t v d ps) :
  ∃x:τ.den,τ.bd x/\aj (τ.av x) (Gw w) v/\τ.bk x<=B.b d:=by
 obtain⟨m,hm⟩:=h;obtain⟨x,hb,hr,hk⟩:=zdi B m n τ t _ _ ht hm;refine⟨x,hb,?_,hk⟩
 cases n with
 |zero=>simp[cf]at ht|succ n=>
  cases τ with
  |int k=>obtain⟨_,rfl⟩:=okWide_int (q34 ht) hv;exact hr.1
  |byte=>obtain⟨_,rfl⟩:=okWide_int (q33 ht) hv;exact hr.1
  |bool=>obtain⟨_,rfl⟩:=okWide_bool (q32 ht) hv;exact hr.1
  |str=>obtain⟨_,rfl⟩:=okWide_string (q35 ht) hv;exact hr.1
  |unit=>simp[cf]at ht|tree a=>
   unfold cf at ht;split at ht
   ·rename_i fs hu;obtain⟨cs,rfl,_⟩:=okWide_struct hu hv;exact⟨cs,rfl,hr⟩
   ·cases ht
  |prod a b=>
   unfold cf at ht;split at ht
   ·rename_i fs hu;obtain⟨cs,rfl,_⟩:=okWide_struct hu hv;exact⟨cs,rfl,hr⟩
   ·cases ht
  |list a=>
   unfold cf at ht;split at ht
   ·rename_i e hu;obtain⟨_,_,_,rfl⟩:=okWide_slice hu hv;exact hr.1
   ·cases ht
end
end Go.Sym
namespace Go.Sym
open Go.ChangeShapes Go.WideShapes Go.ChangeAt Go.RowKit
variable[LC]
def sv(P:Program)(n:Nat):List Ty->List TypeId->Bool|[],[]=>true|τ::τs,t::ts=>cf P n τ t&&sv P n τs ts|_,_=>false
def bds:(τs:List Ty)->Pts.den (τs.map .h)->Prop|[],_=>True|τ::τs,x=>τ.bd x.1/\bds τs x.2
section
variable{H:Type}{enc:TypeId×Value->H}{P:Program}{w:World}{base:Nat}{spare:Nat->Bool}{held:Bool}
def ug:(τs:List Ty)->Pts.den (τs.map .h)->Nat|[],_=>0|τ::τs,x=>τ.bk x.1+ug τs x.2
def q1x(B:mp H){r:Reach}{bb n:Nat}:∀(τs:List Ty)(ts:List TypeId)(vs:List Value)(ds:List (DataW H))(ps:List MemPlace),sv P n τs ts=true ->
  (∀(j:Nat) t v,ts[j]? = some t->vs[j]? = some v->Value.okWide P w r bb t v)->DataW.TrodAll enc P w base spare held ts vs ds ps ->
  ∃x:Pts.den (τs.map .h),bds τs x/\ak (Pts.put (τs.map .h) x) (Gw w) vs/\ug τs x<=B.ba ds
 |[],[],vs,ds,ps,_,_,h=>by
  obtain⟨rfl,rfl,_⟩:=trodAll_nil h;exact⟨(),trivial,trivial,Nat.zero_le _⟩
 |τ::τs,t::ts,vs,ds,ps,h1,h2,h=>by
  obtain⟨v,vs',d,ds',p,q,rfl,rfl,rfl,hd,hr⟩:=trodAll_cons h;simp[sv,qA]at h1;obtain⟨x,xb,xr,xk⟩:=zdh B h1.1 (h2 0 t v rfl rfl) hd;obtain⟨y,yb,yr,yk⟩:=q1x B τs ts vs' ds' q h1.2 (fun j t v ht hv=>h2 (j+1) t v ht hv) hr
  exact⟨(x,y),⟨xb,yb⟩,⟨xr,yr⟩,by rw[B.cons];show τ.bk x+ug τs y<=_;omega⟩
 |[],_::_,_,_,_,h,_,_=>by simp[sv]at h|_::_,[],_,_,_,h,_,_=>by simp[sv]at h
def q3i{W W':World}(laid:laidOutB P=true)(hb:Below W.heap.size W W'):∀(ts:List TypeId)(vs:List Value)(ds:List (DataW H))(ps:List MemPlace),
  ts.all (fun t=>P.readableRec t&&decide (t<P.types.size))=true->DataW.TrodAll enc P W 0 (fun _=>true) true ts vs ds ps->DataW.TrodAll enc P W' 0 (fun b=>decide (b<W.heap.size)) true ts vs ds ps
 |[],vs,ds,ps,_,h=>by
  obtain⟨rfl,rfl,rfl⟩:=trodAll_nil h;exact trodAll_mk0
 |t::ts,vs,ds,ps,h1,h=>by
  obtain⟨v,vs',d,ds',p,q,rfl,rfl,rfl,hd,hr⟩:=trodAll_cons h;simp only[List.all_cons,qA,decide_eq_true_eq]at h1;have lt:∀x∈p,x.block<W.heap.size:=by obtain⟨m,hm⟩:=hd;exact DataW.trod_lt m _ _ _ hm
  exact trodAll_cons_mk (Below.trod laid h1.1.1 h1.1.2 hd hb lt) (q3i laid hb ts vs' ds' q h1.2 hr)
end
def zfm{P:Program}{f:FuncId}{xs:List AV}(h:bm P f xs [] (.bool true) [])(vs:List Value)(w:World)(ht:LC.tab (Gw w).imm w)(hr:ak xs (Gw w) vs) :
  Calls P f vs.toArray w fun e w'=>e = .returned (.bool true)/\Below w.heap.size w w':=by
 refine(h w (Gw w) vs (q72 w ht) hr).mono ?_;rintro e w' ⟨v,G,rfl,hfin,hrep⟩
 have hv:v = .bool true:=hrep;subst hv;refine⟨rfl,hfin.bel.os,hfin.bel.tape,hfin.bel.output,hfin.bel.size,fun k hk=>hfin.bel.block k hk ?_⟩
 rintro⟨n,bx,hl,_⟩
 cases hl
def zcn{H:Type}{enc:TypeId×Value->H}{C:Checked}{os:Os}{f:FuncId}{fn:Func}{s:ChangeSpec}{so:OpenSpec}{F:Stop.Interp}{conds:List PathCond}{t:TypeId}{n:Nat}(τs:List Ty)(l:List (String×DataW Unit))(B:mp H)(M:Nat)
  (small:(H:Type)->List (DataW H)->Bool) (hso:so={ OpenSpec.ofChange s with cond:=some small }) (hsm:∀ds:List (DataW H),small H ds=true->B.ba ds<=M)
  (own:ownKnob C.prog.godebug=none) (laid:laidOutB C.prog=true) (started:os.Started) (noInit:C.prog.inits.idxOf? f=none) (hfn:C.prog.funcs[f]? = some fn)
  (witness:∃(w:World)(tape:Tape)(i:Input),w.os=os/\(w.forCall tape i).Shaped C.prog/\i.vars=[]/\Input.okWide C.prog (w.forCall tape i) .any w.heap.size f i /\
   so.preRow enc C.prog fn conds false l (w.forCall tape i).memory i.args/\({}:Assume).holds C.prog (lone (Frame.enter C.prog f i.args .normal) [] (w.forCall tape i)))
  (hvars:s.vars=[]) (hspec:∀ds:List (DataW H),ds.length=fn.params.size->s.fn H ds={ results:=[.lit (.bool true)],args:=ds })
  (htys:sv C.prog n τs fn.params.toList=true) (hread:fn.params.toList.all (fun t=>C.prog.readableRec t&&decide (t<C.prog.types.size))=true)
  (hres:fn.resultTypes=#[t]) (hbool:C.prog.underlying t=some .bool)
  (htab:∀W:World,laidMetH C.prog l W->W.ShapedOpen C.prog->LC.tab (Gw W).imm W)
  (hcall:∀x:Pts.den (τs.map .h),bds τs x->ug τs x<=M->bm C.prog f (Pts.put (τs.map .h) x) [] (.bool true) []) :
  ReturnsInHanded {} C os f .any (so.preRow enc C.prog fn conds false l) ((so.at F).post enc C.prog fn false true false false):=by
 subst hso;refine returnsInHanded_of_row own started noInit hfn witness ?_;intro W base args ds gs before hval hW _ hcond _ hlaid hsh _;have hW':=hW;obtain⟨p,q,hA,hV,rfl,_,_⟩:=hW;rw[show({ OpenSpec.ofChange s with cond:=some small }:OpenSpec).vars=[] from hvars]at hV
 obtain⟨rfl,rfl⟩:=trodVars_none hV;have hk:=hsm _ (hcond small rfl);rw[List.append_nil]at hk;have hl:ds.length=fn.params.size:=by
  have key:∀(ts:List TypeId)(vs:List Value)(ds:List (DataW H))(ps:List MemPlace),DataW.TrodAll enc C.prog W 0 (fun _=>true) true ts vs ds ps->ds.length=ts.length:=by
   intro ts
   induction ts with
   |nil=>intro vs ds ps h;obtain⟨_,rfl,_⟩:=trodAll_nil h;rfl
   |cons t ts ih=>
    intro vs ds ps h;obtain⟨v,vs',d,ds',p,q,_,rfl,_,_,hr⟩:=trodAll_cons h;rw[qL,qL,ih _ _ _ hr]
  rw[key _ _ _ _ hA,Array.length_toList]
 obtain⟨x,xb,xr,xk⟩:=q1x B τs fn.params.toList args.toList ds p htys (fun j t v ht hv=>hval j t v (by rw[← Array.getElem?_toList];exact ht) (by rw[← Array.getElem?_toList];exact hv)) hA
 have hc:=zfm (hcall x xb (Nat.le_trans xk hk)) args.toList W (htab W hlaid hsh) xr;rw[Array.toArray_toList]at hc;refine hc.mono fun e W'⟨he,bel⟩ => ?_
 subst he;refine⟨_,rfl,ds,[],p++[],[],p,[],hW',?_⟩;show DataW.TrodAll _ _ _ _ _ _ _ _ _ _/\_;rw[List.append_nil,show((OpenSpec.at { OpenSpec.ofChange s with cond:=some small } F).fn H ds)=s.fn H ds from rfl,hspec ds hl,hres]
 exact⟨trodAll_mk1 (shut_bool hbool _),q3i laid bel _ _ _ _ hread hA,(by rw[show((OpenSpec.at { OpenSpec.ofChange s with cond:=some small } F).vars)=[] from hvars];rfl),bel.frame _,fun h=>by cases h⟩
def rn(a b:Int):Bool:=decide (a=b)
def ur:(τ:Ty)->τ.den->DataW Unit->Bool|.int k,x,.lit (.int k' n)=>decide (k'=k)&&rn n x|.byte,x,.lit (.int k' n)=>decide (k' = .u8)&&rn n x.toNat|.prod .byte .byte,x,.agg [.lit (.int _ a),.lit (.int _ b)]=>rn a x.1.toNat&&rn b x.2.toNat|_,_,_=>false
def ut(τ:Ty):List τ.den->List (DataW Unit)->Bool|[],[]=>true|x::l,d::ds=>ur τ x d&&ut τ l ds|_,_=>false
def qe4(P:Program)(t:TypeId):Bool:=match P.underlying t with|some (.int .u8)=>Nat.beq (P.cellsOf t) 1|_=>false
def qd9(P:Program)(t:TypeId):Ty->Bool
 |.int k=>match P.underlying t with|some (.int k')=>decide (k'=k)|_=>false
 |.byte=>match P.underlying t with|some (.int .u8)=>true|_=>false
 |.prod .byte .byte=>match P.underlying t with
  |some (.struct fs)=>match fs.toList with|[f,g]=>Nat.beq f.offset 0&&Nat.beq g.offset 1&&qe4 P f.type&&qe4 P g.type&&Nat.beq (P.cellsOf t) 2|_=>false
  |_=>false
 |_=>false
section
variable{P:Program}{w:World}{base:Nat}{sp:Nat->Bool}
def zbc{m:Nat}{τ:Ty}{t:TypeId}{cs:List Value}{y:DataW Unit×List MemPlace}{x:τ.den}(ht:qd9 P t τ=true)(h:DataW.trod (fun _=>()) P w base sp false m t cs=some y)(hx:ur τ x y.1=true):ak (τ.enc x) (Gw w) cs/\∀v∈cs,v.oneCell'=true:=by
 unfold qd9 at ht;split at ht
 ·rename_i k;split at ht
  ·rename_i k' hu;have hk:k'=k:=of_decide_eq_true ht;subst hk;obtain⟨n,rfl,rfl,_⟩:=DataW.trod_int hu h;simp only[ur,rn,qA,decide_eq_true_eq]at hx;obtain⟨_,rfl⟩:=hx;exact⟨⟨rfl,trivial⟩,fun v hv=>by rw[List.mem_singleton]at hv;subst hv;rfl⟩
  ·cases ht
 ·split at ht
  ·rename_i hu;obtain⟨n,rfl,rfl,_⟩:=DataW.trod_int hu h;simp only[ur,rn,qA,decide_eq_true_eq]at hx;obtain⟨_,rfl⟩:=hx;exact⟨⟨rfl,trivial⟩,fun v hv=>by rw[List.mem_singleton]at hv;subst hv;rfl⟩
  ·cases ht
 ·split at ht
  ·rename_i fs hu;split at ht
   ·rename_i f g hfs;simp only[qA]at ht;obtain⟨⟨⟨⟨o1,o2⟩,u1⟩,u2⟩,c2⟩:=ht;have o1:=qN o1;have o2:=qN o2;have c2:=qN c2;have key:∀t,qe4 P t=true->P.underlying t=some (.int .u8)/\P.cellsOf t=1:=fun t h=>by
     unfold qe4 at h;split at h
     ·rename_i hu;exact⟨hu,qN h⟩
     ·cases h
    obtain⟨k1,s1⟩:=key _ u1;obtain⟨k2,s2⟩:=key _ u2;obtain⟨xs,n,rfl,rfl,hl,hxl,hg⟩:=DataW.trod_struct hu h;have g0:=hg 0 f (by rw[← Array.getElem?_toList,hfs];rfl)
    have g1:=hg 1 g (by rw[← Array.getElem?_toList,hfs];rfl)
    have hsz:fs.size=2:=by rw[← Array.length_toList,hfs];rfl
    rw[hsz]at hxl;rw[c2]at hl
    match cs,hl with
    |[a,b],_=>
     match xs,hxl with
     |[p,q],_=>
      rw[o1,s1]at g0;rw[o2,s2]at g1;obtain⟨n1,e1,rfl,_⟩:=DataW.trod_int k1 g0;obtain⟨n2,e2,rfl,_⟩:=DataW.trod_int k2 g1;simp only[List.drop_zero,List.take_succ_cons,List.take_zero,List.cons.injEq,and_true]at e1;simp only[List.drop_succ_cons,List.drop_zero,List.take_succ_cons,List.take_zero,List.cons.injEq,and_true]at e2;subst e1 e2;simp only[List.map_cons,List.map_nil,ur,rn,qA,decide_eq_true_eq]at hx;obtain⟨rfl,rfl⟩:=hx;exact⟨⟨rfl,rfl,trivial⟩,fun v hv=>by
       rcases List.mem_cons.1 hv with rfl|hv
       ·rfl
       ·rw[List.mem_singleton]at hv;subst hv;rfl⟩
   ·cases ht
  ·cases ht
 ·cases ht
def qzn{τ:Ty}:∀{l:List τ.den}{ds:List (DataW Unit)},ut τ l ds=true->l.length=ds.length/\∀(j:Nat)(x:τ.den),l[j]? = some x->∃d,ds[j]? = some d/\ur τ x d=true
 |[],[],_=>⟨rfl,fun j x h=>by simp at h⟩
 |[],_::_,h=>by simp[ut]at h|_::_,[],h=>by simp[ut]at h|y::l,d::ds,h=>by
  simp only[ut,qA]at h;obtain⟨i1,i2⟩:=qzn h.2;refine⟨by simp[i1],fun j x hx => ?_⟩
  match j with|0=>simp only[List.getElem?_cons_zero,qI]at hx;subst hx;exact⟨d,rfl,h.1⟩|j+1=>exact i2 j x hx
def qft(P:Program)(g:Nat)(τ:Ty)(l:List τ.den)(n:Nat)(d:DataW Unit):Bool:=match(P.globals[g]?).map (·.type) with
 |some t=>match P.underlying t,d with|some (.array _m E),.agg ds=>qd9 P E τ&&(Nat.beq (P.cellsOf E) τ.sz&&(Nat.beq (P.cellsOf t) n&&ut τ l ds))|_,_=>false
 |none=>false
def zd9{g:Nat}{τ:Ty}{l:List τ.den}{n:Nat}{d:DataW Unit}(h:qft P g τ l n d=true){t:TypeId}{cs:Array Value}{fuel:Nat}{p:List MemPlace}(ht:(P.globals[g]?).map (·.type)=some t)
  (hc:∃u fr,w.heap[g]? = some (.cells cs u fr)) (hd:DataW.trod (fun _=>()) P w base sp false fuel t cs.toList=some (d,p)) :
  cs.size=n/\∀(j:Nat)(x:τ.den),l[j]? = some x->τ.At (Gw w).imm x g (j*τ.sz):=by
 unfold qft at h;rw[ht]at h;simp only at h;split at h
 ·rename_i m E ds hu;simp only[qA]at h;obtain⟨h1,h2,h3,h4⟩:=h;have h2:=qN h2;have h3:=qN h3;obtain⟨xs,m',rfl,e,hl,hxl,hg⟩:=DataW.trod_array hu hd;simp only[qP,DataW.agg.injEq]at e;obtain⟨rfl,rfl⟩:=e;obtain⟨dl,dg⟩:=qzn h4;refine⟨by rw[← Array.length_toList,hl,h3],fun j x hx => ?_⟩
  obtain⟨d,hd1,hd2⟩:=dg j x hx;rw[List.getElem?_map]at hd1;obtain⟨y,hy,rfl⟩:=Option.map_eq_some_iff.1 hd1;have hj:j<m:=by rw[← hxl];exact(List.getElem?_eq_some_iff.1 hy).1
  have:=hg j hj;rw[hy]at this;obtain⟨r1,r2⟩:=zbc h1 this hd2;refine mn.1 (ak.cells _ _ _ r1 r2 fun i v hv => ?_)
  rw[h2,List.getElem?_take]at hv;split at hv
  ·rw[List.getElem?_drop]at hv;obtain⟨u,fr,hh⟩:=hc;simp only[World.cell?,hh];rw[← Array.getElem?_toList];exact hv
  ·cases hv
 ·cases h
def qoo{laid:List (String×DataW Unit)}{n:String}{d:DataW Unit}:∀{l:List (String×DataW Unit)}{ps:List MemPlace},DataW.LaidVars P w l ps->(n,d)∈l ->
  ∃g t cs fuel p,P.globalNamed n=some g/\(P.globals[g]?).map (·.type)=some t/\(∃u fr,w.heap[g]? = some (.cells cs u fr))/\DataW.trod (fun _=>()) P w 0 (fun _=>true) false fuel t cs.toList=some (d,p)
 |[],_,_,h=>by cases h
 |(n',d')::r,ps,hl,h=>by
  obtain⟨g,t,cs,fuel,p,q,h1,h2,h3,h4,h5,_⟩:=hl;rcases List.mem_cons.1 h with e|h
  ·simp only[qP]at e;obtain⟨rfl,rfl⟩:=e;refine⟨g,t,cs,fuel,p,h1,h2,?_,h4⟩;unfold World.var? at h3;rw[h1,qB]at h3;split at h3
   ·rename_i c u fr hh;have:=qJ h3;subst this;exact⟨u,fr,hh⟩
   ·cases h3
  ·exact qoo (laid:=laid) h5 h
end
def qpt(P:Program)(laid:List (String×DataW Unit))(e:Nat×Nat):Bool:=match LC.glob e.1 with
 |some ⟨τ,l⟩=>Nat.blt 0 l.length&&laid.any fun x=>match P.globalNamed x.1 with|some g=>Nat.beq g e.1&&qft P e.1 τ l e.2 x.2|none=>false
 |none=>false
def zb1(P:Program)(laid:List (String×DataW Unit))(g:Nat):Bool:=laid.any fun x=>match P.globalNamed x.1 with
 | some g'=>Nat.beq g' g&&(match(P.globals[g]?).map (·.type) with
  |some t=>match P.underlying t,x.2 with|some (.interface _),.iface _ _=>true|_,_=>false
  | none=>false)
 |none=>false
def zby{P:Program}{laid:List (String×DataW Unit)}{W:World}(h:laidMetH P laid W)(hh:(laid.all fun x=>x.2.handleName?.isNone)=true)
  (hg:∀g τ l,LC.glob g=some ⟨τ,l⟩->∃n,(g,n)∈LC.sizes) (hs:LC.sizes.all (qpt P laid)=true) (hi:LC.ifs.all (zb1 P laid)=true) (hn:∀g∈LC.ints,∃k,W.cell? ⟨g,0,none⟩=some (.int .i64 k)):LC.tab (Gw W).imm W:=by
 rw[MakeChecks.laidMetH_plain _ _ _ hh]at h;obtain⟨ps,hl,_⟩:=h;have key:∀e∈LC.sizes,∃τ l,LC.glob e.1=some ⟨τ,l⟩/\0<l.length/\∃(cs:Array Value)(u:TypeId)(fr:Nat×Nat),W.heap[e.1]? = some (.cells cs u fr)/\cs.size=e.2/\∀(j:Nat)(x:τ.den),l[j]? = some x->τ.At (Gw W).imm x e.1 (j*τ.sz):=fun e he=>by
  have h1:=List.all_eq_true.1 hs e he;unfold qpt at h1;split at h1
  ·rename_i τ l hgl;rw[qA]at h1;obtain⟨x,hx,h2⟩:=List.any_eq_true.1 h1.2;split at h2
   ·rename_i g hgn;rw[qA]at h2;have:=qN h2.1;subst this;obtain⟨g',t,cs,fuel,p,k1,k2,⟨u,fr,k3⟩,k4⟩:=qoo (laid:=laid) hl (n:=x.1) (d:=x.2) hx;rw[hgn]at k1;have:=qJ k1;subst this;obtain⟨r1,r2⟩:=zd9 h2.2 k2 ⟨u,fr,k3⟩ k4;exact⟨τ,l,hgl,Nat.le_of_ble_eq_true h1.1,cs,u,fr,k3,r1,r2⟩
   ·cases h2
  ·cases h1
 refine⟨fun g τ l hgl j x hx => ?_,fun g hgi => ?_,fun g hgi => ?_,fun e he => ?_⟩
 ·obtain⟨n,hn⟩:=hg g τ l hgl;obtain⟨τ',l',h1,_,cs,u,fr,_,_,h5⟩:=key _ hn;rw[hgl]at h1;cases h1
  exact h5 j x hx
 ·obtain⟨k,hk⟩:=hn g hgi;exact⟨k,ql5 hk rfl⟩
 ·have h1:=List.all_eq_true.1 hi g hgi;obtain⟨x,hx,h2⟩:=List.any_eq_true.1 h1;split at h2
  ·rename_i g' hgn;rw[qA]at h2;have:=qN h2.1;subst this;obtain⟨g2,t,cs,fuel,p,k1,k2,⟨u,fr,k3⟩,k4⟩:=qoo (laid:=laid) hl (n:=x.1) (d:=x.2) hx;rw[hgn]at k1;have:=qJ k1;subst this;have h3:=h2.2;rw[k2]at h3;simp only at h3;split at h3
   ·rename_i ms nm d hu hd;rw[hd]at k4;obtain⟨_,u',v,hcs,_,_⟩:=iface_of_trod hu k4;refine⟨u',v,ql5 ?_ rfl⟩;simp only[World.cell?,k3];rw[← Array.getElem?_toList,hcs];rfl
   ·cases h3
  ·cases h2
 ·obtain⟨τ,l,h1,h2,cs,u,fr,h3,h4,h5⟩:=key e he;refine⟨?_,cs,u,fr,h3,h4⟩;have h6:=h5 0 l[0] (by simp[h2])
  have:∃o v,(Gw W).imm e.1 o=some v:=by
   have hx:=List.all_eq_true.1 hs e he;unfold qpt at hx;rw[h1]at hx;simp only[qA]at hx;obtain⟨x,_,hx⟩:=List.any_eq_true.1 hx.2;split at hx
   ·rw[qA]at hx;have hx:=hx.2;unfold qft at hx;split at hx
    ·split at hx
     ·simp only[qA]at hx;have hx:=hx.1;unfold qd9 at hx;split at hx
      ·exact⟨_,_,h6⟩
      ·exact⟨_,_,h6⟩
      ·exact⟨_,_,h6.1⟩
      ·cases hx
     ·cases hx
    ·cases hx
   ·cases hx
  exact this
section
variable{H:Type}{enc:TypeId×Value->H}
def zfo{C:Checked}{os:Os}{f:FuncId}{fn:Func}{s:OpenSpec}{conds:List PathCond}{apart:Bool}{laid:List (String×DataW Unit)}(modest:Bool)(w0:World)(args:Array Value)(hos:w0.os=os)
  (hsh:(w0.forCall (fun _ _=>0) ⟨#[],args,[]⟩).Shaped C.prog) (hok:Input.okWideB C.prog (w0.forCall (fun _ _=>0) ⟨#[],args,[]⟩) f ⟨#[],args,[]⟩=true)
  (hrow:s.preRow enc C.prog fn conds apart laid (w0.forCall (fun _ _=>0) ⟨#[],args,[]⟩).memory args) :
  ∃(w:World)(tape:Tape)(i:Input),w.os=os/\(w.forCall tape i).Shaped C.prog/\i.vars=[]/\Input.okWide C.prog (w.forCall tape i) .any w.heap.size f i /\
   s.preRow enc C.prog fn conds apart laid (w.forCall tape i).memory i.args/\({ modest:=modest }:Assume).holds C.prog (lone (Frame.enter C.prog f i.args .normal) [] (w.forCall tape i)):=
 ⟨w0,fun _ _=>0,⟨#[],args,[]⟩,hos,hsh,(Input.okWide_of_okWideB (base:=0) hok).1,(Input.okWide_of_okWideB hok).2,hrow,by
  simp only[Assume.holds];exact⟨oC,oC,fun _=>Modest.zero,oC,oC⟩⟩
end
end Go.Sym
namespace Go.Sym
set_option linter.unusedVariables false
abbrev wU : Type := Tree (List (Bs × Bs) × Bs)
abbrev wV : Type := List (Bs × Bs)
section
variable(fu:Nat)
def ze3:List Int:=[1,10,100,1000,10000,100000,1000000,10000000,100000000,1000000000,10000000000,100000000000,1000000000000,10000000000000,100000000000000,1000000000000000,10000000000000000,100000000000000000,1000000000000000000,10000000000000000000]
def qa2:List UInt8:=[240,240,240,240,240,240,240,240,240,240,240,240,240,240,240,240,240,240,240,240,240,240,240,240,240,240,240,240,240,240,240,240,240,240,240,240,240,240,240,240,240,240,240,240,240,240,240,240,240,240,240,240,240,240,240,240,240,240,240,240,240,240,240,240,240,240,240,240,240,240,240,240,240,240,240,240,240,240,240,240,240,240,240,240,240,240,240,240,240,240,240,240,240,240,240,240,240,240,240,240,240,240,240,240,240,240,240,240,240,240,240,240,240,240,240,240,240,240,240,240,240,240,240,240,240,240,240,240,241,241,241,241,241,241,241,241,241,241,241,241,241,241,241,241,241,241,241,241,241,241,241,241,241,241,241,241,241,241,241,241,241,241,241,241,241,241,241,241,241,241,241,241,241,241,241,241,241,241,241,241,241,241,241,241,241,241,241,241,241,241,241,241,241,241,2,2,2,2,2,2,2,2,2,2,2,2,2,2,2,2,2,2,2,2,2,2,2,2,2,2,2,2,2,2,19,3,3,3,3,3,3,3,3,3,3,3,3,35,3,3,52,4,4,4,68,241,241,241,241,241,241,241,241,241,241,241]
def qa3:List (UInt8×UInt8):=[(128,191),(160,191),(128,159),(144,191),(128,143),(0,0),(0,0),(0,0),(0,0),(0,0),(0,0),(0,0),(0,0),(0,0),(0,0),(0,0)]
def au(b:Int)(a:Int):Option ((Int×Int)):=some (b,a)
def qs7(a:UInt8):Option Bool:=bif decide (33<=a) then bif decide (a<=126) then some (a != 58) else some false else some false
abbrev e9:=Bs->Int->Int->Option Bool
def qr4(fu:Nat)(d:e9):e9:=fun b c a=>bif decide (a<c) then(al b a).bind fun e=>(qs7 e).bind fun f=>bif !f then some false else d b c (af (a+1)) else some true
def qgx(fu:Nat):Nat->e9|0=>fun _ _ _=>none|n+1=>qr4 fu (qgx fu n)
def qr3(a:Bs):Option Bool:=qgx fu fu a (a.length:Int) 0
def qs6(a:Bs):Option Bool:=bif !(a==([]:Bs)) then bif decide ((a.length:Int)<=60) then(qr3 fu a).bind fun b=>some b else some false else some false
def qwt(a:Int):Option Bool:=some (decide (8<a))
abbrev w9:=Bs->Int->(List Bool)->Option ((List Bool)×Bool)
def qws(fu:Nat)(e:w9):w9:=fun b d a=>bif decide (d<(b.length:Int)) then(al b d).bind fun c=>bif decide (128<=c) then bif decide (a.length=256) then bif decide (a.length=a.length)&&decide (a.length=256) then bif decide (a.length=256)&&(true&&true) then some (a,false) else none else none else none else(a[c.toNat]?).bind fun f=>e b (af (d+1)) (List.set a c.toNat true) else bif decide (a.length=256) then bif decide (a.length=a.length)&&decide (a.length=256) then bif decide (a.length=256)&&(true&&true) then some (a,true) else none else none else none
def qk5(fu:Nat):Nat->w9|0=>fun _ _ _=>none|n+1=>qws fu (qk5 fu n)
def yl(a:Bs):Option ((List Bool)×Bool):=qk5 fu fu a 0 (List.replicate 256 false)
def qcd(c:Bs)(a:UInt8):Option Int:=(mr c a).bind fun b=>some b
def qcs(c:Bs)(a:UInt8):Option Int:=(qcd c a).bind fun b=>some b
def qw9(a:Int):Option Bool:=bif decide (0<=a) then bif decide (a<55296) then some true else bif decide (57343<a) then bif decide (a<=1114111) then some true else some false else some false else bif decide (57343<a) then bif decide (a<=1114111) then some true else some false else some false
abbrev qry:=Bs->Nat->Option Int
abbrev qrz:=Bs->Bs->Int->Int->Int->Option Int
abbrev tc:=Bs->Bs->Int->Int->Option Int
def qv7(fu:Nat)(c:qry):qry:=fun b a=>bif Nat.blt a (b.length) then bif(((ej b a).1:Nat):Int)==65533 then some ((a:Nat):Int) else c b (a+(ej b a).2) else some (-1)
def qke(fu:Nat):Nat->qry|0=>fun _ _=>none|n+1=>qv7 fu (qke fu n)
def qv9(fu:Nat)(i:tc)(g:qrz):qrz:=fun e d c b a=>bif decide (a<(d.length:Int)) then(al e (af (b-a))).bind fun h=>(al d (af (c-a))).bind fun f=>bif h != f then none else g e d c b (af (a+1)) else some (af (b-c))
def qkh(fu:Nat)(a:tc):Nat->qrz|0=>fun _ _ _ _ _=>none|n+1=>qv9 fu a (qkh fu a n)
def qkg(a:tc):tc:=fun b e d c=>qkh fu a fu b e d c 1
def qv8(e:tc):tc:=fun b d c a=>bif decide (a<(b.length:Int)) then(al b a).bind fun i=>(al d c).bind fun g=>bif i != g then bif decide (0<=af (a+1)/\af (a+1)<=(b.length:Int)) then(al d c).bind fun h=>(qcs (List.drop (af (a+1)).toNat b) h).bind fun f=>bif decide (f<0) then some (-1) else qkg fu e b d c (af (a+(af (f+1)))) else none else qkg fu e b d c a else some (-1)
def qkf(fu:Nat):Nat->tc|0=>fun _ _ _ _=>none|n+1=>qv8 fu (qkf fu n)
def qkd:Bs->Int->Bool->Option Int:=fun c a b=>bif b then(qcs c (sr a)).bind fun d=>some d else bif a==65533 then qke fu fu c 0 else(qw9 a).bind fun e=>bif !e then some (-1) else qkf fu fu c (ma a) (af ((List.length (ma a):Int)-1)) (af ((List.length (ma a):Int)-1))
def qct(b:Bs)(a:Int):Option Int:=bif decide (0<=a) then qkd fu b a (decide (a<128)) else qkd fu b a false
def qcu(c:UInt8)(a:List Bool):Option (Bool×(List Bool)):=(a[c.toNat]?).bind fun b=>some (b,a)
abbrev qqj:=Bs->Int->(List Bool)->Option Int
abbrev qqk:=Bs->Bs->Nat->Option Int
def qj9:Bs->Int->Option Int:=fun b a=>(qct fu b a).bind fun c=>some c
def qv5(fu:Nat)(f:qqj):qqj:=fun b a c=>bif decide (a<(b.length:Int)) then(al b a).bind fun e=>(qcu e c).bind fun d=>bif d.1 then some a else f b (af (a+1)) d.2 else some (-1)
def qka(fu:Nat):Nat->qqj|0=>fun _ _ _=>none|n+1=>qv5 fu (qka fu n)
def qv6(e:qqk):qqk:=fun c b a=>bif Nat.blt a (b.length) then(qct fu c (((ej b a).1:Nat):Int)).bind fun d=>bif decide (0<=d) then some ((a:Nat):Int) else e c b (a+(ej b a).2) else some (-1)
def qkc(fu:Nat):Nat->qqk|0=>fun _ _ _=>none|n+1=>qv6 fu (qkc fu n)
def qkb:Bs->Bs->Option Int:=fun a b=>qkc fu fu b a 0
def qv4(b:Bs)(a:Bs):Option Int:=bif a==([]:Bs) then some (-1) else bif(a.length:Int)==1 then(al a 0).bind fun d=>bif decide (128<=(d.toNat:Int)) then qj9 fu b 65533 else qj9 fu b (d.toNat:Int) else(qwt (b.length:Int)).bind fun e=>bif e then(yl fu a).bind fun c=>bif decide (c.1.length=List.length (List.replicate 256 false))&&decide (c.1.length=256) then bif c.2 then qka fu fu b 0 c.1 else qkb fu b a else none else qkb fu b a
def qv1(c:Bs)(a:Bs):Option Bool:=(qv4 fu c a).bind fun b=>some (decide (0<=b))
def qs5(b:Bs):Option Bool:=(qv1 fu b [13,10,0]).bind fun a=>some a
def qg(a:UInt8):Option Bool:=bif a==32 then some true else some (a==9)
def qta(a:Bs):Option Bool:=(qs5 fu a).bind fun b=>bif !b then bif a==([]:Bs) then some true else(al a 0).bind fun c=>(qg c).bind fun e=>bif !e then(al a (af ((a.length:Int)-1))).bind fun f=>(qg f).bind fun d=>some (!d) else some false else some false
abbrev oe:=Bs->Int->Int->Option Int
def qh9(fu:Nat)(b:oe):Bs->Int->Int->Bool->Option Int:=fun c d a e=>bif e then b c d (af (a+1)) else bif decide (0<d) then bif decide (78<a) then some d else b c a (af (a+1)) else b c a (af (a+1))
def qs9(d:oe):oe:=fun b c a=>bif decide (a<(b.length:Int)) then(al b a).bind fun f=>(qg f).bind fun h=>bif !h then qh9 fu d b c a true else(al b (af (a-1))).bind fun e=>(qg e).bind fun g=>qh9 fu d b c a g else some c
def qh8(fu:Nat):Nat->oe|0=>fun _ _ _=>none|n+1=>qs9 fu (qh8 fu n)
def qs8(b:Bs)(a:Int):Option Int:=qh8 fu fu b 0 (if 1>a then 1 else a)
def ce:Option ((Int×Int)):=some (0,0)
abbrev qq0:=Int->Int->(Int×Int)->(List Bs)->Option ((Int×Int)×(List Bs))
abbrev qqz:=Bs->Int->(Int×Int)->(List Bs)->Option ((Int×Int)×(List Bs))
def qs4(fu:Nat)(e:qq0):qq0:=fun c a d b=>bif decide (a<c) then bif decide (0<=a/\a.toNat<b.length) then(b[a.toNat]?).bind fun f=>bif decide (998<(f.length:Int)) then(au 1 a).bind fun h=>some (h,[]) else e c (af (a+1)) d b else none else(ce).bind fun g=>some (g,b)
def qh7(fu:Nat):Nat->qq0|0=>fun _ _ _ _=>none|n+1=>qs4 fu (qh7 fu n)
def qh6:Bs->(Int×Int)->(List Bs)->Option ((Int×Int)×(List Bs)):=fun c b a=>bif decide (List.length (a++([c]:List Bs))<=a8) then qh7 fu fu (List.length (a++([c]:List Bs)):Int) 0 b (a++([c]:List Bs)) else none
def qs3(e:qqz):qqz:=fun a f d b=>bif decide (78<(a.length:Int)) then(qs8 fu a f).bind fun c=>bif c==0 then qh6 fu a d b else bif decide (0<=c/\c<=(a.length:Int)) then bif decide (List.length (b++([List.take c.toNat a]:List Bs))<=a8) then bif decide (0<=c/\c<=(a.length:Int)) then e (List.drop c.toNat a) 0 d (b++([List.take c.toNat a]:List Bs)) else none else none else none else qh6 fu a d b
def qh5(fu:Nat):Nat->qqz|0=>fun _ _ _ _=>none|n+1=>qs3 fu (qh5 fu n)
def qca(a:Bs)(b:Bs):Option ((Int×Int)×(List Bs)):=(qs6 fu a).bind fun c=>bif !c then(au 10 (-1)).bind fun g=>some (g,[]) else bif decide (4000<(b.length:Int)) then(au 1 (-1)).bind fun f=>some (f,[]) else(qta fu b).bind fun d=>bif !d then(au 11 (-1)).bind fun e=>some (e,[]) else bif decide (a.length+List.length ([58,32]:Bs)<=bg) then bif decide (List.length (a++[58,32])+b.length<=bg) then qh5 fu fu ((a++[58,32])++b) (af ((a.length:Int)+2)) (0,0) [] else none else none
def cd(a:Int×Int):Option Bool:=some (a.1 != 0)
abbrev qq8:=wV->Int->Int->(Int×Int)->Option ((Int×Int))
def qtf(g:qq8):qq8:=fun b c a d=>bif decide (a<c) then(al b a).bind fun e=>(qca fu e.1 e.2).bind fun f=>(cd f.1).bind fun j=>bif j then(au f.1.1 a).bind fun i=>some i else g b c (af (a+1)) d else(ce).bind fun h=>some h
def qig(fu:Nat):Nat->qq8|0=>fun _ _ _ _=>none|n+1=>qtf fu (qig fu n)
def qif(a:List (Bs×Bs)):Option ((Int×Int)):=bif decide (60<(a.length:Int)) then(au 2 (-1)).bind fun b=>some b else qig fu fu a (a.length:Int) 0 (0,0)
abbrev qq9:=wV->Int->Int->Int->Int->(wV×Bs)->(List Bs)->Bs->Option (Bs)
abbrev qbe:=wV->Int->Int->(wV×Bs)->Bs->Option (Bs)
def qur(fu:Nat)(j:qbe)(k:qq9):qq9:=fun d g h f a e c b=>bif decide (a<f) then bif decide (0<=a/\a.toNat<c.length) then(c[a.toNat]?).bind fun i=>bif decide (List.length (b++i)<=a8) then bif decide (List.length ((b++i)++([13,10]:Bs))<=a8) then k d g h f (af (a+1)) e c ((b++i)++([13,10]:Bs)) else none else none else none else j d g (af (h+1)) e b
def qjc(fu:Nat)(a:qbe):Nat->qq9|0=>fun _ _ _ _ _ _ _ _=>none|n+1=>qur fu a (qjc fu a n)
def quq(h:qbe):qbe:=fun d e c b a=>bif decide (c<e) then(al d c).bind fun f=>(qca fu f.1 f.2).bind fun g=>qjc fu h fu d e c (g.2.length:Int) 0 b g.2 a else bif decide (List.length (a++([13,10]:Bs))<=a8) then bif decide (List.length ((a++([13,10]:Bs))++b.2)<=a8) then some ((a++([13,10]:Bs))++b.2) else none else none
def qjb(fu:Nat):Nat->qbe|0=>fun _ _ _ _ _=>none|n+1=>quq fu (qjb fu n)
def qja(a:wV×Bs):Option (Bs):=qjb fu fu a.1 (a.1.length:Int) 0 a []
def qsc(fu:Nat)(c:oe):Bs->Int->Int->UInt8->Option Int:=fun d b e a=>bif a==13 then some 11 else bif a==10 then some 11 else bif decide (998<(af (b+1))) then some 1 else c d (af (b+1)) (af (e+1))
def qbt(b:oe):Bs->Int->Int->UInt8->Bool->Option Int:=fun c f d e a=>bif a then b c 0 (af ((af (d+1))+1)) else qsc fu b c f d e
def qsb(d:oe):oe:=fun a e b=>bif decide (b<(a.length:Int)) then(al a b).bind fun c=>bif c==13 then bif decide ((af (b+1))<(a.length:Int)) then(al a (af (b+1))).bind fun f=>qbt fu d a e b c (f==10) else qbt fu d a e b c false else qbt fu d a e b c false else some 0
def qg4(fu:Nat):Nat->oe|0=>fun _ _ _=>none|n+1=>qsb fu (qg4 fu n)
def qg3(a:Bs):Option Int:=qg4 fu fu a 0 0
def qum(c:Bs):Option ((Int×Int)):=(qg3 fu c).bind fun a=>bif a==11 then(au 11 (-5)).bind fun e=>some e else bif a==1 then(au 1 (-6)).bind fun d=>some d else(ce).bind fun b=>some b
def qci(a:wV×Bs):Option ((Int×Int)):=(qif fu a.1).bind fun b=>(cd b).bind fun f=>bif f then some b else(qja fu a).bind fun e=>bif decide (12000<(e.length:Int)) then(au 1 (-4)).bind fun c=>some c else(qum fu a.2).bind fun d=>some d
def qul(b:wV×Bs):Option ((Int×Int)×Bs):=(qci fu b).bind fun a=>(cd a).bind fun e=>bif e then some (a,[]) else(qja fu b).bind fun d=>(ce).bind fun c=>some (c,d)
def qbx(c:Bs)(a:UInt8):Option Int:=(mr c a).bind fun b=>some b
def qhh(b:Bs)(a:Bs):Option Bool:=some (b==a)
def qhi(a:Bs)(b:Bs):Option Bool:=bif decide ((b.length:Int)<=(a.length:Int)) then bif decide (0<=af ((a.length:Int)-(b.length:Int))/\af ((a.length:Int)-(b.length:Int))<=(a.length:Int)) then(qhh (List.drop (af ((a.length:Int)-(b.length:Int))).toNat a) b).bind fun c=>some c else none else some false
def qby(a:Bs)(b:Bs):Option (Bs):=(qhi a b).bind fun c=>bif c then bif decide (0<=af ((a.length:Int)-(b.length:Int))/\af ((a.length:Int)-(b.length:Int))<=(a.length:Int)) then some (List.take (af ((a.length:Int)-(b.length:Int))).toNat a) else none else some a
def qth(b:Bs):Option (Bs×Int):=(qbx b 10).bind fun a=>bif decide (a<0) then some (b,(b.length:Int)) else bif decide (0<=a/\a<=(b.length:Int)) then bif decide (0<List.length ([13]:Bs)) then(qby (List.take a.toNat b) ([13]:Bs)).bind fun c=>some (c,af (a+1)) else none else none
def qki(a:List Bs):Option (Int×Int×Int×(List Bs)):=bif(Int.tmod (a.length:Int) 2)==1 then none else bif decide (a.length<=a8) then some (0,(0,(0,a))) else none
def qce:Bs->Bs->Int->Bool->Option Int:=fun b e c a=>bif a then some 0 else bif c==1 then(al e 0).bind fun d=>(qcd b d).bind fun f=>some f else bif decide ((b.length:Int)<=c) then some (-1) else none
def qcc(b:Bs)(a:Bs):Option Int:=bif(a.length:Int)==0 then qce b a (a.length:Int) true else qce b a (a.length:Int) (a==b)
def qtj(b:Bs)(c:Bs):Option (Bs×Bs×Bool):=(qcc b c).bind fun a=>bif decide (0<=a) then bif decide (0<=a/\a<=(b.length:Int)) then bif decide (0<=af (a+(c.length:Int))/\af (a+(c.length:Int))<=(b.length:Int)) then some (List.take a.toNat b,(List.drop (af (a+(c.length:Int))).toNat b,true)) else none else none else some (b,(([]:Bs),false))
def qj8(c:Bs)(a:Bs):Option (Bs×Bs×Bool):=(qtj c a).bind fun b=>some b
abbrev ol:=Bs->UInt8->Option (Bs)
def qwy(fu:Nat)(c:ol):ol:=fun a b=>bif decide (0<(a.length:Int)) then(al a (af ((a.length:Int)-1))).bind fun d=>bif d==b then bif decide (0<=af ((a.length:Int)-1)/\af ((a.length:Int)-1)<=(a.length:Int)) then c (List.take (af ((a.length:Int)-1)).toNat a) b else none else some a else some a
def qlf(fu:Nat):Nat->ol|0=>fun _ _=>none|n+1=>qwy fu (qlf fu n)
def qle(b:Bs)(a:UInt8):Option (Bs):=qlf fu fu b a
abbrev om:=Bs->(List Bool)->Option (Bs×(List Bool))
def qwx(fu:Nat)(d:om):om:=fun a c=>bif decide (0<(a.length:Int)) then(al a (af ((a.length:Int)-1))).bind fun e=>(qcu e c).bind fun b=>bif !b.1 then some (a,b.2) else bif decide (0<=af ((a.length:Int)-1)/\af ((a.length:Int)-1)<=(a.length:Int)) then d (List.take (af ((a.length:Int)-1)).toNat a) b.2 else none else some (a,c)
def qld(fu:Nat):Nat->om|0=>fun _ _=>none|n+1=>qwx fu (qld fu n)
def qlc(b:Bs)(a:List Bool):Option (Bs×(List Bool)):=qld fu fu b a
def qlu(a:UInt8):Option Bool:=some ((a&&&192) != 128)
abbrev q6m:=UInt8->UInt8->UInt8->UInt8->Option (Int×Int)
abbrev q6l:=UInt8->UInt8->UInt8->UInt8->Bool->Option (Int×Int)
abbrev q6k:=Bs->UInt8->Int->UInt8->UInt8->Option (Int×Int)
abbrev q6j:=Bs->UInt8->Int->UInt8->UInt8->Bool->Option (Int×Int)
abbrev q6i:=Bs->UInt8->Int->UInt8->Option (Int×Int)
abbrev q6h:=Bs->UInt8->Int->UInt8->Bool->Option (Int×Int)
def qxc:q6m:=fun d b a c=>some (IntKind.i32.wrap (((BitVec.ofInt 32 (IntKind.i32.wrap (((BitVec.ofInt 32 (IntKind.i32.wrap (((BitVec.ofInt 32 (IntKind.i32.wrap (((d&&&7).toNat:Int)*2 ^ min (18:Int).toNat 32))|||BitVec.ofInt 32 (IntKind.i32.wrap (((b&&&63).toNat:Int)*2 ^ min (12:Int).toNat 32))).toNat:Int)))|||BitVec.ofInt 32 (IntKind.i32.wrap (((a&&&63).toNat:Int)*2 ^ min (6:Int).toNat 32))).toNat:Int)))|||BitVec.ofInt 32 ((c&&&63).toNat:Int)).toNat:Int)),4)
def qly:q6l:=fun e c a d b=>bif b then some (65533,1) else qxc e c a d
def qxb:q6k:=fun e d f b a=>bif decide (f<=3) then some (IntKind.i32.wrap (((BitVec.ofInt 32 (IntKind.i32.wrap (((BitVec.ofInt 32 (IntKind.i32.wrap (((d&&&15).toNat:Int)*2 ^ min (12:Int).toNat 32))|||BitVec.ofInt 32 (IntKind.i32.wrap (((b&&&63).toNat:Int)*2 ^ min (6:Int).toNat 32))).toNat:Int)))|||BitVec.ofInt 32 ((a&&&63).toNat:Int)).toNat:Int)),3) else(al e 3).bind fun c=>bif decide (c<128) then qly d b a c true else qly d b a c (decide (191<c))
def qlx:q6j:=fun d e f c b a=>bif a then some (65533,1) else qxb d e f c b
def qxa:q6i:=fun c d e a=>bif decide (e<=2) then some (IntKind.i32.wrap (((BitVec.ofInt 32 (IntKind.i32.wrap (((d&&&31).toNat:Int)*2 ^ min (6:Int).toNat 32))|||BitVec.ofInt 32 ((a&&&63).toNat:Int)).toNat:Int)),2) else(al c 2).bind fun b=>bif decide (b<128) then qlx c d e a b true else qlx c d e a b (decide (191<b))
def qlw:q6h:=fun c d e b a=>bif a then some (65533,1) else qxa c d e b
def qlv(b:Bs):Option (Int×Int):=bif decide ((b.length:Int)<1) then some (65533,0) else(al b 0).bind fun d=>(qa2[d.toNat]?).bind fun a=>bif decide (240<=a) then(al b 0).bind fun f=>some (IntKind.i32.wrap (((BitVec.ofInt 32 (IntKind.i32.wrap (((BitVec.ofInt 32 (f.toNat:Int) &&& ~~~ BitVec.ofInt 32 (Int.fdiv (IntKind.i32.wrap ((a.toNat:Int)*2 ^ min (31:Int).toNat 32)) (2 ^ min (31:Int).toNat 32))).toNat:Int)))|||BitVec.ofInt 32 (IntKind.i32.wrap (((BitVec.ofInt 32 65533&&&BitVec.ofInt 32 (Int.fdiv (IntKind.i32.wrap ((a.toNat:Int)*2 ^ min (31:Int).toNat 32)) (2 ^ min (31:Int).toNat 32))).toNat:Int)))).toNat:Int)),1) else(qa3[(sw a (min (4:Int).toNat 8)).toNat]?).bind fun e=>bif decide ((b.length:Int)<((a&&&7).toNat:Int)) then some (65533,1) else(al b 1).bind fun c=>bif decide (c<e.1) then qlw b d ((a&&&7).toNat:Int) c true else qlw b d ((a&&&7).toNat:Int) c (decide (e.2<c))
def qcx(a:Bs):Option (Int×Int):=bif !(a==([]:Bs)) then(al a 0).bind fun c=>bif decide (c<128) then(al a 0).bind fun b=>some ((b.toNat:Int),1) else(qlv a).bind fun e=>some e else(qlv a).bind fun d=>some d
abbrev qgk:=Bs->Int->Int->Option (Int×Int)
abbrev w6:=Bs->Int->Int->Int->Option (Int×Int)
def qlm(fu:Nat):qgk:=fun d b a=>bif decide (0<=a/\a<=b/\b<=(d.length:Int)) then(qcx (List.take (b.toNat-a.toNat) (List.drop a.toNat d))).bind fun c=>bif(af (a+c.2)) != b then some (65533,1) else some c else none
def qll:qgk:=fun b c a=>bif decide (a<0) then qlm fu b c 0 else qlm fu b c a
def qw5(e:w6):w6:=fun b c a d=>bif decide (d<=a) then(al b a).bind fun f=>(qlu f).bind fun g=>bif g then qll fu b c a else e b c (af (a-1)) d else qll fu b c a
def qlk(fu:Nat):Nat->w6|0=>fun _ _ _ _=>none|n+1=>qw5 fu (qlk fu n)
def qw4(a:Bs):Option (Int×Int):=bif(a.length:Int)==0 then some (65533,0) else(al a (af ((a.length:Int)-1))).bind fun b=>bif decide ((b.toNat:Int)<128) then some ((b.toNat:Int),1) else qlk fu fu a (a.length:Int) (af ((af ((a.length:Int)-1))-1)) (if 0>af ((a.length:Int)-4) then 0 else af ((a.length:Int)-4))
def qcp(c:Bs)(a:Int):Option Bool:=(qct fu c a).bind fun b=>some (decide (0<=b))
abbrev fj:=Bs->Bs->Option (Bs)
def qwz(d:fj):fj:=fun a b=>bif decide (0<(a.length:Int)) then(al a (af ((a.length:Int)-1))).bind fun e=>bif decide (128<=(e.toNat:Int)) then(qw4 fu a).bind fun c=>(qcp fu b c.1).bind fun g=>bif !g then some a else bif decide (0<=af ((a.length:Int)-c.2)/\af ((a.length:Int)-c.2)<=(a.length:Int)) then d (List.take (af ((a.length:Int)-c.2)).toNat a) b else none else(qcp fu b (e.toNat:Int)).bind fun f=>bif !f then some a else bif decide (0<=af ((a.length:Int)-1)/\af ((a.length:Int)-1)<=(a.length:Int)) then d (List.take (af ((a.length:Int)-1)).toNat a) b else none else some a
def qlh(fu:Nat):Nat->fj|0=>fun _ _=>none|n+1=>qwz fu (qlh fu n)
def qlg(b:Bs)(a:Bs):Option (Bs):=qlh fu fu b a
abbrev qd:=Bs->Bs->Bool->Option (Bs)
def qwk:fj:=fun b c=>(yl fu c).bind fun a=>bif decide (a.1.length=List.length (List.replicate 256 false))&&decide (a.1.length=256) then bif a.2 then(qlc fu b a.1).bind fun e=>some e.1 else(qlg fu b c).bind fun d=>some d else none
def qkv:qd:=fun b c a=>bif a then(al c 0).bind fun d=>(qle fu b d).bind fun e=>some e else qwk fu b c
def qwj:fj:=fun b a=>bif(a.length:Int)==1 then(al a 0).bind fun c=>qkv fu b a (decide (c<128)) else qkv fu b a false
def qku:qd:=fun b c a=>bif a then some b else qwj fu b c
def qkt(b:Bs)(a:Bs):Option (Bs):=bif b==([]:Bs) then qku fu b a true else qku fu b a (a==([]:Bs))
def qti(b:Bs):Option Bool:=(qca fu b []).bind fun a=>(cd a.1).bind fun c=>some (!c)
def qtg(d:Bs):Option ((Bs×Bs)×Bool):=(qj8 d [58]).bind fun a=>(qkt fu a.1 [32,9]).bind fun b=>bif a.2.2 then(qti fu b).bind fun c=>some ((b,a.2.1),c) else some ((b,a.2.1),false)
abbrev tw:=Int×Int×Int×Bs×(List Bs)
abbrev qbg:=Bool->Int->Int->Int->Int->(List Bs)->Option tw
abbrev w7:=Int->Int->Int->Int->(List Bs)->Bs->Option tw
abbrev qrd:=Int->Int->Int->Int->(List Bs)->(List Bs)->Option tw
def qkm(fu:Nat)(e:qbg):qbg:=fun g f a c b d=>e g (af (f+2)) a c b d
def qwe(fu:Nat)(j:w7):w7:=fun d b e c a f=>bif decide (0<=d) then bif decide (0<=d/\d.toNat<a.length) then(a[d.toNat]?).bind fun h=>(al h 0).bind fun g=>bif decide (0<=af (d+1)/\(af (d+1)).toNat<a.length) then(a[(af (d+1)).toNat]?).bind fun i=>(al i 0).bind fun k=>(f[g.toNat]?).bind fun l=>j (af (d-2)) b e c a (List.set f g.toNat k) else none else none else some (b,(e,(c,(f,a))))
def qkp(fu:Nat):Nat->w7|0=>fun _ _ _ _ _ _=>none|n+1=>qwe fu (qkp fu n)
def qwc(g:w7):w7:=fun a b d c e f=>bif decide (a<256) then bif decide (0<=a)&&decide (a<256) then(f[a.toNat]?).bind fun h=>g (af (a+1)) b d c e (List.set f a.toNat (sr a)) else none else qkp fu fu (af ((e.length:Int)-2)) b d c e f
def qkn(fu:Nat):Nat->w7|0=>fun _ _ _ _ _ _=>none|n+1=>qwc fu (qkn fu n)
def qwd(fu:Nat)(j:qrd):qrd:=fun a c e d b g=>bif decide (0<=a) then bif decide (0<=a/\a.toNat<b.length) then(b[a.toNat]?).bind fun f=>(al f 0).bind fun h=>bif decide (0<=af (a+1)/\(af (a+1)).toNat<b.length) then(b[(af (a+1)).toNat]?).bind fun i=>none else none else none else none
def qko(fu:Nat):Nat->qrd|0=>fun _ _ _ _ _ _=>none|n+1=>qwd fu (qko fu n)
def qwb(f:qbg):qbg:=fun g e b d c a=>bif decide (e<(a.length:Int)) then bif decide (0<=e/\e.toNat<a.length) then(a[e.toNat]?).bind fun h=>bif(h.length:Int) != 1 then none else bif decide (0<=af (e+1)/\(af (e+1)).toNat<a.length) then(a[(af (e+1)).toNat]?).bind fun i=>bif(i.length:Int) != 1 then qkm fu f false e b d c a else qkm fu f g e b d c a else none else none else bif g then bif decide (List.length (List.replicate 256 0)=List.length (List.replicate 256 0))&&decide (List.length (List.replicate 256 0)=256) then qkn fu fu 0 b d c a (List.replicate 256 0) else none else bif decide (0<=(0:Int)/\0=af (Int.tdiv (a.length:Int) 2)/\(0:Int)<=4294967296) then qko fu fu (af ((a.length:Int)-2)) b d c a (List.replicate (0:Int).toNat []) else none
def qkl(fu:Nat):Nat->qbg|0=>fun _ _ _ _ _ _=>none|n+1=>qwb fu (qkl fu n)
def qwf:Int->Int->Int->(List Bs)->Option tw:=fun a c b d=>qkl fu fu true 0 a c b d
def qkk:Bool->Int->Int->Int->(List Bs)->Option tw:=fun e b d c a=>bif e then bif decide (0<=(0:Int)/\(0:Int).toNat<a.length) then(a[(0:Int).toNat]?).bind fun f=>bif decide (0<=(1:Int)/\(1:Int).toNat<a.length) then(a[(1:Int).toNat]?).bind fun g=>none else none else none else qwf fu b d c a
def qwa(d:Int)(b:Int)(c:Int)(a:List Bs):Option tw:=bif(a.length:Int)==2 then bif decide (0<=(0:Int)/\(0:Int).toNat<a.length) then(a[(0:Int).toNat]?).bind fun e=>qkk fu (decide (1<(e.length:Int))) d b c a else none else qkk fu false d b c a
abbrev q8l:=Int×Int×Int×Bs×(List Bs)
def qkj(d:Int)(b:Int)(c:Int)(e:List Bs):Option q8l:=(qwa fu d b c e).bind fun a=>some (a.1,(a.2.1,(a.2.2.1,(a.2.2.2.1,[]))))
abbrev qgl:=Bs->Int->Bs->Bs->Option (Bs×Bs)
abbrev qrg:=Bs->Int->Bs->Option (Bs×Bs)
def qkz(fu:Nat)(d:qgl):Bs->Int->UInt8->Bs->Bs->Option (Bs×Bs):=fun f b g c a=>(c[g.toNat]?).bind fun e=>bif decide (0<=b/\b.toNat<a.length) then(a[b.toNat]?).bind fun h=>d f (af (b+1)) c (List.set a b.toNat e) else none
def qwo(f:qgl):qgl:=fun d b c a=>bif decide (b<(d.length:Int)) then(al d b).bind fun e=>(c[e.toNat]?).bind fun g=>bif g != e then bif decide (0<a.length) then qkz fu f d b e c a else none else f d (af (b+1)) c a else bif decide (0<a.length) then some (a,c) else none
def qk0(fu:Nat):Nat->qgl|0=>fun _ _ _ _=>none|n+1=>qwo fu (qk0 fu n)
def qwn(e:qrg):qrg:=fun a b c=>bif decide (b<(a.length:Int)) then(al a b).bind fun d=>(c[d.toNat]?).bind fun f=>bif f != d then bif decide (a.length<=maxLen) then qkz fu (qk0 fu fu) a b d c a else none else e a (af (b+1)) c else some (a,c)
def qky(fu:Nat):Nat->qrg|0=>fun _ _ _=>none|n+1=>qwn fu (qky fu n)
def qcv(b:Bs)(a:Bs):Option (Bs×Bs):=qky fu fu b 0 a
def ya(fu:Nat)(s:Bs)(p0 p1 p2:Int)(on:List Bs):Option (Bs×Int×Int×Int×Bs):=
 bif decide (p0=0)&&decide (p1=0) then
 (qkj fu 0 1 p2 on).bind fun x=>
 bif decide (x.1=0)&&decide (x.2.1=1) then
 (qcv fu s x.2.2.2.1).bind fun y=>
 some (y.1,1,0,x.2.2.1,y.2)
 else none else none
def yc(fu:Nat)(s:Bs)(p0 p1 p2:Int)(tab:Bs):Option (Bs×Int×Int×Int×Bs):=
 bif !decide (p0=0) then
 (qcv fu s tab).bind fun y=>
 some (y.1,p0,p1,p2,y.2)
 else none
def qwv(fu:Nat)(c:ol):ol:=fun a b=>bif decide (0<(a.length:Int)) then(al a 0).bind fun d=>bif d==b then bif decide (0<=(1:Int)/\1<=(a.length:Int)) then c (List.drop (1:Int).toNat a) b else none else some a else some a
def qk9(fu:Nat):Nat->ol|0=>fun _ _=>none|n+1=>qwv fu (qk9 fu n)
def qk8(b:Bs)(a:UInt8):Option (Bs):=qk9 fu fu b a
def qwu(fu:Nat)(d:om):om:=fun a c=>bif decide (0<(a.length:Int)) then(al a 0).bind fun e=>(qcu e c).bind fun b=>bif !b.1 then some (a,b.2) else bif decide (0<=(1:Int)/\1<=(a.length:Int)) then d (List.drop (1:Int).toNat a) b.2 else none else some (a,c)
def qk7(fu:Nat):Nat->om|0=>fun _ _=>none|n+1=>qwu fu (qk7 fu n)
def qk6(b:Bs)(a:List Bool):Option (Bs×(List Bool)):=qk7 fu fu b a
def qww(d:fj):fj:=fun a c=>bif decide (0<(a.length:Int)) then(qcx a).bind fun b=>(qcp fu c b.1).bind fun e=>bif !e then some a else bif decide (0<=b.2/\b.2<=(a.length:Int)) then d (List.drop b.2.toNat a) c else none else some a
def qlb(fu:Nat):Nat->fj|0=>fun _ _=>none|n+1=>qww fu (qlb fu n)
def qla(b:Bs)(a:Bs):Option (Bs):=qlb fu fu b a
def qwm:fj:=fun c b=>(yl fu b).bind fun a=>bif decide (a.1.length=List.length (List.replicate 256 false))&&decide (a.1.length=256) then bif a.2 then(qlc fu c a.1).bind fun d=>(qk6 fu d.1 d.2).bind fun g=>some g.1 else(qlg fu c b).bind fun e=>(qla fu e b).bind fun f=>some f else none
def qkx:qd:=fun c b a=>bif a then(al b 0).bind fun e=>(qle fu c e).bind fun g=>(al b 0).bind fun d=>(qk8 fu g d).bind fun f=>some f else qwm fu c b
def qwl:fj:=fun b a=>bif(a.length:Int)==1 then(al a 0).bind fun c=>qkx fu b a (decide (c<128)) else qkx fu b a false
def qkw:qd:=fun b c a=>bif a then some b else qwl fu b c
def qkq(b:Bs)(a:Bs):Option (Bs):=bif b==([]:Bs) then qkw fu b a true else qkw fu b a (a==([]:Bs))
abbrev qp:=Int×(Int×Int)×wV
abbrev qri:=Int->Int->Int->(Int×Int)->wV->Int->Int->Int->Bs->Option qp
abbrev qrh:=Int->Int->(Int×Int)->Int->Int->Int->(List Bs)->wV->Option qp
abbrev qbj:=Bs->Int->(Int×Int)->wV->Option qp
def qtd(q:qri):qri:=fun j f a i b d e c h=>bif decide (a<f) then bif decide (0<=a/\a.toNat<b.length) then(b[a.toNat]?).bind fun o=>(yc fu o.2 d e c h).bind fun g=>(qkq fu g.1 [32,9]).bind fun k=>bif decide (4000<(k.length:Int)) then(au 1 a).bind fun l=>some (0,(l,[])) else bif decide (0<=a/\a.toNat<b.length) then(b[a.toNat]?).bind fun p=>q j f (af (a+1)) i (List.set b a.toNat (p.1,k)) g.2.1 g.2.2.1 g.2.2.2.1 g.2.2.2.2 else none else none else(ce).bind fun m=>some (j,(m,b))
def qie(fu:Nat):Nat->qri|0=>fun _ _ _ _ _ _ _ _ _=>none|n+1=>qtd fu (qie fu n)
def qtc(p:qrh):qrh:=fun i f g b d c h a=>bif decide (0<f) then bif decide (0<=(0:Int)/\(0:Int).toNat<a.length) then(a[(0:Int).toNat]?).bind fun k=>(ya fu k.2 b d c h).bind fun e=>(qkq fu e.1 [32,9]).bind fun j=>bif decide (4000<(j.length:Int)) then(au 1 0).bind fun l=>some (0,(l,[])) else bif decide (0<=(0:Int)/\(0:Int).toNat<a.length) then(a[(0:Int).toNat]?).bind fun m=>qie fu fu i f 1 g (List.set a ((0:Int).toNat) (m.1,j)) e.2.1 e.2.2.1 e.2.2.2.1 e.2.2.2.2 else none else none else(ce).bind fun o=>some (i,(o,a))
def qid(fu:Nat):Nat->qrh|0=>fun _ _ _ _ _ _ _ _=>none|n+1=>qtc fu (qid fu n)
def qcb:Int->(Int×Int)->wV->Option qp:=fun e c a=>bif decide (60<(a.length:Int)) then(au 2 (-2)).bind fun d=>some (0,(d,[])) else(qki ([([0]:Bs),([32]:Bs),([13]:Bs),([32]:Bs)]:List Bs)).bind fun b=>qid fu fu e (a.length:Int) c b.1 b.2.1 b.2.2.1 b.2.2.2 a
def qte(e:qbj):Bs->Int->Bs->Int->(Int×Int)->wV->Option qp:=fun f d h g b a=>(qtg fu h).bind fun c=>bif !c.2 then qcb fu d b a else bif decide (List.length (a++([c.1]:List (Bs×Bs)))<=a8) then e f (af (d+g)) b (a++([c.1]:List (Bs×Bs))) else none
def qic(e:qbj):Bs->Int->Bs->Int->Bool->(Int×Int)->wV->Option qp:=fun g f d i c b a=>bif c then bif decide (0<=af ((a.length:Int)-1)/\(af ((a.length:Int)-1)).toNat<a.length) then(a[(af ((a.length:Int)-1)).toNat]?).bind fun h=>bif decide (h.2.length+d.length<=bg) then bif decide (0<=af ((a.length:Int)-1)/\(af ((a.length:Int)-1)).toNat<a.length) then(a[(af ((a.length:Int)-1)).toNat]?).bind fun j=>e g (af (f+i)) b (List.set a ((af ((a.length:Int)-1)).toNat) (j.1,h.2++d)) else none else none else none else qte fu e g f d i b a
def qtb(f:qbj):qbj:=fun e c b a=>bif decide (c<(e.length:Int)) then bif decide (0<=c/\c<=(e.length:Int)) then(qth (List.drop c.toNat e)).bind fun d=>bif d.1==([]:Bs) then qcb fu (af (c+d.2)) b a else(al d.1 0).bind fun g=>(qg g).bind fun h=>bif h then qic fu f e c d.1 d.2 (decide (0<(a.length:Int))) b a else qic fu f e c d.1 d.2 false b a else none else qcb fu c b a
def qib(fu:Nat):Nat->qbj|0=>fun _ _ _ _=>none|n+1=>qtb fu (qib fu n)
def qia(a:Bs):Option qp:=bif decide (12000<(a.length:Int)) then(au 1 (-1)).bind fun b=>some (0,(b,[])) else qib fu fu a 0 (0,0) []
abbrev q60:=Bs->Int->Bool->Bs->Option (Bs)
abbrev ld:=Bs->Int->Bs->Option (Bs)
def qi9(fu:Nat)(e:ld):q60:=fun b c d a=>bif d then bif decide (List.length (a++([13,10]:Bs))<=a8) then e b (af (c+1)) (a++([13,10]:Bs)) else none else(al b c).bind fun f=>bif decide (List.length (a++([f]:Bs))<=a8) then e b (af (c+1)) (a++([f]:Bs)) else none
def qcj(d:ld):q60:=fun b c e a=>bif e then bif decide (List.length (a++([13,10]:Bs))<=a8) then d b (af ((af (c+1))+1)) (a++([13,10]:Bs)) else none else(al b c).bind fun f=>bif f==13 then qi9 fu d b c true a else(al b c).bind fun g=>qi9 fu d b c (g==10) a
def qup(d:ld):ld:=fun b c a=>bif decide (c<(b.length:Int)) then(al b c).bind fun e=>bif e==13 then bif decide ((af (c+1))<(b.length:Int)) then(al b (af (c+1))).bind fun f=>qcj fu d b c (f==10) a else qcj fu d b c false a else qcj fu d b c false a else some a
def qi8(fu:Nat):Nat->ld|0=>fun _ _ _=>none|n+1=>qup fu (qi8 fu n)
def qun(a:Bs):Option (Bs):=qi8 fu fu a 0 []
abbrev q79:=(wV×Bs)×(Int×Int)
def quk(b:Bs):Option q79:=(qia fu b).bind fun a=>(cd a.2.1).bind fun g=>bif g then some (([],[]),a.2.1) else bif decide (0<=a.1/\a.1<=(b.length:Int)) then(qun fu (List.drop a.1.toNat b)).bind fun d=>(qci fu (a.2.2,d)).bind fun c=>(cd c).bind fun e=>bif e then some (([],[]),c) else(ce).bind fun f=>some ((a.2.2,d),f) else none
abbrev qrj:=Int->Int->Bs->Option (Bs)
def qse(fu:Nat)(d:qrj):qrj:=fun c a b=>bif decide (a<c) then bif decide (0<=a/\a.toNat<b.length) then(b[a.toNat]?).bind fun e=>bif decide (65<=e) then bif decide (e<=90) then bif decide (0<=a/\a.toNat<b.length) then(b[a.toNat]?).bind fun f=>d c (af (a+1)) (List.set b a.toNat ((e+97)-65)) else none else d c (af (a+1)) b else d c (af (a+1)) b else none else some b
def qhb(fu:Nat):Nat->qrj|0=>fun _ _ _=>none|n+1=>qse fu (qhb fu n)
def qbu(a:Bs):Option (Bs):=bif decide (a.length<=maxLen) then qhb fu fu (a.length:Int) 0 a else none
def eq(b:Bs)(a:Bs):Option Bool:=bif(b.length:Int)==(a.length:Int) then(qbu fu b).bind fun c=>(qbu fu a).bind fun d=>some (c==d) else some false
def qwi:fj:=fun b c=>(yl fu c).bind fun a=>bif decide (a.1.length=List.length (List.replicate 256 false))&&decide (a.1.length=256) then bif a.2 then(qk6 fu b a.1).bind fun e=>some e.1 else(qla fu b c).bind fun d=>some d else none
def qks:qd:=fun b c a=>bif a then(al c 0).bind fun d=>(qk8 fu b d).bind fun e=>some e else qwi fu b c
def qwh:fj:=fun b a=>bif(a.length:Int)==1 then(al a 0).bind fun c=>qks fu b a (decide (c<128)) else qks fu b a false
def qkr:qd:=fun b c a=>bif a then some b else qwh fu b c
def qwg(b:Bs)(a:Bs):Option (Bs):=bif b==([]:Bs) then qkr fu b a true else qkr fu b a (a==([]:Bs))
def tm(b:Bs):Option (Bs):=(qwg fu b [32,9]).bind fun a=>some a
def tn(a:UInt8):Option Bool:=bif decide (33<=a) then bif decide (a<=126) then(qcs [40,41,60,62,64,44,59,58,92,34,47,91,93,63,61,42,37,39] a).bind fun b=>some (decide (b<0)) else some false else some false
abbrev fa:=Int->Bs->Option (Bs×Bs)
abbrev qrk:=Int->Bool->Bs->Option (Bs×Bs)
def qua(fu:Nat)(a:fa):fa:=fun c b=>a (af (c+1)) b
def qi2(d:fa):qrk:=fun a c b=>bif c then qua fu d a b else bif decide (0<=a/\a<=(b.length:Int)) then bif decide (0<=a/\a<=(b.length:Int)) then some (List.take a.toNat b,List.drop a.toNat b) else none else none
def qt9(c:fa):fa:=fun b a=>bif decide (b<(a.length:Int)) then(al a b).bind fun d=>(tn d).bind fun e=>qi2 fu c b e a else qi2 fu c b false a
def qi1(fu:Nat):Nat->fa|0=>fun _ _=>none|n+1=>qt9 fu (qi1 fu n)
def qi0(b:Bs):Option (Bs×Bs):=(tm fu b).bind fun a=>qi1 fu fu 0 a
def x6(d:UInt8)(c:Bs):Option (Bool×Bs):=(tm fu c).bind fun a=>bif a==([]:Bs) then some (false,a) else(al a 0).bind fun b=>bif b != d then some (false,a) else bif decide (0<=(1:Int)/\1<=(a.length:Int)) then some (true,List.drop (1:Int).toNat a) else none
def qt8(a:UInt8):Option Bool:=(tn a).bind fun b=>bif b then some true else some (a==42)
def qud(fu:Nat)(a:fa):fa:=fun c b=>a (af (c+1)) b
def qi4(d:fa):qrk:=fun a c b=>bif c then qud fu d a b else bif decide (0<=a/\a<=(b.length:Int)) then bif decide (0<=a/\a<=(b.length:Int)) then some (List.take a.toNat b,List.drop a.toNat b) else none else none
def quc(c:fa):fa:=fun b a=>bif decide (b<(a.length:Int)) then(al a b).bind fun d=>(qt8 d).bind fun e=>qi4 fu c b e a else qi4 fu c b false a
def qi3(fu:Nat):Nat->fa|0=>fun _ _=>none|n+1=>quc fu (qi3 fu n)
def qub(b:Bs):Option (Bs×Bs):=(tm fu b).bind fun a=>qi3 fu fu 0 a
def qui(a:UInt8):Option Bool:=(tn a).bind fun b=>bif b then some true else bif a==37 then some true else bif a==39 then some true else some (a==42)
def qug(fu:Nat)(a:fa):fa:=fun c b=>a (af (c+1)) b
def qi6(d:fa):qrk:=fun a c b=>bif c then qug fu d a b else bif decide (0<=a/\a<=(b.length:Int)) then bif decide (0<=a/\a<=(b.length:Int)) then some (List.take a.toNat b,List.drop a.toNat b) else none else none
def quf(c:fa):fa:=fun b a=>bif decide (b<(a.length:Int)) then(al a b).bind fun d=>(qui d).bind fun e=>qi6 fu c b e a else qi6 fu c b false a
def qi5(fu:Nat):Nat->fa|0=>fun _ _=>none|n+1=>quf fu (qi5 fu n)
def que(b:Bs):Option (Bs×Bs):=(tm fu b).bind fun a=>qi5 fu fu 0 a
abbrev qrm:=Int->Bs->Bs->Option (Bs×Bool×Bs)
def quj(fu:Nat)(e:qrm):qrm:=fun c b a=>bif decide (c<(b.length:Int)) then(al b c).bind fun d=>bif d==34 then bif decide (0<=af (c+1)/\af (c+1)<=(b.length:Int)) then some (a,(true,List.drop (af (c+1)).toNat b)) else none else bif d==92 then bif(af (c+1))==(b.length:Int) then some (([]:Bs),(false,b)) else(al b (af (c+1))).bind fun f=>bif decide (List.length (a++([f]:Bs))<=a8) then e (af ((af (c+1))+1)) b (a++([f]:Bs)) else none else bif decide (List.length (a++([d]:Bs))<=a8) then e (af (c+1)) b (a++([d]:Bs)) else none else some (([]:Bs),(false,b))
def qi7(fu:Nat):Nat->qrm|0=>fun _ _ _=>none|n+1=>quj fu (qi7 fu n)
def quh(c:Bs):Option (Bs×Bool×Bs):=(x6 fu 34 c).bind fun a=>bif !a.1 then(que fu a.2).bind fun b=>some (b.1,(true,b.2)) else qi7 fu fu 0 a.2 []
def tk(a:Bs)(b:Bs):Option Bool:=bif decide ((b.length:Int)<=(a.length:Int)) then bif decide (0<=af ((a.length:Int)-(b.length:Int))/\af ((a.length:Int)-(b.length:Int))<=(a.length:Int)) then some ((List.drop (af ((a.length:Int)-(b.length:Int))).toNat a)==b) else none else some false
def qtk(a:Bs)(b:Bs):Option (Bs×Bool):=(tk a b).bind fun c=>bif !c then some (a,false) else bif decide (0<=af ((a.length:Int)-(b.length:Int))/\af ((a.length:Int)-(b.length:Int))<=(a.length:Int)) then some (List.take (af ((a.length:Int)-(b.length:Int))).toNat a,true) else none
def qv3(c:Bs)(a:Bs):Option (Bs×Bool):=(qtk c a).bind fun b=>some b
abbrev q78:=(Bs×Int×Bool×Bs)×Bool×Bs
def qt7(g:Bs):Option q78:=(qub fu g).bind fun f=>(x6 fu 61 f.2).bind fun e=>bif !e.1 then some ((([]:Bs),(0,(false,([]:Bs)))),(false,e.2)) else(quh fu e.2).bind fun a=>(qj8 f.1 [42]).bind fun b=>bif b.2.2 then(qv3 b.2.1 [42]).bind fun c=>(xi c.1 1099511627776).bind fun d=>bif a.2.1 then bif d.2 then some ((b.1,(d.1,(c.2,a.1))),(!(b.1==([]:Bs)),a.2.2)) else some ((b.1,(d.1,(c.2,a.1))),(false,a.2.2)) else some ((b.1,(d.1,(c.2,a.1))),(false,a.2.2)) else bif a.2.1 then some ((b.1,((-1),(false,a.1))),(!(b.1==([]:Bs)),a.2.2)) else some ((b.1,((-1),(false,a.1))),(false,a.2.2))
abbrev q77:=Bool×(Bs×Int×Bool×Bs)
def qir(c:Bs×Int×Bool×Bs)(a:Bs×Int×Bool×Bs):Option q77:=(eq fu c.1 a.1).bind fun b=>some (b,a)
abbrev qxo:=Int×(Bs×Int×Bool×Bs)
abbrev qro:=(List (Bs×Int×Bool×Bs))->Int->Int->(Bs×Int×Bool×Bs)->Option qxo
def qvz(f:qro):qro:=fun c e a d=>bif decide (a<e) then(al c a).bind fun g=>(qir fu g d).bind fun b=>bif b.1 then some (a,b.2) else f c e (af (a+1)) b.2 else some ((-1),d)
def qj5(fu:Nat):Nat->qro|0=>fun _ _ _ _=>none|n+1=>qvz fu (qj5 fu n)
def qvy(a:List (Bs×Int×Bool×Bs))(b:Bs×Int×Bool×Bs):Option qxo:=qj5 fu fu a (a.length:Int) 0 b
abbrev q8k:=Bool×(Bs×Int×Bool×Bs)
def qvq(c:List (Bs×Int×Bool×Bs))(b:Bs×Int×Bool×Bs):Option q8k:=(qvy fu c b).bind fun a=>some (decide (0<=a.1),a.2)
abbrev q67:=UInt8->Bool->Option (UInt8×Bool)
def qha:q67:=fun a b=>bif b then some ((a-65)+10,true) else bif decide (97<=a) then bif decide (a<=102) then some ((a-97)+10,true) else some (0,false) else some (0,false)
def qg9:q67:=fun a b=>bif b then some (a-48,true) else bif decide (65<=a) then qha a (decide (a<=70)) else qha a false
def qg8(a:UInt8):Option (UInt8×Bool):=bif decide (48<=a) then qg9 a (decide (a<=57)) else qg9 a false
def qhd(b:Bs):Option (UInt8×Bool):=bif decide ((b.length:Int)<2) then some (0,false) else(al b 0).bind fun e=>(qg8 e).bind fun c=>(al b 1).bind fun d=>(qg8 d).bind fun a=>bif c.2 then some ((p7 c.1 (min (4:Int).toNat 8))|||a.1,a.2) else some ((p7 c.1 (min (4:Int).toNat 8))|||a.1,false)
def qt4(fu:Nat)(d:ld):ld:=fun c b a=>bif decide (b<(c.length:Int)) then(al c b).bind fun h=>bif h==37 then bif decide (0<=af (b+1)/\af (b+1)<=(c.length:Int)) then(qhd (List.drop (af (b+1)).toNat c)).bind fun e=>bif e.2 then bif decide (List.length (a++([e.1]:Bs))<=a8) then d c (af ((af (b+2))+1)) (a++([e.1]:Bs)) else none else(al c b).bind fun f=>bif decide (List.length (a++([f]:Bs))<=a8) then d c (af (b+1)) (a++([f]:Bs)) else none else none else(al c b).bind fun g=>bif decide (List.length (a++([g]:Bs))<=a8) then d c (af (b+1)) (a++([g]:Bs)) else none else some a
def qix(fu:Nat):Nat->ld|0=>fun _ _ _=>none|n+1=>qt4 fu (qix fu n)
def qiw:Bs->Option (Bs):=fun a=>qix fu fu a 0 []
def qch:Bs->Bool->Option (Bs):=fun b a=>bif a then bif decide (0<=(6:Int)/\6<=(b.length:Int)) then qiw fu (List.drop (6:Int).toNat b) else none else qiw fu b
def qt3(a:Bs×Int×Bool×Bs):Option (Bs):=bif !a.2.2.1 then some a.2.2.2 else bif a.2.1==0 then bif decide (6<=(a.2.2.2.length:Int)) then bif decide (0<=(6:Int)/\6<=(a.2.2.2.length:Int)) then(eq fu (List.take (6:Int).toNat a.2.2.2) [117,116,102,56,39,39]).bind fun b=>qch fu a.2.2.2 b else none else qch fu a.2.2.2 false else qch fu a.2.2.2 false
abbrev qrq:=Int->Int->(Bs×Bs)->(Bs×Bs)->(List (Bs×Int×Bool×Bs))->Option ((Bs×Bs)×Bool)
def qts(h:qrq):qrq:=fun d a e b c=>bif decide (a<d) then bif decide (0<=a/\a.toNat<c.length) then(c[a.toNat]?).bind fun f=>bif f.2.1 != a then some (b,false) else(qt3 fu f).bind fun g=>bif decide (b.2.length+g.length<=bg) then h d (af (a+1)) e (b.1,b.2++g) c else none else none else(yh b.2 [239,191,189]).bind fun i=>some ((b.1,i),true)
def qio(fu:Nat):Nat->qrq|0=>fun _ _ _ _ _=>none|n+1=>qts fu (qio fu n)
def qtr(a:List (Bs×Int×Bool×Bs)):Option ((Bs×Bs)×Bool):=bif decide (0<=(0:Int)/\(0:Int).toNat<a.length) then(a[(0:Int).toNat]?).bind fun b=>bif decide (0<=(0:Int)/\(0:Int).toNat<a.length) then(a[(0:Int).toNat]?).bind fun e=>bif decide (0<=(0:Int)/\(0:Int).toNat<a.length) then(a[(0:Int).toNat]?).bind fun d=>bif decide (d.2.1<0) then some ((b.1,e.2.2.2),(a.length:Int)==1) else(ye a).bind fun c=>qio fu fu (c.length:Int) 0 (([]:Bs),([]:Bs)) (b.1,([]:Bs)) c else none else none else none
abbrev qc4:=Bool×wV
abbrev qgo:=(List (Bs×Int×Bool×Bs))->(List (Bs×Int×Bool×Bs))->Int->Int->(List (Bs×Int×Bool×Bs))->Int->Int->(Bs×Int×Bool×Bs)->wV->(List (Bs×Int×Bool×Bs))->Option qc4
abbrev xe:=(List (Bs×Int×Bool×Bs))->(List (Bs×Int×Bool×Bs))->Int->Int->wV->Option qc4
def qiu(fu:Nat)(l:xe)(k:qgo):(List (Bs×Int×Bool×Bs))->(List (Bs×Int×Bool×Bs))->Int->Int->(List (Bs×Int×Bool×Bs))->Int->Int->(Bs×Int×Bool×Bs)->(List (Bs×Int×Bool×Bs))->wV->Option qc4:=fun j g e f d b a c i h=>k j g e f d b (af (a+1)) c h i
def qtz(j:xe)(p:qgo):qgo:=fun k i g h f d a e c b=>bif decide (a<d) then(al f a).bind fun l=>(qir fu l e).bind fun o=>bif o.1 then bif decide (List.length (b++([l]:List (Bs×Int×Bool×Bs)))<=a8) then qiu fu j p k i g h f d a o.2 (b++([l]:List (Bs×Int×Bool×Bs))) c else none else qiu fu j p k i g h f d a o.2 b c else(qtr fu b).bind fun m=>bif !m.2 then some (false,[]) else bif decide (List.length (c++([(e.1,m.1.2)]:List (Bs×Bs)))<=a8) then j k i g (af (h+1)) (c++([(e.1,m.1.2)]:List (Bs×Bs))) else none
def qit(fu:Nat)(a:xe):Nat->qgo|0=>fun _ _ _ _ _ _ _ _ _ _=>none|n+1=>qtz fu a (qit fu a n)
def qty(f:xe):xe:=fun e d c a b=>bif decide (a<c) then(al d a).bind fun h=>bif decide (0<=a/\a<=(e.length:Int)) then(qvq fu (List.take a.toNat e) h).bind fun g=>bif g.1 then f e d c (af (a+1)) b else qit fu f fu e d c a e (e.length:Int) 0 g.2 b [] else none else some (true,b)
def qis(fu:Nat):Nat->xe|0=>fun _ _ _ _ _=>none|n+1=>qty fu (qis fu n)
def qtx(a:List (Bs×Int×Bool×Bs)):Option qc4:=qis fu fu a a (a.length:Int) 0 []
abbrev qc5:=(Bs×Bs×Bool) ⊕ (Bs×Bs×Bool×wV)
abbrev qrr:=Bs->Bs->Bs->Bs->Bs->(List (Bs×Int×Bool×Bs))->Option qc5
def qt1(j:qrr):qrr:=fun e d i b a c=>(x6 fu 59 i).bind fun g=>bif g.1 then(qt7 fu g.2).bind fun f=>bif !f.2.1 then some (.inl (b,(a,false))) else bif decide (List.length (c++([f.1]:List (Bs×Int×Bool×Bs)))<=a8) then j e d f.2.2 b a (c++([f.1]:List (Bs×Int×Bool×Bs))) else none else(tm fu g.2).bind fun k=>(qtx fu c).bind fun h=>bif h.1 then some (.inr (b,(a,(k==([]:Bs),h.2)))) else some (.inr (b,(a,(false,h.2))))
def qiv(fu:Nat):Nat->qrr|0=>fun _ _ _ _ _ _=>none|n+1=>qt1 fu (qiv fu n)
def qt2:Bs->Bs->Bs->Bs->Bs->Option qc5:=fun c b e d a=>qiv fu fu c b e d a []
def qcg:Bool->Bs->Bs->Bs->Bs->Bs->Option qc5:=fun e d c f b a=>bif e then some (.inl (b,(a,false))) else qt2 fu d c f b a
def qt0(d:Bs):Option qc5:=(qi0 fu d).bind fun b=>(x6 fu 47 b.2).bind fun c=>(qi0 fu c.2).bind fun a=>bif b.1==([]:Bs) then qcg fu true [] [] a.2 b.1 a.1 else bif !c.1 then qcg fu true [] [] a.2 b.1 a.1 else qcg fu (a.1==([]:Bs)) [] [] a.2 b.1 a.1
def qr6(fu:Nat)(d:e9):e9:=fun b c a=>bif decide (a<c) then(al b a).bind fun e=>(tn e).bind fun f=>bif !f then some false else d b c (af (a+1)) else some true
def qgy(fu:Nat):Nat->e9|0=>fun _ _ _=>none|n+1=>qr6 fu (qgy fu n)
def qr5(a:Bs):Option Bool:=qgy fu fu a (a.length:Int) 0
def x7(a:Bs):Option Bool:=bif !(a==([]:Bs)) then bif decide ((a.length:Int)<=60) then(qr5 fu a).bind fun b=>some b else some false else some false
def qto(c:Bs×Bs)(a:Bs×Bs):Option (Bool×(Bs×Bs)):=(eq fu c.1 a.1).bind fun b=>some (b,a)
abbrev qrs:=wV->Int->Int->(Bs×Bs)->Option (Int×(Bs×Bs))
def qvw(f:qrs):qrs:=fun c e a d=>bif decide (a<e) then(al c a).bind fun g=>(qto fu g d).bind fun b=>bif b.1 then some (a,b.2) else f c e (af (a+1)) b.2 else some ((-1),d)
def qj2(fu:Nat):Nat->qrs|0=>fun _ _ _ _=>none|n+1=>qvw fu (qj2 fu n)
def qvv(a:List (Bs×Bs))(b:Bs×Bs):Option (Int×(Bs×Bs)):=qj2 fu fu a (a.length:Int) 0 b
def qvp(c:List (Bs×Bs))(b:Bs×Bs):Option (Bool×(Bs×Bs)):=(qvv fu c b).bind fun a=>some (decide (0<=a.1),a.2)
abbrev qgq:=wV->Int->Int->(Bs×Bs×wV)->(Int×Int)->Option ((Int×Int))
def qin(j:qgq):(Int->wV->Int->Int->Bool->(Bs×Bs×wV)->(Int×Int)->(Bs×Bs)->Option ((Int×Int))):=fun a f c g h b e d=>bif h then(au 10 a).bind fun o=>some o else bif decide (0<=a/\a<=(b.2.2.length:Int)) then(qvp fu (List.take a.toNat b.2.2) d).bind fun i=>bif i.1 then(au 7 a).bind fun m=>some m else bif decide (500<(i.2.2.length:Int)) then(au 1 a).bind fun k=>some k else(ym i.2.2).bind fun p=>bif !p then(au 5 a).bind fun l=>some l else j f c (af (g+1)) b e else none
def qtp(g:qgq):qgq:=fun b c a d e=>bif decide (a<c) then(al b a).bind fun f=>(x7 fu f.1).bind fun i=>bif !i then qin fu g a b c a true d e f else qin fu g a b c a (decide (20<(f.1.length:Int))) d e f else(ce).bind fun h=>some h
def qim(fu:Nat):Nat->qgq|0=>fun _ _ _ _ _=>none|n+1=>qtp fu (qim fu n)
def qtq:((Bs×Bs×wV)->(Int×Int)->Option ((Int×Int))):=fun a b=>bif decide (60<(a.2.2.length:Int)) then(au 2 (-3)).bind fun c=>some c else qim fu fu a.2.2 (a.2.2.length:Int) 0 a b
def qil:(Bool->(Bs×Bs×wV)->(Int×Int)->Option ((Int×Int))):=fun b a c=>bif b then(au 10 (-2)).bind fun d=>some d else qtq fu a c
def xz(a:Bs×Bs×wV):Option ((Int×Int)):=(x7 fu a.1).bind fun b=>bif !b then qil fu true a (0,0) else(x7 fu a.2.1).bind fun c=>qil fu (!c) a (0,0)
abbrev q76:=(Bs×Bs×Int×Int) ⊕ (Bs×Bs×Int×Int×wV)
def qtm(h:Bs):Option q76:=bif decide (4000<(h.length:Int)) then(au 1 (-1)).bind fun j=>some (.inl (([]:Bs),(([]:Bs),j))) else(qt0 fu h).bind fun p=>dr p (fun d=>bif !d.2.2 then(au 11 (-5)).bind fun o=>some (.inl (([]:Bs),(([]:Bs),o))) else(xz fu (d.1,(d.2.1,[]))).bind fun i=>(cd i).bind fun l=>bif l then(au i.1 (-6)).bind fun m=>some (.inl (([]:Bs),(([]:Bs),m))) else(ce).bind fun k=>some (.inl (d.1,(d.2.1,k)))) (fun a=>bif !a.2.2.1 then(au 11 (-5)).bind fun e=>some (.inl (([]:Bs),(([]:Bs),e))) else(xz fu (a.1,(a.2.1,a.2.2.2))).bind fun c=>(cd c).bind fun f=>bif f then(au c.1 (-6)).bind fun g=>some (.inl (([]:Bs),(([]:Bs),g))) else(ce).bind fun b=>some (.inr (a.1,(a.2.1,(b.1,(b.2,a.2.2.2))))))
abbrev qxk:=(Bs×Bs×Int×Bool) ⊕ (Bs×Bs×Int×Bool×wV)
abbrev qbn:=wV->Int->wV->Int->Int->Bs->Bs->Option qxk
def qje(fu:Nat)(f:qbn):qbn:=fun g h d c e b a=>f g h d c (af (e+1)) b a
def quw(j:qbn):qbn:=fun i f e d b c a=>bif decide (b<d) then(al e b).bind fun k=>(eq fu k.1 [67,111,110,116,101,110,116,45,84,121,112,101]).bind fun q=>bif q then bif decide (0<=f) then some (.inl (([]:Bs),(([]:Bs),(0,false)))) else qje fu j i b e d b c a else qje fu j i f e d b c a else bif decide (f<0) then some (.inl (([]:Bs),(([]:Bs),(0,false)))) else(al i f).bind fun l=>(qtm fu l.2).bind fun o=>dr o (fun h=>(cd h.2.2).bind fun m=>some (.inl (h.1,(h.2.1,(f,!m))))) (fun g=>(cd (g.2.2.1,g.2.2.2.1)).bind fun p=>some (.inr (g.1,(g.2.1,(f,(!p,g.2.2.2.2))))))
def qjd(fu:Nat):Nat->qbn|0=>fun _ _ _ _ _ _ _=>none|n+1=>quw fu (qjd fu n)
def qck(a:List (Bs×Bs)):Option qxk:=qjd fu fu a (-1) a (a.length:Int) 0 [] ([]:Bs)
abbrev qrv:=Bs->wV->Int->Int->(Int×Int)->Option (Bs×Bool×(Int×Int))
def qtl(g:qrv):qrv:=fun f b c a d=>bif decide (a<c) then(al b a).bind fun e=>(eq fu e.1 f).bind fun j=>bif j then(ce).bind fun i=>some (e.2,(true,i)) else g f b c (af (a+1)) d else(ce).bind fun h=>some (([]:Bs),(false,h))
def qij(fu:Nat):Nat->qrv|0=>fun _ _ _ _ _=>none|n+1=>qtl fu (qij fu n)
def qii(a:Bs×Bs×wV)(c:Bs):Option (Bs×Bool×(Int×Int)):=(xz fu a).bind fun b=>(cd b).bind fun d=>bif d then some (([]:Bs),(false,b)) else qij fu fu c a.2.2 (a.2.2.length:Int) 0 (0,0)
def qu1(a:UInt8):Option Bool:=bif decide (32<=a) then some (decide (a<=126)) else some false
def qr8(fu:Nat)(d:e9):e9:=fun b c a=>bif decide (a<c) then(al b a).bind fun e=>(qu1 e).bind fun f=>bif !f then some false else d b c (af (a+1)) else some true
def qgz(fu:Nat):Nat->e9|0=>fun _ _ _=>none|n+1=>qr8 fu (qgz fu n)
def qr7(a:Bs):Option Bool:=qgz fu fu a (a.length:Int) 0
def qcr(c:Bs)(a:Bs):Option Bool:=(tk c a).bind fun b=>some b
def qu2:Bs->Bs->wV->Option (Bs×Bool):=fun c b d=>(qii fu (c,(b,d)) [98,111,117,110,100,97,114,121]).bind fun a=>bif !(a.1==([]:Bs)) then bif decide ((a.1.length:Int)<=60) then(qr7 fu a.1).bind fun f=>bif f then(qcr a.1 [32]).bind fun e=>bif a.2.1 then some (a.1,!e) else some (a.1,false) else bif a.2.1 then some (a.1,false) else some (a.1,false) else bif a.2.1 then some (a.1,false) else some (a.1,false) else bif a.2.1 then some (a.1,false) else some (a.1,false)
def x8:Bool->Bs->Bs->wV->Option (Bs×Bool):=fun c b a d=>bif c then some (([]:Bs),false) else qu2 fu b a d
def qu0(e:List (Bs×Bs)):Option (Bs×Bool):=(qck fu e).bind fun c=>dr c (fun b=>bif !b.2.2.2 then x8 fu true b.1 b.2.1 [] else(eq fu b.1 [109,117,108,116,105,112,97,114,116]).bind fun d=>x8 fu (!d) b.1 b.2.1 []) (fun a=>bif !a.2.2.2.1 then x8 fu true a.1 a.2.1 a.2.2.2.2 else(eq fu a.1 [109,117,108,116,105,112,97,114,116]).bind fun f=>x8 fu (!f) a.1 a.2.1 a.2.2.2.2)
def qvc(a:Bs):Option (Bs):=some a
def qvb(c:Bs)(a:Bs):Option Int:=(qkt fu c [32,9]).bind fun b=>bif decide (List.length ([45,45]:Bs)+a.length<=bg) then bif b==(([45,45]:Bs)++a) then some 1 else bif decide (List.length ([45,45]:Bs)+a.length<=bg) then bif decide (List.length (([45,45]:Bs)++a)+List.length ([45,45]:Bs)<=bg) then bif b==((([45,45]:Bs)++a)++[45,45]) then some 2 else some 0 else none else none else none
abbrev q8f:=(Bs×Bs×Int×(List Bs)×(List Bs)) ⊕ (Bs×Bs×Int×(List Bs))
def qjg(b:Int)(f:Bs)(c:Bs)(e:Bs)(a:Int)(h:List Bs)(d:List Bs):Option q8f:=(qvb fu f e).bind fun g=>bif g==0 then some (.inl (c,(e,(a,(h,d))))) else bif decide (0<=a) then bif decide (0<=a/\a<=(if af (b-2)>a then af (b-2) else a)/\(if af (b-2)>a then af (b-2) else a)<=(c.length:Int)) then bif decide (List.length (d++([List.take ((if af (b-2)>a then af (b-2) else a).toNat-a.toNat) (List.drop a.toNat c)]:List Bs))<=a8) then bif g==2 then some (.inr (c,(e,(a,d++([List.take ((if af (b-2)>a then af (b-2) else a).toNat-a.toNat) (List.drop a.toNat c)]:List Bs))))) else some (.inl (c,(e,(if(c.length:Int)<af ((af (b+(f.length:Int)))+2) then(c.length:Int) else af ((af (b+(f.length:Int)))+2),(h,d++([List.take ((if af (b-2)>a then af (b-2) else a).toNat-a.toNat) (List.drop a.toNat c)]:List Bs)))))) else none else none else bif g==2 then some (.inr (c,(e,(a,d)))) else some (.inl (c,(e,(if(c.length:Int)<af ((af (b+(f.length:Int)))+2) then(c.length:Int) else af ((af (b+(f.length:Int)))+2),(h,d)))))
abbrev qxl:=(Bs×Bs×Bs×Int×(List Bs)) ⊕ (Bs×Bs×Bs×Int×(List Bs)×(List Bs))
abbrev qrx:=Int->Bs->Bs->Bs->Int->(List Bs)->(List Bs)->Option qxl
def qve(k:qrx):qrx:=fun a b i h j d c=>bif decide (a<(b.length:Int)) then bif decide (0<=a/\a<=(b.length:Int)) then bif decide (0<List.length ([13,10]:Bs)) then(qh (List.drop a.toNat b) ([13,10]:Bs)).bind fun e=>bif decide (0<=e) then bif decide (0<=a/\a<=af (a+e)/\af (a+e)<=(b.length:Int)) then(qjg fu a (List.take ((af (a+e)).toNat-a.toNat) (List.drop a.toNat b)) i h j d c).bind fun p=>dr p (fun f=>k (af ((af (a+e))+2)) b f.1 f.2.1 f.2.2.1 f.2.2.2.1 f.2.2.2.2) (fun m=>some (.inl (b,m))) else none else bif decide (0<=a/\a<=(b.length:Int)/\(b.length:Int)<=(b.length:Int)) then(qjg fu a (List.take ((b.length:Int).toNat-a.toNat) (List.drop a.toNat b)) i h j d c).bind fun o=>dr o (fun g=>k (b.length:Int) b g.1 g.2.1 g.2.2.1 g.2.2.2.1 g.2.2.2.2) (fun l=>some (.inl (b,l))) else none else none else none else some (.inr (b,(i,(h,(j,(d,c))))))
def qjq(fu:Nat):Nat->qrx|0=>fun _ _ _ _ _ _ _=>none|n+1=>qve fu (qjq fu n)
def qvd(d:Bs)(b:Bs)(c:Bs)(f:Int)(a:List Bs)(e:List Bs):Option qxl:=qjq fu fu 0 d b c f a e
def qu4(b:Bs)(d:Bs):Option ((List Bs)):=(qvc b).bind fun c=>(qvd fu c b d (-1) [] []).bind fun f=>dr f (fun e=>some e.2.2.2.2) (fun a=>bif decide (0<=a.2.2.2.1) then bif decide (0<=a.2.2.2.1/\a.2.2.2.1<=(a.2.1.length:Int)) then bif decide (List.length (a.2.2.2.2.2++([List.drop a.2.2.2.1.toNat a.2.1]:List Bs))<=a8) then some (a.2.2.2.2.2++([List.drop a.2.2.2.1.toNat a.2.1]:List Bs)) else none else none else some a.2.2.2.2.2)
def qcn(d:List (Bs×Bs))(b:Bs)(c:Int):Option ((List Bs)):=(qu0 fu d).bind fun a=>bif !a.2 then some [] else bif decide (8<=c) then some [] else(qu4 fu b a.1).bind fun e=>some e
def qcl(b:Bs×Bs):Option Bool:=(eq fu b.1 [98,111,117,110,100,97,114,121]).bind fun a=>some a
abbrev qp9:=wV->Int->Int->Option Int
def qvx(d:qp9):qp9:=fun b c a=>bif decide (a<c) then(al b a).bind fun e=>(qcl fu e).bind fun f=>bif f then some a else d b c (af (a+1)) else some (-1)
def qj4(fu:Nat):Nat->qp9|0=>fun _ _ _=>none|n+1=>qvx fu (qj4 fu n)
def qj3(a:List (Bs×Bs)):Option Int:=qj4 fu fu a (a.length:Int) 0
abbrev qqa:=wV->Int->Int->Option (wV)
def qvs(d:qqa):qqa:=fun a b c=>bif decide (c<(a.length:Int)) then(al a c).bind fun e=>(qcl fu e).bind fun f=>bif !f then(al a b).bind fun g=>none else d a b (af (c+1)) else bif decide (0<=b/\b<=(a.length:Int)) then none else none
def qj0(fu:Nat):Nat->qqa|0=>fun _ _ _=>none|n+1=>qvs fu (qj0 fu n)
def qvr(b:List (Bs×Bs)):Option (wV):=(qj3 fu b).bind fun a=>bif a==(-1) then some b else qj0 fu fu b a (af (a+1))
def qtu(a:UInt8):Option Bool:=bif decide (32<=a) then some (decide (a<=126)) else some false
def qsa(fu:Nat)(d:e9):e9:=fun b c a=>bif decide (a<c) then(al b a).bind fun e=>(qtu e).bind fun f=>bif !f then some false else d b c (af (a+1)) else some true
def qg0(fu:Nat):Nat->e9|0=>fun _ _ _=>none|n+1=>qsa fu (qg0 fu n)
def qr9(a:Bs):Option Bool:=qg0 fu fu a (a.length:Int) 0
def qg5(a:UInt8):Option UInt8:=(([48,49,50,51,52,53,54,55,56,57,65,66,67,68,69,70]:Bs)[(a&&&15).toNat]?).bind fun b=>some b
abbrev sy:=Bs->Int->Int->(List Bs)->Option ((List Bs))
def qiz(fu:Nat)(d:sy):Bs->Bs->Int->Int->(List Bs)->Option ((List Bs)):=fun e b f c a=>bif decide (0<=af ((a.length:Int)-1)/\(af ((a.length:Int)-1)).toNat<a.length) then(a[(af ((a.length:Int)-1)).toNat]?).bind fun h=>bif decide ((af ((h.length:Int)+(b.length:Int)))<=60) then bif decide (0<=af ((a.length:Int)-1)/\(af ((a.length:Int)-1)).toNat<a.length) then(a[(af ((a.length:Int)-1)).toNat]?).bind fun g=>bif decide (g.length+b.length<=bg) then bif decide (0<=af ((a.length:Int)-1)/\(af ((a.length:Int)-1)).toNat<a.length) then(a[(af ((a.length:Int)-1)).toNat]?).bind fun i=>d e f (af (c+1)) (List.set a ((af ((a.length:Int)-1)).toNat) (g++b)) else none else none else none else bif decide (List.length (a++([b]:List Bs))<=a8) then d e f (af (c+1)) (a++([b]:List Bs)) else none else none
def qt6(e:sy):sy:=fun b d a c=>bif decide (a<d) then bif decide (0<=a/\a<=af (a+1)/\af (a+1)<=(b.length:Int)) then(al b a).bind fun h=>(tn h).bind fun k=>bif !k then(al b a).bind fun f=>(qg5 (sw f (min (4:Int).toNat 8))).bind fun i=>(al b a).bind fun j=>(qg5 j).bind fun g=>qiz fu e b ([37,i,g]:Bs) d a c else qiz fu e b (List.take ((af (a+1)).toNat-a.toNat) (List.drop a.toNat b)) d a c else none else some c
def qiy(fu:Nat):Nat->sy|0=>fun _ _ _ _=>none|n+1=>qt6 fu (qiy fu n)
def qt5(a:Bs):Option ((List Bs)):=qiy fu fu a (a.length:Int) 0 ([([117,116,102,56,39,39]:Bs)]:List Bs)
abbrev qqb:=Bs->Int->Int->(Bs×Bs)->(List Bs)->Option (Bs)
def qtv(fu:Nat)(h:qqb):qqb:=fun g d b a c=>bif decide (b<d) then bif decide (0<=b/\b.toNat<c.length) then(c[b.toNat]?).bind fun f=>bif decide (List.length ([59,32]:Bs)+a.1.length<=bg) then bif decide (List.length (([59,32]:Bs)++a.1)+List.length ([42]:Bs)<=bg) then(jk b).bind fun e=>bif decide (List.length ((([59,32]:Bs)++a.1)++[42])+e.length<=bg) then bif decide (List.length (((([59,32]:Bs)++a.1)++[42])++e)+List.length ([42,61]:Bs)<=bg) then bif decide (List.length ((((([59,32]:Bs)++a.1)++[42])++e)++[42,61])+f.length<=bg) then bif decide (g.length+List.length (((((([59,32]:Bs)++a.1)++[42])++e)++[42,61])++f)<=bg) then h (g++(((((([59,32]:Bs)++a.1)++[42])++e)++[42,61])++f)) d (af (b+1)) a c else none else none else none else none else none else none else none else some g
def qiq(fu:Nat):Nat->qqb|0=>fun _ _ _ _ _=>none|n+1=>qtv fu (qiq fu n)
def qtw:(Bs×Bs)->Option (Bs):=fun a=>(qt5 fu a.2).bind fun b=>qiq fu fu [] (b.length:Int) 0 a b
def qip:Bool->(Bs×Bs)->Option (Bs):=fun c a=>bif c then bif decide (List.length ([59,32]:Bs)+a.1.length<=bg) then bif decide (List.length (([59,32]:Bs)++a.1)+List.length ([61,34]:Bs)<=bg) then(qki ([([92]:Bs),([92,92]:Bs),([34]:Bs),([92,34]:Bs)]:List Bs)).bind fun b=>(tp a.2 b.1 b.2.1 b.2.2.1 b.2.2.2).bind fun d=>bif decide (List.length ((([59,32]:Bs)++a.1)++[61,34])+d.length<=bg) then bif decide (List.length (((([59,32]:Bs)++a.1)++[61,34])++d)+List.length ([34]:Bs)<=bg) then some ((((([59,32]:Bs)++a.1)++[61,34])++d)++[34]) else none else none else none else none else qtw fu a
def qtt(a:Bs×Bs):Option (Bs):=(x7 fu a.2).bind fun b=>bif b then bif decide (List.length ([59,32]:Bs)+a.1.length<=bg) then bif decide (List.length (([59,32]:Bs)++a.1)+List.length ([61]:Bs)<=bg) then bif decide (List.length ((([59,32]:Bs)++a.1)++[61])+a.2.length<=bg) then some (((([59,32]:Bs)++a.1)++[61])++a.2) else none else none else none else bif decide ((a.2.length:Int)<=60) then(qr9 fu a.2).bind fun c=>qip fu c a else qip fu false a
abbrev qqc:=Bs->wV->Int->Int->(Int×Int)->Option (Bs×(Int×Int))
def qtn(g:qqc):qqc:=fun d c b a e=>bif decide (a<b) then(al c a).bind fun h=>(qtt fu h).bind fun f=>bif decide (d.length+f.length<=bg) then g (d++f) c b (af (a+1)) e else none else bif decide (4000<(d.length:Int)) then(au 1 (-4)).bind fun j=>some (([]:Bs),j) else(ce).bind fun i=>some (d,i)
def qik(fu:Nat):Nat->qqc|0=>fun _ _ _ _ _=>none|n+1=>qtn fu (qik fu n)
def qcf(a:Bs×Bs×wV):Option (Bs×(Int×Int)):=(xz fu a).bind fun b=>(cd b).bind fun c=>bif c then some (([]:Bs),b) else bif decide (a.1.length+List.length ([47]:Bs)<=bg) then bif decide (List.length (a.1++[47])+a.2.1.length<=bg) then qik fu fu ((a.1++[47])++a.2.1) a.2.2 (a.2.2.length:Int) 0 (0,0) else none else none
abbrev qqe:=Int->Int->wV->Option (wV)
def qvu(d:qqe):qqe:=fun b c a=>bif decide (c<(a.length:Int)) then bif decide (0<=c/\c.toNat<a.length) then(a[c.toNat]?).bind fun e=>(qcl fu e).bind fun f=>bif !f then bif decide (0<=b/\b.toNat<a.length) then(a[b.toNat]?).bind fun g=>d (af (b+1)) (af (c+1)) (List.set a b.toNat e) else none else d b (af (c+1)) a else none else bif decide (0<=b/\b.toNat<a.length) then bif decide (0<=b/\b<=(List.length (List.take b.toNat a++List.replicate (a.length-b.toNat) (([]:Bs),([]:Bs))):Int)) then some (List.take b.toNat (List.take b.toNat a++List.replicate (a.length-b.toNat) (([]:Bs),([]:Bs)))) else none else none
def qj1(fu:Nat):Nat->qqe|0=>fun _ _ _=>none|n+1=>qvu fu (qj1 fu n)
def qvt(b:List (Bs×Bs)):Option (wV):=(qj3 fu b).bind fun a=>bif a==(-1) then some b else qj1 fu fu a (af (a+1)) b
abbrev q8e:=Bool×wV
def qjf(h:List (Bs×Bs)):Option q8e:=(qck fu h).bind fun j=>dr j (fun c=>(qvr fu []).bind fun l=>(qcf fu (c.1,(c.2.1,l))).bind fun i=>(cd i.2).bind fun o=>bif o then some (false,[]) else(gz h).bind fun g=>bif decide (0<=c.2.2.1/\c.2.2.1.toNat<g.length) then(g[c.2.2.1.toNat]?).bind fun m=>some (true,List.set g c.2.2.1.toNat (m.1,i.1)) else none) (fun b=>(qvt fu b.2.2.2.2).bind fun k=>(qcf fu (b.1,(b.2.1,k))).bind fun d=>(cd d.2).bind fun e=>bif e then some (false,[]) else(gz h).bind fun a=>bif decide (0<=b.2.2.1/\b.2.2.1.toNat<a.length) then(a[b.2.2.1.toNat]?).bind fun f=>some (true,List.set a b.2.2.1.toNat (f.1,d.1)) else none)
abbrev ql9:=wU×Bool×(Int×Int×Int)
abbrev qba:=Bs->Int->(Int×Int×Int)->Option ql9
abbrev qxn:=wU×Bool×(Int×Int×Int)
abbrev qqf:=Int->Int->Int->(Int×Int×Int)->(List Bs)->wV->(List wU)->Option qxn
def qvi(c:qba)(fu:Nat)(j:qqf):qqf:=fun h f a i d g b=>bif decide (a<f) then bif decide (0<=a/\a.toNat<d.length) then(d[a.toNat]?).bind fun k=>(c k (af (h+1)) i).bind fun e=>bif !e.2.1 then some ((Tree.node ([],[]) []),(false,e.2.2)) else bif decide (List.length (b++([(Tree.node e.1.val e.1.kids)]:List wU))<=a8) then j h f (af (a+1)) e.2.2 d g (b++([(Tree.node e.1.val e.1.kids)]:List wU)) else none else none else some ((Tree.node (g,[]) b),(true,i))
def qjs(a:qba)(fu:Nat):Nat->qqf|0=>fun _ _ _ _ _ _ _=>none|n+1=>qvi a fu (qjs a fu n)
def qvh(a:qba)(fu:Nat)(h:Bs)(f:Int)(b:Int×Int×Int)(c:List (Bs×Bs)):Option qxn:=(gz c).bind fun e=>(gz h).bind fun i=>(qcn fu c h f).bind fun d=>bif(d.length:Int)==0 then some ((Tree.node (e,i) []),(true,(af (b.1+1),b.2))) else(qjf fu c).bind fun g=>bif !g.1 then some ((Tree.node (e,i) []),(true,(af (b.1+1),b.2))) else qjs a fu fu f (d.length:Int) 0 (af (b.1+1),b.2) d g.2 []
def qjt(a:qba)(fu:Nat)(d:Bs)(f:Int)(c:Int×Int×Int):Option ql9:=(qia fu d).bind fun b=>(cd b.2.1).bind fun i=>bif i then(au b.2.1.1 (-8)).bind fun h=>some ((Tree.node ([],[]) []),(false,(c.1,h))) else bif c.1==40 then(au 2 (-7)).bind fun g=>some ((Tree.node ([],[]) []),(false,(c.1,g))) else bif decide (0<=b.1/\b.1<=(d.length:Int)) then(qvh a fu (List.drop b.1.toNat d) f c b.2.2).bind fun e=>some ((Tree.node e.1.val e.1.kids),e.2) else none
def qju(fu:Nat):Nat->qba|0=>fun _ _ _=>none|n+1=>qjt (qju fu n) fu
def q7y(c:Bs)(a:Int)(b:Int×Int×Int):Option ql9:=qju fu fu c a b
abbrev qxm:=wU×Bool×(Int×Int×Int)
abbrev qqg:=Int->Int->Int->(Int×Int×Int)->(List Bs)->wV->(List wU)->Option qxm
def qvg(i:qqg):qqg:=fun g e a h c f b=>bif decide (a<e) then bif decide (0<=a/\a.toNat<c.length) then(c[a.toNat]?).bind fun j=>(q7y fu j (af (g+1)) h).bind fun d=>bif !d.2.1 then some ((Tree.node ([],[]) []),(false,d.2.2)) else bif decide (List.length (b++([(Tree.node d.1.val d.1.kids)]:List wU))<=a8) then i g e (af (a+1)) d.2.2 c f (b++([(Tree.node d.1.val d.1.kids)]:List wU)) else none else none else some ((Tree.node (f,[]) b),(true,h))
def qjr(fu:Nat):Nat->qqg|0=>fun _ _ _ _ _ _ _=>none|n+1=>qvg fu (qjr fu n)
def qvf(b:List (Bs×Bs))(e:Bs)(f:Int)(a:Int×Int×Int):Option qxm:=(gz b).bind fun d=>(gz e).bind fun h=>(qcn fu b e f).bind fun c=>bif(c.length:Int)==0 then some ((Tree.node (d,h) []),(true,(af (a.1+1),a.2))) else(qjf fu b).bind fun g=>bif !g.1 then some ((Tree.node (d,h) []),(true,(af (a.1+1),a.2))) else qjr fu fu f (c.length:Int) 0 (af (a.1+1),a.2) c g.2 []
abbrev q8g:=wU
def qcm(a:Tree (wV×Bs)):Option q8g:=some (Tree.node a.val a.kids)
abbrev q8d:=((Int×Int)×Bool) ⊕ ((Int×Int)×Bool)
def quy(e:Int)(f:List (Bs×Bs))(g:Bs)(h:List wU)(d:Int)(b:Int×Int)(a:Bool):Option q8d:=bif decide (40<=e) then(au 2 (-1)).bind fun c=>some (.inl (c,a)) else bif a then some (.inr (b,true)) else some (.inr (b,decide (8<d)))
abbrev qc6:=(Int×(Int×Int)×Bool) ⊕ (Int×(Int×Int)×Bool)
abbrev qf8:=wU->Int->Int->(Int×Int)->Bool->Option qc6
abbrev qqh:=Int->(List wU)->Int->Int->Int->(Int×Int)->Bool->Option qc6
def qu6(b:qf8)(fu:Nat)(k:qqh):qqh:=fun i d c a j f g=>bif decide (a<c) then(al d a).bind fun h=>(b (Tree.node h.val h.kids) (af (i+1)) j f g).bind fun m=>dr m (fun l=>some (.inl l)) (fun e=>k i d c (af (a+1)) e.1 e.2.1 e.2.2) else some (.inr (j,(f,g)))
def qjj(a:qf8)(fu:Nat):Nat->qqh|0=>fun _ _ _ _ _ _ _=>none|n+1=>qu6 a fu (qjj a fu n)
def qjh(a:qf8)(fu:Nat)(b:Tree (wV×Bs))(d:Int)(c:Int)(h:Int×Int)(g:Bool):Option qc6:=(quy c b.val.1 b.val.2 b.kids d h g).bind fun f=>dr f (fun i=>some (.inl (c,i))) (fun e=>qjj a fu fu d b.kids (b.kids.length:Int) 0 (af (c+1)) e.1 e.2)
def qji(fu:Nat):Nat->qf8|0=>fun _ _ _ _ _=>none|n+1=>qjh (qji fu n) fu
def q7v(d:Tree (wV×Bs))(b:Int)(c:Int)(e:Int×Int)(a:Bool):Option qc6:=qji fu fu d b c e a
abbrev q8h:=(wU×(Int×Int)×Bool) ⊕ (wU×(Int×Int)×Bool)
def qu5(a:Tree (wV×Bs))(c:Int×Int)(e:Bool):Option q8h:=(q7v fu (Tree.node a.val a.kids) 0 0 c e).bind fun b=>dr b (fun f=>some (.inl ((Tree.node a.val a.kids),f.2))) (fun d=>some (.inr ((Tree.node a.val a.kids),d.2)))
def qvk:(Int->wU->Bs->Bs->wV->Option Int):=fun h d a b c=>(qii fu (a,(b,c)) [98,111,117,110,100,97,114,121]).bind fun f=>(qcf fu (a,(b,c))).bind fun e=>bif f.2.1 then some 5 else bif decide (60<=(c.length:Int)) then some 5 else(cd e.2).bind fun i=>bif i then some 5 else(al d.val.1 h).bind fun g=>bif !(e.1==g.2) then some 5 else bif decide (2000<(e.1.length:Int)) then some 5 else some 0
def ql:(Int->Bool->wU->Bs->Bs->wV->Option Int):=fun f d c a b e=>bif d then some 5 else qvk fu f (Tree.node c.val c.kids) a b e
def qvj(a:Tree (wV×Bs)):Option Int:=(qck fu a.val.1).bind fun d=>dr d (fun c=>bif decide (0<(a.val.2.length:Int)) then ql fu c.2.2.1 true (Tree.node a.val a.kids) c.1 c.2.1 [] else bif !c.2.2.2 then ql fu c.2.2.1 true (Tree.node a.val a.kids) c.1 c.2.1 [] else(eq fu c.1 [109,117,108,116,105,112,97,114,116]).bind fun e=>ql fu c.2.2.1 (!e) (Tree.node a.val a.kids) c.1 c.2.1 []) (fun b=>bif decide (0<(a.val.2.length:Int)) then ql fu b.2.2.1 true (Tree.node a.val a.kids) b.1 b.2.1 b.2.2.2.2 else bif !b.2.2.2.1 then ql fu b.2.2.1 true (Tree.node a.val a.kids) b.1 b.2.1 b.2.2.2.2 else(eq fu b.1 [109,117,108,116,105,112,97,114,116]).bind fun f=>ql fu b.2.2.1 (!f) (Tree.node a.val a.kids) b.1 b.2.1 b.2.2.2.2)
def qu3(a:wU×Int):Option Int:=(qif fu a.1.val.1).bind fun b=>(cd b).bind fun f=>bif f then some b.1 else bif decide (0<(a.1.kids.length:Int)) then(qvj fu (Tree.node a.1.val a.1.kids)).bind fun e=>some e else bif decide (12000<(a.1.val.2.length:Int)) then some 1 else(qg3 fu a.1.val.2).bind fun c=>bif c != 0 then some c else(qcn fu a.1.val.1 a.1.val.2 a.2).bind fun d=>bif decide (0<(d.length:Int)) then some 5 else some 0
def quz(e:Int)(c:List (Bs×Bs))(d:Bs)(g:List wU)(b:Int)(f:Int×Int):Option (((Int×Int)) ⊕ ((Int×Int))):=(qu3 fu ((Tree.node (c,d) g),b)).bind fun a=>bif a != 0 then(au a e).bind fun h=>some (.inl h) else some (.inr f)
abbrev qc7:=(Int×(Int×Int)) ⊕ (Int×(Int×Int))
abbrev qf9:=wU->Int->Int->(Int×Int)->Option qc7
abbrev qql:=Int->(List wU)->Int->Int->Int->(Int×Int)->Option qc7
def qu7(b:qf9)(fu:Nat)(j:qql):qql:=fun h d c a i e=>bif decide (a<c) then(al d a).bind fun f=>(b (Tree.node f.val f.kids) (af (h+1)) i e).bind fun l=>dr l (fun k=>some (.inl k)) (fun g=>j h d c (af (a+1)) g.1 g.2) else some (.inr (i,e))
def qjm(a:qf9)(fu:Nat):Nat->qql|0=>fun _ _ _ _ _ _=>none|n+1=>qu7 a fu (qjm a fu n)
def qjk(a:qf9)(fu:Nat)(b:Tree (wV×Bs))(d:Int)(c:Int)(g:Int×Int):Option qc7:=(quz fu c b.val.1 b.val.2 b.kids d g).bind fun e=>dr e (fun h=>some (.inl (c,h))) (fun f=>qjm a fu fu d b.kids (b.kids.length:Int) 0 (af (c+1)) f)
def qjl(fu:Nat):Nat->qf9|0=>fun _ _ _ _=>none|n+1=>qjk (qjl fu n) fu
def q7w(c:Tree (wV×Bs))(a:Int)(b:Int)(d:Int×Int):Option qc7:=qjl fu fu c a b d
abbrev q8i:=(wU×(Int×Int)) ⊕ (wU×(Int×Int))
def qu9(a:Tree (wV×Bs))(c:Int×Int):Option q8i:=(q7w fu (Tree.node a.val a.kids) 0 0 c).bind fun b=>dr b (fun e=>some (.inl ((Tree.node a.val a.kids),e.2))) (fun d=>some (.inr ((Tree.node a.val a.kids),d.2)))
def qux(a:Tree (wV×Bs)):Option ((Int×Int)):=(qcm (Tree.node a.val a.kids)).bind fun c=>(qu5 fu (Tree.node c.val c.kids) (0,0) false).bind fun j=>dr j (fun f=>some f.2.1) (fun d=>bif d.2.2 then(au 2 (-2)).bind fun h=>some h else(qcm (Tree.node a.val a.kids)).bind fun e=>(qu9 fu (Tree.node e.val e.kids) d.2.1).bind fun g=>dr g (fun i=>some i.2) (fun k=>(ce).bind fun b=>some b))
abbrev q8c:=wU×(Int×Int)
def quv(b:wV×Bs):Option q8c:=(qci fu b).bind fun c=>(cd c).bind fun h=>bif h then some ((Tree.node ([],[]) []),c) else(qvf fu b.1 b.2 0 (0,(0,0))).bind fun a=>bif !a.2.1 then some ((Tree.node ([],[]) []),a.2.2.2) else(qux fu (Tree.node a.1.val a.1.kids)).bind fun d=>(cd d).bind fun f=>bif f then(au d.1 (-9)).bind fun g=>some ((Tree.node ([],[]) []),g) else(ce).bind fun e=>some ((Tree.node a.1.val a.1.kids),e)
abbrev q8a:=wU
def qus(a:Tree (wV×Bs)):Option q8a:=some (Tree.node a.val a.kids)
def qlj(b:Bs)(a:UInt8):Option (Bs×UInt8):=some (b,a)
abbrev q8m:=(Bs×Bool×UInt8) ⊕ ((Bs×Bool) ⊕ ((Bs×Bool) ⊕ (Bs×Bool)))
def qw1(a:Bs):Option q8m:=(qlj [55,98,105,116] 127).bind fun b=>(qlj [56,98,105,116] 255).bind fun c=>(eq fu b.1 a).bind fun g=>bif g then some (.inl (b.1,(true,b.2))) else(eq fu c.1 a).bind fun d=>bif d then some (.inl (c.1,(true,c.2))) else(eq fu [98,97,115,101,54,52] a).bind fun e=>bif e then some (.inr (.inl (([98,97,115,101,54,52]:Bs),true))) else(eq fu [113,117,111,116,101,100,45,112,114,105,110,116,97,98,108,101] a).bind fun f=>bif f then some (.inr (.inr (.inl (([113,117,111,116,101,100,45,112,114,105,110,116,97,98,108,101]:Bs),true)))) else some (.inr (.inr (.inr (([]:Bs),false))))
abbrev q8n:=(Bs×(Int×Int)×UInt8) ⊕ ((Bs×(Int×Int)) ⊕ ((Bs×(Int×Int)) ⊕ (Bs×(Int×Int))))
def qw2(d:Bs)(q:Bs):Option q8n:=(qw1 fu q).bind fun s=>dr s (fun a=>bif !a.2.1 then(au 18 (-3)).bind fun v=>some (.inl (a.1,(v,a.2.2))) else bif decide (12000<(d.length:Int)) then(au 1 (-1)).bind fun r=>some (.inl (a.1,(r,a.2.2))) else(ce).bind fun g=>some (.inl (a.1,(g,a.2.2)))) (fun t=>dr t (fun c=>bif !c.2 then(au 18 (-3)).bind fun o=>some (.inr (.inl (c.1,o))) else bif decide (12000<(d.length:Int)) then(au 1 (-1)).bind fun p=>some (.inr (.inl (c.1,p))) else(ce).bind fun h=>some (.inr (.inl (c.1,h)))) (fun u=>dr u (fun e=>bif !e.2 then(au 18 (-3)).bind fun f=>some (.inr (.inr (.inl (e.1,f)))) else bif decide (12000<(d.length:Int)) then(au 1 (-1)).bind fun k=>some (.inr (.inr (.inl (e.1,k)))) else(ce).bind fun m=>some (.inr (.inr (.inl (e.1,m))))) (fun b=>bif !b.2 then(au 18 (-3)).bind fun i=>some (.inr (.inr (.inr (b.1,i)))) else bif decide (12000<(d.length:Int)) then(au 1 (-1)).bind fun j=>some (.inr (.inr (.inr (b.1,j)))) else(ce).bind fun l=>some (.inr (.inr (.inr (b.1,l)))))))
def qw0(a:Bs):Option ((Int×Int)×Bs):=bif decide (a.length<=a8) then(ce).bind fun b=>some (b,a) else none
abbrev qqm:=Int->Int->Bs->Int->Int->(Int×Int)->Bs->Option ((Int×Int)×Bs)
def qr2(fu:Nat)(i:qqm):qqm:=fun g d c e b f a=>bif decide (b<e) then(al c b).bind fun j=>bif j==61 then(ce).bind fun l=>some (l,a) else bif decide (0<List.length ([65,66,67,68,69,70,71,72,73,74,75,76,77,78,79,80,81,82,83,84,85,86,87,88,89,90,97,98,99,100,101,102,103,104,105,106,107,108,109,110,111,112,113,114,115,116,117,118,119,120,121,122,48,49,50,51,52,53,54,55,56,57,43,47]:Bs)) then(qbx ([65,66,67,68,69,70,71,72,73,74,75,76,77,78,79,80,81,82,83,84,85,86,87,88,89,90,97,98,99,100,101,102,103,104,105,106,107,108,109,110,111,112,113,114,115,116,117,118,119,120,121,122,48,49,50,51,52,53,54,55,56,57,43,47]:Bs) j).bind fun h=>bif decide (h<0) then i g d c e (af (b+1)) f a else bif decide (8<=(af (d+6))) then bif decide (0<=af ((af (d+6))-8)) then bif decide (List.length (a++([sr (Int.fdiv (af (((BitVec.ofInt 64 (af (g*2 ^ min (6:Int).toNat 64))|||BitVec.ofInt 64 h).toNat:Int))) (2 ^ min (af ((af (d+6))-8)).toNat 64))]:Bs))<=a8) then bif decide (0<=af ((af (d+6))-8)) then i (af (((BitVec.ofInt 64 (af (((BitVec.ofInt 64 (af (g*2 ^ min (6:Int).toNat 64))|||BitVec.ofInt 64 h).toNat:Int)))&&&BitVec.ofInt 64 (af ((af (1*2 ^ min (af ((af (d+6))-8)).toNat 64))-1))).toNat:Int))) (af ((af (d+6))-8)) c e (af (b+1)) f (a++([sr (Int.fdiv (af (((BitVec.ofInt 64 (af (g*2 ^ min (6:Int).toNat 64))|||BitVec.ofInt 64 h).toNat:Int))) (2 ^ min (af ((af (d+6))-8)).toNat 64))]:Bs)) else none else none else none else i (af (((BitVec.ofInt 64 (af (g*2 ^ min (6:Int).toNat 64))|||BitVec.ofInt 64 h).toNat:Int))) (af (d+6)) c e (af (b+1)) f a else none else(ce).bind fun k=>some (k,a)
def qgw(fu:Nat):Nat->qqm|0=>fun _ _ _ _ _ _ _=>none|n+1=>qr2 fu (qgw fu n)
def qr1(a:Bs):Option ((Int×Int)×Bs):=bif decide (24000<(a.length:Int)) then(au 1 (-1)).bind fun b=>some (b,[]) else qgw fu fu 0 0 a (a.length:Int) 0 (0,0) []
def qsu(fu:Nat)(c:ol):ol:=fun a b=>bif decide (0<(a.length:Int)) then(al a (af ((a.length:Int)-1))).bind fun d=>bif d==b then bif decide (0<=af ((a.length:Int)-1)/\af ((a.length:Int)-1)<=(a.length:Int)) then c (List.take (af ((a.length:Int)-1)).toNat a) b else none else some a else some a
def qhr(fu:Nat):Nat->ol|0=>fun _ _=>none|n+1=>qsu fu (qhr fu n)
def qst(b:Bs)(a:UInt8):Option (Bs):=qhr fu fu b a
def qsm(fu:Nat)(e:w9):w9:=fun b d a=>bif decide (d<(b.length:Int)) then(al b d).bind fun c=>bif decide (128<=c) then bif decide (a.length=256) then bif decide (a.length=a.length)&&decide (a.length=256) then bif decide (a.length=256)&&(true&&true) then some (a,false) else none else none else none else(a[c.toNat]?).bind fun f=>e b (af (d+1)) (List.set a c.toNat true) else bif decide (a.length=256) then bif decide (a.length=a.length)&&decide (a.length=256) then bif decide (a.length=256)&&(true&&true) then some (a,true) else none else none else none
def qhn(fu:Nat):Nat->w9|0=>fun _ _ _=>none|n+1=>qsm fu (qhn fu n)
def qsl(a:Bs):Option ((List Bool)×Bool):=qhn fu fu a 0 (List.replicate 256 false)
def qsj(c:UInt8)(a:List Bool):Option (Bool×(List Bool)):=(a[c.toNat]?).bind fun b=>some (b,a)
def qss(fu:Nat)(d:om):om:=fun a c=>bif decide (0<(a.length:Int)) then(al a (af ((a.length:Int)-1))).bind fun e=>(qsj e c).bind fun b=>bif !b.1 then some (a,b.2) else bif decide (0<=af ((a.length:Int)-1)/\af ((a.length:Int)-1)<=(a.length:Int)) then d (List.take (af ((a.length:Int)-1)).toNat a) b.2 else none else some (a,c)
def qhq(fu:Nat):Nat->om|0=>fun _ _=>none|n+1=>qss fu (qhq fu n)
def qsr(b:Bs)(a:List Bool):Option (Bs×(List Bool)):=qhq fu fu b a
def qxf:q6m:=fun d b a c=>some (IntKind.i32.wrap (((BitVec.ofInt 32 (IntKind.i32.wrap (((BitVec.ofInt 32 (IntKind.i32.wrap (((BitVec.ofInt 32 (IntKind.i32.wrap (((d&&&7).toNat:Int)*2 ^ min (18:Int).toNat 32))|||BitVec.ofInt 32 (IntKind.i32.wrap (((b&&&63).toNat:Int)*2 ^ min (12:Int).toNat 32))).toNat:Int)))|||BitVec.ofInt 32 (IntKind.i32.wrap (((a&&&63).toNat:Int)*2 ^ min (6:Int).toNat 32))).toNat:Int)))|||BitVec.ofInt 32 ((c&&&63).toNat:Int)).toNat:Int)),4)
def ql2:q6l:=fun e c b d a=>bif a then some (65533,1) else qxf e c b d
def qxe:q6k:=fun e d f b a=>bif decide (f<=3) then some (IntKind.i32.wrap (((BitVec.ofInt 32 (IntKind.i32.wrap (((BitVec.ofInt 32 (IntKind.i32.wrap (((d&&&15).toNat:Int)*2 ^ min (12:Int).toNat 32))|||BitVec.ofInt 32 (IntKind.i32.wrap (((b&&&63).toNat:Int)*2 ^ min (6:Int).toNat 32))).toNat:Int)))|||BitVec.ofInt 32 ((a&&&63).toNat:Int)).toNat:Int)),3) else(al e 3).bind fun c=>bif decide (c<128) then ql2 d b a c true else ql2 d b a c (decide (191<c))
def ql1:q6j:=fun d e f c b a=>bif a then some (65533,1) else qxe d e f c b
def qxd:q6i:=fun c d e a=>bif decide (e<=2) then some (IntKind.i32.wrap (((BitVec.ofInt 32 (IntKind.i32.wrap (((d&&&31).toNat:Int)*2 ^ min (6:Int).toNat 32))|||BitVec.ofInt 32 ((a&&&63).toNat:Int)).toNat:Int)),2) else(al c 2).bind fun b=>bif decide (b<128) then ql1 c d e a b true else ql1 c d e a b (decide (191<b))
def ql0:q6h:=fun c d e b a=>bif a then some (65533,1) else qxd c d e b
def qlz(b:Bs):Option (Int×Int):=bif decide ((b.length:Int)<1) then some (65533,0) else(al b 0).bind fun d=>(qa2[d.toNat]?).bind fun a=>bif decide (240<=a) then(al b 0).bind fun f=>some (IntKind.i32.wrap (((BitVec.ofInt 32 (IntKind.i32.wrap (((BitVec.ofInt 32 (f.toNat:Int) &&& ~~~ BitVec.ofInt 32 (Int.fdiv (IntKind.i32.wrap ((a.toNat:Int)*2 ^ min (31:Int).toNat 32)) (2 ^ min (31:Int).toNat 32))).toNat:Int)))|||BitVec.ofInt 32 (IntKind.i32.wrap (((BitVec.ofInt 32 65533&&&BitVec.ofInt 32 (Int.fdiv (IntKind.i32.wrap ((a.toNat:Int)*2 ^ min (31:Int).toNat 32)) (2 ^ min (31:Int).toNat 32))).toNat:Int)))).toNat:Int)),1) else(qa3[(sw a (min (4:Int).toNat 8)).toNat]?).bind fun e=>bif decide ((b.length:Int)<((a&&&7).toNat:Int)) then some (65533,1) else(al b 1).bind fun c=>bif decide (c<e.1) then ql0 b d ((a&&&7).toNat:Int) c true else ql0 b d ((a&&&7).toNat:Int) c (decide (e.2<c))
abbrev qqn:=Bs->Bs->Int->Option (Int×Int)
def qw7(fu:Nat)(g:qqn):qqn:=fun a c d=>bif decide (0<d) then(al c 0).bind fun b=>bif decide (b<128) then some ((b.toNat:Int),1) else(qlz a).bind fun f=>some f else(qlz a).bind fun e=>some e
def qlr(fu:Nat):Nat->qqn|0=>fun _ _ _=>none|n+1=>qw7 fu (qlr fu n)
def qlq(a:Bs):Option (Int×Int):=qlr fu fu a a (a.length:Int)
def qlp:qgk:=fun d b a=>bif decide (0<=a/\a<=b/\b<=(d.length:Int)) then(qlq fu (List.take (b.toNat-a.toNat) (List.drop a.toNat d))).bind fun c=>bif(af (a+c.2)) != b then some (65533,1) else some c else none
def qlo:qgk:=fun b c a=>bif decide (a<0) then qlp fu b c 0 else qlp fu b c a
def qw6(e:w6):w6:=fun b c a d=>bif decide (d<=a) then(al b a).bind fun f=>(qlu f).bind fun g=>bif g then qlo fu b c a else e b c (af (a-1)) d else qlo fu b c a
def qln(fu:Nat):Nat->w6|0=>fun _ _ _ _=>none|n+1=>qw6 fu (qln fu n)
def qw3(a:Bs):Option (Int×Int):=bif(a.length:Int)==0 then some (65533,0) else(al a (af ((a.length:Int)-1))).bind fun b=>bif decide ((b.toNat:Int)<128) then some ((b.toNat:Int),1) else qln fu fu a (a.length:Int) (af ((af ((a.length:Int)-1))-1)) (if 0>af ((a.length:Int)-4) then 0 else af ((a.length:Int)-4))
abbrev qqo:=Int->Bs->Nat->Option Bool
def qsk(fu:Nat)(d:qqo):qqo:=fun c b a=>bif Nat.blt a (b.length) then bif(((ej b a).1:Nat):Int)==c then some true else d c b (a+(ej b a).2) else some false
def qhm(fu:Nat):Nat->qqo|0=>fun _ _ _=>none|n+1=>qsk fu (qhm fu n)
def qhl(b:Bs)(a:Int):Option Bool:=qhm fu fu a b 0
def qsw(d:fj):fj:=fun a b=>bif decide (0<(a.length:Int)) then(al a (af ((a.length:Int)-1))).bind fun e=>bif decide (128<=(e.toNat:Int)) then(qw3 fu a).bind fun c=>(qhl fu b c.1).bind fun g=>bif !g then some a else bif decide (0<=af ((a.length:Int)-c.2)/\af ((a.length:Int)-c.2)<=(a.length:Int)) then d (List.take (af ((a.length:Int)-c.2)).toNat a) b else none else(qhl fu b (e.toNat:Int)).bind fun f=>bif !f then some a else bif decide (0<=af ((a.length:Int)-1)/\af ((a.length:Int)-1)<=(a.length:Int)) then d (List.take (af ((a.length:Int)-1)).toNat a) b else none else some a
def qhs(fu:Nat):Nat->fj|0=>fun _ _=>none|n+1=>qsw fu (qhs fu n)
def qsv(b:Bs)(a:Bs):Option (Bs):=qhs fu fu b a
def qsi:fj:=fun b c=>(qsl fu c).bind fun a=>bif decide (a.1.length=List.length (List.replicate 256 false))&&decide (a.1.length=256) then bif a.2 then(qsr fu b a.1).bind fun e=>some e.1 else(qsv fu b c).bind fun d=>some d else none
def qhk:qd:=fun b c a=>bif a then(al c 0).bind fun d=>(qst fu b d).bind fun e=>some e else qsi fu b c
def qsh:fj:=fun b a=>bif(a.length:Int)==1 then(al a 0).bind fun c=>qhk fu b a (decide (c<128)) else qhk fu b a false
def qhj:qd:=fun b c a=>bif a then some b else qsh fu b c
def qsg(b:Bs)(a:Bs):Option (Bs):=bif(b.length:Int)==0 then qhj fu b a true else qhj fu b a (a==([]:Bs))
def qvo(fu:Nat)(d:ld):ld:=fun b a c=>bif decide (a<(b.length:Int)) then(al b a).bind fun h=>bif h==61 then bif decide (0<=af (a+1)/\af (a+1)<=(if(b.length:Int)<af (a+3) then(b.length:Int) else af (a+3))/\(if(b.length:Int)<af (a+3) then(b.length:Int) else af (a+3))<=(b.length:Int)) then(qhd (List.take ((if(b.length:Int)<af (a+3) then(b.length:Int) else af (a+3)).toNat-(af (a+1)).toNat) (List.drop (af (a+1)).toNat b))).bind fun e=>bif e.2 then bif decide (List.length (c++([e.1]:Bs))<=a8) then d b (af ((af (a+2))+1)) (c++([e.1]:Bs)) else none else(al b a).bind fun f=>bif decide (List.length (c++([f]:Bs))<=a8) then d b (af (a+1)) (c++([f]:Bs)) else none else none else(al b a).bind fun g=>bif decide (List.length (c++([g]:Bs))<=a8) then d b (af (a+1)) (c++([g]:Bs)) else none else some c
def qjz(fu:Nat):Nat->ld|0=>fun _ _ _=>none|n+1=>qvo fu (qjz fu n)
def qvn(a:Bs):Option (Bs):=qjz fu fu a 0 []
abbrev wt:=Bs->(Int×Int)->Bs->Option ((Int×Int)×Bs)
def qjy(g:wt):Bs->Int->Bs->Bs->(Int×Int)->Bs->Option ((Int×Int)×Bs):=fun e c h f d a=>(qvn fu h).bind fun b=>bif decide (List.length (a++b)<=a8) then bif decide (List.length ((a++b)++f)<=a8) then bif decide (0<=c/\c<=(e.length:Int)) then g (List.drop c.toNat e) d ((a++b)++f) else none else none else none
def qjx(g:wt):Bs->Int->Bs->(Int×Int)->Bs->Option ((Int×Int)×Bs):=fun f c b d e=>bif decide (0<=(b.length:Int)/\(b.length:Int)<=c/\c<=(f.length:Int)) then(qsg fu b [32,9]).bind fun a=>bif decide (0<List.length ([61]:Bs)) then(qhi a ([61]:Bs)).bind fun h=>bif h then bif decide (0<=af ((a.length:Int)-1)/\af ((a.length:Int)-1)<=(a.length:Int)) then qjy fu g f c (List.take (af ((a.length:Int)-1)).toNat a) [] d e else none else qjy fu g f c a (List.take (c.toNat-(b.length:Int).toNat) (List.drop (b.length:Int).toNat f)) d e else none else none
def qjw(f:wt):Bs->Int->(Int×Int)->Bs->Option ((Int×Int)×Bs):=fun d a b c=>bif decide (0<=a/\a<=(d.length:Int)) then bif decide (0<List.length ([10]:Bs)) then(qby (List.take a.toNat d) ([10]:Bs)).bind fun e=>bif decide ((e.length:Int)<a) then bif decide (0<List.length ([13]:Bs)) then(qby e ([13]:Bs)).bind fun g=>qjx fu f d a g b c else none else qjx fu f d a e b c else none else none
def qvm(d:wt):wt:=fun b c a=>bif decide (0<(b.length:Int)) then(qbx b 10).bind fun e=>bif(af (e+1))==0 then qjw fu d b (b.length:Int) c a else qjw fu d b (af (e+1)) c a else(ce).bind fun f=>some (f,a)
def qjv(fu:Nat):Nat->wt|0=>fun _ _ _=>none|n+1=>qvm fu (qjv fu n)
def qvl(a:Bs):Option ((Int×Int)×Bs):=bif decide (48000<(a.length:Int)) then(au 1 (-1)).bind fun b=>some (b,[]) else qjv fu fu a (0,0) []
def qli(a:Bs)(l:Bs):Option ((Int×Int)×Bs):=(qw2 fu a l).bind fun k=>dr k (fun j=>(cd j.2.1).bind fun p=>bif p then some (j.2.1,[]) else(qw0 a).bind fun o=>some o) (fun m=>dr m (fun h=>(cd h.2).bind fun e=>bif e then some (h.2,[]) else(qr1 fu a).bind fun c=>some c) (fun q=>dr q (fun i=>(cd i.2).bind fun d=>bif d then some (i.2,[]) else(qvl fu a).bind fun f=>some f) (fun g=>(cd g.2).bind fun b=>bif b then some (g.2,[]) else none)))
abbrev qqp:=wV->Int->Int->wU->Option (Bs)
def qxh(e:qqp):qqp:=fun d c b a=>bif decide (b<c) then(al d b).bind fun f=>(eq fu f.1 [67,111,110,116,101,110,116,45,84,114,97,110,115,102,101,114,45,69,110,99,111,100,105,110,103]).bind fun i=>bif !i then e d c (af (b+1)) (Tree.node a.val a.kids) else(qli fu a.val.2 f.2).bind fun g=>bif g.1.1 != 18 then some g.2 else e d c (af (b+1)) (Tree.node a.val a.kids) else(qli fu a.val.2 [55,98,105,116]).bind fun h=>some h.2
def ql3(fu:Nat):Nat->qqp|0=>fun _ _ _ _=>none|n+1=>qxh fu (ql3 fu n)
def qxg(a:Tree (wV×Bs)):Option (Bs):=ql3 fu fu a.val.1 (a.val.1.length:Int) 0 (Tree.node a.val a.kids)
def qsn(c:Bs)(a:Bs)(b:Int):Option (Bs×Bs×Int):=some (a,(c,b))
def qsf(c:Bs)(a:Bs):Option (Bs×Bs×Int):=(qsn c a 0).bind fun b=>some b
def qih(a:Bs)(b:Bs):Option (Bs):=(tk a b).bind fun c=>bif c then bif decide (0<=af ((a.length:Int)-(b.length:Int))/\af ((a.length:Int)-(b.length:Int))<=(a.length:Int)) then some (List.take (af ((a.length:Int)-(b.length:Int))).toNat a) else none else some a
def yi(c:Bs)(a:Bs):Option (Bs):=(qih c a).bind fun b=>some b
abbrev qqq:=Bs->Int->Int->Bs->Option (Bs)
def qs2(fu:Nat)(e:qqq):qqq:=fun c d b a=>bif decide (b<d) then(al c b).bind fun f=>(qg f).bind fun i=>bif i then bif decide (0<(a.length:Int)) then bif decide (0<=af ((a.length:Int)-1)/\(af ((a.length:Int)-1)).toNat<a.length) then(a[(af ((a.length:Int)-1)).toNat]?).bind fun g=>bif g==32 then e c d (af (b+1)) a else bif decide (List.length (a++([32]:Bs))<=a8) then e c d (af (b+1)) (a++([32]:Bs)) else none else none else bif decide (List.length (a++([32]:Bs))<=a8) then e c d (af (b+1)) (a++([32]:Bs)) else none else bif decide (List.length (a++([f]:Bs))<=a8) then e c d (af (b+1)) (a++([f]:Bs)) else none else(yi a [32]).bind fun h=>some h
def qhz(fu:Nat):Nat->qqq|0=>fun _ _ _ _=>none|n+1=>qs2 fu (qhz fu n)
def qhy(a:Bs):Option (Bs):=qhz fu fu a (a.length:Int) 0 []
def qbz(e:Bs)(d:Int)(c:Bs):Option (Int×Bs):=(qhy fu e).bind fun a=>bif a==([]:Bs) then some (af (d+1),c) else(qn [13,10] d).bind fun b=>bif decide (b.length+a.length<=bg) then bif decide (List.length (b++a)+List.length ([13,10]:Bs)<=bg) then bif decide (List.length (c++((b++a)++[13,10]))<=a8) then some (0,c++((b++a)++[13,10])) else none else none else none
abbrev qxi:=Bs×Bs×Int×Int×Bs
abbrev wu:=Bs->Bs->Int->Int->Bs->Option qxi
def qsp(h:wu):wu:=fun f b e d c=>bif decide (0<(b.length:Int)) then(qlq fu b).bind fun a=>bif decide (0<=(0:Int)/\0<=a.2/\a.2<=a.2/\a.2<=(b.length:Int)) then(qbz fu (List.take (a.2.toNat-(0:Int).toNat) (List.drop (0:Int).toNat b)) d c).bind fun g=>bif decide (0<=a.2/\a.2<=(b.length:Int)) then h f (List.drop a.2.toNat b) e g.1 g.2 else none else none else some (f,(b,(e,(d,c))))
def qho(fu:Nat):Nat->wu|0=>fun _ _ _ _ _=>none|n+1=>qsp fu (qho fu n)
def qsq(h:wu):wu:=fun d a c f e=>(qh a d).bind fun b=>bif decide (b<0) then bif decide (0<=(0:Int)/\0<=(a.length:Int)/\(a.length:Int)<=(a.length:Int)/\(a.length:Int)<=(a.length:Int)) then(qbz fu (List.take ((a.length:Int).toNat-(0:Int).toNat) (List.drop (0:Int).toNat a)) f e).bind fun i=>some (d,(a,(c,i))) else none else bif decide (0<=af (b+c)/\af (b+c)<=(a.length:Int)) then bif decide (0<=(0:Int)/\0<=(List.length (List.take (af (b+c)).toNat a):Int)/\(List.length (List.take (af (b+c)).toNat a):Int)<=(List.length (List.take (af (b+c)).toNat a):Int)/\(List.length (List.take (af (b+c)).toNat a):Int)<=(List.length (List.take (af (b+c)).toNat a):Int)) then(qbz fu (List.take ((List.length (List.take (af (b+c)).toNat a):Int).toNat-(0:Int).toNat) (List.drop (0:Int).toNat (List.take (af (b+c)).toNat a))) f e).bind fun g=>bif decide (0<=af (b+(d.length:Int))/\af (b+(d.length:Int))<=(a.length:Int)) then h d (List.drop (af (b+(d.length:Int))).toNat a) c g.1 g.2 else none else none else none
def qhp(fu:Nat):Nat->wu|0=>fun _ _ _ _ _=>none|n+1=>qsq fu (qhp fu n)
def qso(a:Bs)(c:Bs)(d:Int)(e:Int)(b:Bs):Option qxi:=bif(a.length:Int)==0 then qho fu fu a c d e b else qhp fu fu a c d e b
def qs0(b:Bs):Option (Bs):=bif decide (0<List.length ([13,10]:Bs)) then(qsf b ([13,10]:Bs)).bind fun a=>(qso fu a.1 a.2.1 a.2.2 0 []).bind fun c=>some c.2.2.2.2 else none
def qs1(c:Bs×Bs):Option (Bs):=(qbu fu c.1).bind fun a=>bif decide (a.length+List.length ([58]:Bs)<=bg) then(qhy fu c.2).bind fun b=>bif decide (List.length (a++[58])+b.length<=bg) then bif decide (List.length ((a++[58])++b)+List.length ([13,10]:Bs)<=bg) then some (((a++[58])++b)++[13,10]) else none else none else none
abbrev wv:=wV->Int->Int->wU->Bs->Bs->Option (Bs)
def qhx(fu:Nat)(g:wv):wv:=fun d b c a f e=>g d b (af (c+1)) (Tree.node a.val a.kids) e f
def qhv(i:wv):(wV->Int->Int->Bool->wU->(Bs×Bs)->Bs->Bs->Option (Bs)):=fun e c d g a h f b=>bif g then(qs1 fu h).bind fun j=>bif decide (List.length (b++j)<=a8) then qhx fu i e c d (Tree.node a.val a.kids) (b++j) f else none else qhx fu i e c d (Tree.node a.val a.kids) b f
def qhw(fu:Nat):(wU->Bs->Bs->Bs->Option (Bs)):=fun g e c b=>(jk (g.kids.length:Int)).bind fun a=>bif decide (a.length+List.length ([32]:Bs)<=bg) then(jk (b.length:Int)).bind fun d=>bif decide (List.length (a++[32])+d.length<=bg) then bif decide (List.length ((a++[32])++d)+List.length ([32]:Bs)<=bg) then(jk (e.length:Int)).bind fun f=>bif decide (List.length (((a++[32])++d)++[32])+f.length<=bg) then bif decide (List.length ((((a++[32])++d)++[32])++f)+List.length ([13,10]:Bs)<=bg) then bif decide (List.length (c++(((((a++[32])++d)++[32])++f)++[13,10]))<=a8) then bif decide (List.length ((c++(((((a++[32])++d)++[32])++f)++[13,10]))++b)<=a8) then bif decide (List.length (((c++(((((a++[32])++d)++[32])++f)++[13,10]))++b)++e)<=a8) then some (((c++(((((a++[32])++d)++[32])++f)++[13,10]))++b)++e) else none else none else none else none else none else none else none else none
def qsy(h:wv):wv:=fun f e b a d c=>bif decide (b<e) then(al f b).bind fun g=>(eq fu g.1 [82,101,99,101,105,118,101,100]).bind fun l=>bif !l then(eq fu g.1 [67,111,110,116,101,110,116,45,84,114,97,110,115,102,101,114,45,69,110,99,111,100,105,110,103]).bind fun k=>qhv fu h f e b (!k) (Tree.node a.val a.kids) g d c else qhv fu h f e b false (Tree.node a.val a.kids) g d c else bif(a.kids.length:Int)==0 then(qxg fu (Tree.node a.val a.kids)).bind fun i=>(qs0 fu i).bind fun j=>qhw fu (Tree.node a.val a.kids) j d c else qhw fu (Tree.node a.val a.kids) [] d c
def qhu(fu:Nat):Nat->wv|0=>fun _ _ _ _ _ _=>none|n+1=>qsy fu (qhu fu n)
def qsx(e:Int)(a:List (Bs×Bs))(c:Bs)(d:List wU)(b:Bs):Option (Bs):=qhu fu fu a (a.length:Int) 0 (Tree.node (a,c) d) b []
def quu(d:Int)(b:List (Bs×Bs))(c:Bs)(f:List wU)(g:Int)(e:Bs):Option (Bs):=(qsx fu d b c f e).bind fun a=>some a
abbrev qgc:=wU->Int->Int->Bs->Option (Int×Bs)
abbrev qqs:=Int->(List wU)->Int->Int->Int->Bs->Option (Int×Bs)
def qu8(a:qgc)(fu:Nat)(j:qqs):qqs:=fun g d c b h e=>bif decide (b<c) then(al d b).bind fun f=>(a (Tree.node f.val f.kids) (af (g+1)) h e).bind fun i=>j g d c (af (b+1)) i.1 i.2 else some (h,e)
def qjp(a:qgc)(fu:Nat):Nat->qqs|0=>fun _ _ _ _ _ _=>none|n+1=>qu8 a fu (qjp a fu n)
def qjn(a:qgc)(fu:Nat)(b:Tree (wV×Bs))(c:Int)(d:Int)(f:Bs):Option (Int×Bs):=(quu fu d b.val.1 b.val.2 b.kids c f).bind fun e=>qjp a fu fu c b.kids (b.kids.length:Int) 0 (af (d+1)) e
def qjo(fu:Nat):Nat->qgc|0=>fun _ _ _ _=>none|n+1=>qjn (qjo fu n) fu
def q7x(c:Tree (wV×Bs))(a:Int)(b:Int)(d:Bs):Option (Int×Bs):=qjo fu fu c a b d
abbrev q8j:=wU×Bs
def qva(a:Tree (wV×Bs))(b:Bs):Option q8j:=(q7x fu (Tree.node a.val a.kids) 0 0 b).bind fun c=>some ((Tree.node a.val a.kids),c.2)
abbrev q8b:=wU×Bs
def qut(a:Tree (wV×Bs))(c:Bs):Option q8b:=(qcm (Tree.node a.val a.kids)).bind fun b=>(qva fu (Tree.node b.val b.kids) c).bind fun d=>some ((Tree.node a.val a.kids),d.2)
def qht(d:wV×Bs):Option ((Int×Int)×Bs):=(quv fu d).bind fun a=>(cd a.2).bind fun f=>bif f then some (a.2,[]) else(qus (Tree.node a.1.val a.1.kids)).bind fun b=>(qut fu (Tree.node b.val b.kids) []).bind fun c=>(ce).bind fun e=>some (e,c.2)
def qsz(f:wV×Bs)(c:wV×Bs):Option (Bool×(Int×Int)):=(qht fu f).bind fun a=>(cd a.1).bind fun i=>bif i then some (false,a.1) else(qht fu c).bind fun b=>(cd b.1).bind fun e=>bif e then(au b.1.1 (-10)).bind fun g=>some (false,g) else(qhh a.2 b.2).bind fun h=>(ce).bind fun d=>some (h,d)
def qgv:Option Bool:=bif decide (0<List.length ([99,13,10]:Bs)) then(qul fu (([(([65]:Bs),([98]:Bs))]:List (Bs×Bs)),([99,13,10]:Bs))).bind fun a=>(quk fu a.2).bind fun b=>(qsz fu (([(([65]:Bs),([98]:Bs))]:List (Bs×Bs)),([99,13,10]:Bs)) b.1).bind fun c=>bif a.1.1==0 then bif b.2.1==0 then bif c.2.1==0 then bif c.1 then bif a.2==([65,58,32,98,13,10,13,10,99,13,10]:Bs) then some ((b.1.1.length:Int)==1) else some false else some false else some false else some false else some false else none
def qsd(a:UInt8):Option Bool:=bif decide (97<=a) then bif decide (a<=122) then some true else bif decide (65<=a) then bif decide (a<=90) then some true else bif decide (48<=a) then some (decide (a<=57)) else some false else bif decide (48<=a) then some (decide (a<=57)) else some false else bif decide (65<=a) then bif decide (a<=90) then some true else bif decide (48<=a) then some (decide (a<=57)) else some false else bif decide (48<=a) then some (decide (a<=57)) else some false
def qhc(a:UInt8):Option Bool:=(qsd a).bind fun b=>bif b then some true else bif a==45 then some true else bif a==95 then some true else some (a==46)
def qg2(fu:Nat)(d:e9):e9:=fun b c a=>bif decide (a<c) then(al b a).bind fun e=>(qhc e).bind fun f=>bif !f then some false else d b c (af (a+1)) else some true
def xg(fu:Nat):Nat->e9|0=>fun _ _ _=>none|n+1=>qg2 fu (xg fu n)
def qg1(a:Bs):Option Bool:=xg fu fu a (a.length:Int) 0
def qbv(a:Bs):Option Bool:=bif !(a==([]:Bs)) then bif decide ((a.length:Int)<=60) then(qg1 fu a).bind fun b=>some b else some false else some false
def jo(a:Int)(b:Int)(c:Int):Option Bool:=bif decide (b<=a) then some (decide (a<=c)) else some false
def yp(a:Bs×Int×Int×(Int×Int×Int×Int)×Int×Int×Int×Int):Option Bool:=some ((a.2.2.2.1.1==0)&&((a.2.2.2.1.2.1==0)&&((a.2.2.2.1.2.2.1==0)&&((a.2.2.2.1.2.2.2==0)&&true))))
def yv(a:Int×Int×Int×Int):Option Bool:=(jo a.1 1 12).bind fun b=>bif b then(jo a.2.1 1 5).bind fun e=>bif e then(jo a.2.2.1 0 6).bind fun d=>bif d then(jo a.2.2.2 0 1439).bind fun c=>some c else some false else some false else some false
def ql4(fu:Nat):(Int×Int)->Option ((Int×Int)):=fun a=>(ce).bind fun b=>some b
def qcz:Bool->(Int×Int)->Option ((Int×Int)):=fun a b=>bif a then(au 5 (-5)).bind fun c=>some c else ql4 fu b
def qc0(fu:Nat):Bool->(Bs×Int×Int×(Int×Int×Int×Int)×Int×Int×Int×Int)->(Int×Int)->Option ((Int×Int)):=fun b a i=>bif b then(au 3 (-5)).bind fun c=>some c else(yv a.2.2.2.1).bind fun j=>bif !j then(au 3 (-6)).bind fun h=>some h else(yv a.2.2.2.2).bind fun e=>bif !e then(au 3 (-7)).bind fun f=>some f else bif a.2.2.2.1.1==a.2.2.2.2.1 then(au 5 (-7)).bind fun g=>some g else(ce).bind fun d=>some d
def qcy(a:Bs×Int×Int×(Int×Int×Int×Int)×Int×Int×Int×Int):Option ((Int×Int)):=(qbv fu a.1).bind fun b=>bif !b then(au 10 (-3)).bind fun h=>some h else(jo a.2.1 (-900) 900).bind fun g=>bif !g then(au 3 (-4)).bind fun d=>some d else(yp a).bind fun e=>bif e then bif a.2.2.1 != 0 then qcz fu true (0,0) else qcz fu (!((a.2.2.2.2.1==0)&&((a.2.2.2.2.2.1==0)&&((a.2.2.2.2.2.2.1==0)&&((a.2.2.2.2.2.2.2==0)&&true))))) (0,0) else(jo a.2.2.1 (-900) 900).bind fun f=>bif !f then qc0 fu true a (0,0) else(jo a.2.2.1 (af (a.2.1+1)) (af (a.2.1+180))).bind fun c=>qc0 fu (!c) a (0,0)
def xj(a:Int):Option Bool:=bif decide ((-68719476736)<=a) then some (decide (a<=68719476736)) else some false
def jj(a:Int)(b:Int)(c:Int):Option Bool:=bif decide (b<=a) then some (decide (a<=c)) else some false
def xv(b:Int)(a:Int):Option (Int×Int):=bif decide (a≠0) then bif decide (a≠0) then bif decide (a≠0) then some (af (Int.tdiv (af (b-(Int.tmod (af ((Int.tmod b a)+a)) a))) a),Int.tmod (af ((Int.tmod b a)+a)) a) else none else none else none
def xp(a:Int):Option Int:=some (af ((af ((af ((af (365*(af (a-1))))+(af (Int.tdiv (af (a-1)) 4))))-(af (Int.tdiv (af (a-1)) 100))))+(af (Int.tdiv (af (a-1)) 400))))
def qb6(a:Int):Option Bool:=bif(Int.tmod a 4)==0 then bif(Int.tmod a 100) != 0 then some true else some ((Int.tmod a 400)==0) else some false
def xt(c:Int)(b:Int):Option Int:=(al ([31,28,31,30,31,30,31,31,30,31,30,31]:List Int) (af (b-1))).bind fun a=>bif b==2 then(qb6 c).bind fun d=>bif d then some (af (a+1)) else some a else some a
abbrev qqv:=Int->Int->Int->Int->Option Int
def qh3(fu:Nat)(e:qqv):qqv:=fun b c d a=>bif decide (a<c) then(xt b a).bind fun f=>e b c (af (d+f)) (af (a+1)) else some d
def xq(fu:Nat):Nat->qqv|0=>fun _ _ _ _=>none|n+1=>qh3 fu (xq fu n)
def lg(a:Int)(c:Int)(d:Int):Option Int:=(xp a).bind fun b=>(xp 1970).bind fun e=>xq fu fu a c (af ((af ((af (b-e))+d))-1)) 1
abbrev yx:=(Int×Int×Int×Int×Int×Int×Int)×(Int×Int)
abbrev oh:=Int->Int->Int->Int->Int->(Int×Int×Int×Int×Int×Int×Int)->(Int×Int)->Option yx
def qb3(fu:Nat)(d:oh):oh:=fun g c h f e a b=>d g c h f (af (Int.tdiv e 2)) a b
def qb2(f:oh):Int->Int->Int->Int->Int->Bool->(Int×Int×Int×Int×Int×Int×Int)->(Int×Int)->Option yx:=fun h e i g c d a b=>bif d then qb3 fu f h e i (af (g+c)) c a b else qb3 fu f h e i g c a b
def qh0(j:oh):oh:=fun g d c b a e f=>(lg fu b a 1).bind fun h=>bif decide (d<h) then j g d c b (af (a-1)) e f else(lg fu b a 1).bind fun i=>(ce).bind fun k=>some ((b,(a,(af ((af (d-i))+1),(af (Int.tdiv c 3600),(Int.tmod (af (Int.tdiv c 60)) 60,(Int.tmod c 60,g)))))),k)
def xl(fu:Nat):Nat->oh|0=>fun _ _ _ _ _ _ _=>none|n+1=>qh0 fu (xl fu n)
def qb0(h:oh):oh:=fun f e g d c a b=>bif decide (0<c) then bif decide ((af (d+c))<=4000) then(lg fu (af (d+c)) 1 1).bind fun i=>qb2 fu h f e g d c (decide (i<=e)) a b else qb2 fu h f e g d c false a b else xl fu fu f e g d 12 a b
def tg(fu:Nat):Nat->oh|0=>fun _ _ _ _ _ _ _=>none|n+1=>qb0 fu (tg fu n)
def qh1:Int->Int->Int->(Int×Int×Int×Int×Int×Int×Int)->(Int×Int)->Option yx:=fun d c e a b=>tg fu fu d c e 1 2048 a b
def qb1:Int->Int->Int->Bool->(Int×Int×Int×Int×Int×Int×Int)->(Int×Int)->Option yx:=fun f d g a b c=>bif a then(au 3 (-3)).bind fun e=>some ((0,(0,(0,(0,(0,(0,0)))))),e) else qh1 fu f d g b c
def tf(c:Int)(b:Int):Option yx:=(xj c).bind fun d=>bif !d then(au 3 (-2)).bind fun i=>some ((0,(0,(0,(0,(0,(0,0)))))),i) else(jj b (-900) 900).bind fun h=>bif !h then(au 3 (-4)).bind fun f=>some ((0,(0,(0,(0,(0,(0,0)))))),f) else(xv (af (c+(af (60*b)))) 86400).bind fun a=>(lg fu 1 1 1).bind fun g=>bif decide (a.1<g) then qb1 fu b a.1 a.2 true (0,(0,(0,(0,(0,(0,0)))))) (0,0) else(lg fu 4000 12 31).bind fun e=>qb1 fu b a.1 a.2 (decide (e<a.1)) (0,(0,(0,(0,(0,(0,0)))))) (0,0)
def qj(a:Int×Int×Int×Int×Int×Int×Int):Option ((Int×Int)):=(jj a.1 1 4000).bind fun o=>bif o then(jj a.2.1 1 12).bind fun r=>bif r then(xt a.1 (if 12<if 1>a.2.1 then 1 else a.2.1 then 12 else if 1>a.2.1 then 1 else a.2.1)).bind fun m=>(jj a.2.2.1 1 m).bind fun i=>bif i then(jj a.2.2.2.1 0 23).bind fun p=>bif p then(jj a.2.2.2.2.1 0 59).bind fun k=>bif k then(jj a.2.2.2.2.2.1 0 59).bind fun l=>bif l then(jj a.2.2.2.2.2.2 (-900) 900).bind fun q=>bif !q then(au 3 (-3)).bind fun j=>some j else(ce).bind fun c=>some c else(au 3 (-3)).bind fun g=>some g else(au 3 (-3)).bind fun h=>some h else(au 3 (-3)).bind fun d=>some d else(au 3 (-3)).bind fun b=>some b else(au 3 (-3)).bind fun e=>some e else(au 3 (-3)).bind fun f=>some f
def xn(a:Int×Int×Int×Int×Int×Int×Int):Option (Int×(Int×Int)):=(qj a).bind fun b=>(cd b).bind fun f=>bif f then some (0,b) else(lg fu a.1 a.2.1 a.2.2.1).bind fun e=>(xv (af (e+4)) 7).bind fun c=>(ce).bind fun d=>some (c.2,d)
def qi(a:Int×Int×Int×Int×Int×Int×Int):Option (Int×(Int×Int)):=(qj a).bind fun b=>(cd b).bind fun e=>bif e then some (0,b) else(lg fu a.1 a.2.1 a.2.2.1).bind fun d=>(ce).bind fun c=>some (af ((af ((af ((af (d*86400))+(af (a.2.2.2.1*3600))))+(af ((af (a.2.2.2.2.1-a.2.2.2.2.2.2))*60))))+a.2.2.2.2.2.1),c)
def qc2:Int->(Int×Int×Int×Int)->(Int×Int×Int×Int×Int×Int×Int)->Option Int:=fun d a b=>(qi fu b).bind fun c=>some (af (c.1+(af (60*(af (a.2.2.2-d))))))
def qc1:Int->Bool->(Int×Int×Int×Int)->(Int×Int×Int×Int×Int×Int×Int)->Option Int:=fun d c b a=>bif c then qc2 fu d b (a.1,(a.2.1,(af (a.2.2.1-7),a.2.2.2))) else qc2 fu d b a
def yq(a:Int×Int×Int×Int)(b:Int)(d:Int):Option Int:=(xn fu (b,(a.1,(1,(0,(0,(0,0))))))).bind fun c=>bif a.2.1==5 then(qj (b,(a.1,(af ((af (1+(Int.tmod (af ((af (a.2.2.1-c.1))+7)) 7)))+(af (7*(af (a.2.1-1))))),(0,(0,(0,0))))))).bind fun f=>(cd f).bind fun e=>qc1 fu d e a (b,(a.1,(af ((af (1+(Int.tmod (af ((af (a.2.2.1-c.1))+7)) 7)))+(af (7*(af (a.2.1-1))))),(0,(0,(0,0)))))) else qc1 fu d false a (b,(a.1,(af ((af (1+(Int.tmod (af ((af (a.2.2.1-c.1))+7)) 7)))+(af (7*(af (a.2.1-1))))),(0,(0,(0,0))))))
abbrev wz:=Int->Int->Int->Int->Bool->Int->(Bs×Int×Int×(Int×Int×Int×Int)×Int×Int×Int×Int)->Option Int
def qc3(d:wz):wz:=fun c f h i g b a=>(yq fu a.2.2.2.2 b a.2.2.1).bind fun e=>bif decide (e<=c) then bif !g then d c f e a.2.1 true (af (b+1)) a else bif decide (h<=e) then d c f e a.2.1 true (af (b+1)) a else d c f h i g (af (b+1)) a else d c f h i g (af (b+1)) a
def yu(e:wz):Int->Int->Int->Int->Bool->Int->Int->Bool->(Bs×Int×Int×(Int×Int×Int×Int)×Int×Int×Int×Int)->Option Int:=fun g f j i h b c d a=>bif d then qc3 fu e g f c a.2.2.1 true b a else qc3 fu e g f j i h b a
def yt(i:wz):wz:=fun g e h f d b a=>bif decide (b<=(af (e+1))) then(yq fu a.2.2.2.1 b a.2.1).bind fun c=>bif decide (c<=g) then bif !d then yu fu i g e h f d b c true a else yu fu i g e h f d b c (decide (h<c)) a else yu fu i g e h f d b c false a else some f
def jl(fu:Nat):Nat->wz|0=>fun _ _ _ _ _ _ _=>none|n+1=>yt fu (jl fu n)
def tu(a:Bs×Int×Int×(Int×Int×Int×Int)×Int×Int×Int×Int)(d:Int)(b:Int):Option Int:=(yp a).bind fun c=>bif c then some a.2.1 else jl fu fu d b 0 a.2.1 false (af (b-1)) a
def yn(d:Bs×Int×Int×(Int×Int×Int×Int)×Int×Int×Int×Int)(b:Int):Option (Int×(Int×Int)):=(qcy fu d).bind fun f=>(cd f).bind fun m=>bif m then some (0,f) else(xj b).bind fun l=>bif !l then(au 3 (-2)).bind fun i=>some (0,i) else(tf fu b d.2.1).bind fun e=>(cd e.2).bind fun k=>bif k then(au 3 (-8)).bind fun h=>some (0,h) else(jo e.1.1 2 3999).bind fun j=>bif !j then(au 3 (-8)).bind fun g=>some (0,g) else(tu fu d b e.1.1).bind fun c=>(ce).bind fun a=>some (c,a)
def iv(d:Int)(b:Int):Option (Bs):=(jk d).bind fun a=>(qn [48] (if af (b-(a.length:Int))>0 then af (b-(a.length:Int)) else 0)).bind fun c=>bif decide (c.length+a.length<=bg) then some (c++a) else none
abbrev q75:=(Bs×Bs×Bs×Bs×Bs×Bs×Bs)
def xw:Option q75:=some (([83,117,110]:Bs),(([77,111,110]:Bs),(([84,117,101]:Bs),(([87,101,100]:Bs),(([84,104,117]:Bs),(([70,114,105]:Bs),([83,97,116]:Bs)))))))
abbrev q74:=Bs×Bs×Bs×Bs×Bs×Bs×Bs×Bs×Bs×Bs×Bs×Bs
def xu:Option q74:=some (([74,97,110]:Bs),(([70,101,98]:Bs),(([77,97,114]:Bs),(([65,112,114]:Bs),(([77,97,121]:Bs),(([74,117,110]:Bs),(([74,117,108]:Bs),(([65,117,103]:Bs),(([83,101,112]:Bs),(([79,99,116]:Bs),(([78,111,118]:Bs),([68,101,99]:Bs))))))))))))
def xm(fu:Nat):Int->Bs->Int->(Int×Int×Int×Int×Int×Int×Int)->(Int×Int)->Option (Bs×(Int×Int)):=fun q m l a r=>(iv (af (Int.tdiv l 60)) 2).bind fun h=>(iv (Int.tmod l 60) 2).bind fun k=>bif decide (h.length+k.length<=bg) then bif decide (m.length+List.length (h++k)<=bg) then(iv a.2.2.2.1 2).bind fun d=>bif decide (d.length+List.length ([58]:Bs)<=bg) then(iv a.2.2.2.2.1 2).bind fun e=>bif decide (List.length (d++[58])+e.length<=bg) then bif decide (List.length ((d++[58])++e)+List.length ([58]:Bs)<=bg) then(iv a.2.2.2.2.2.1 2).bind fun p=>bif decide (List.length (((d++[58])++e)++[58])+p.length<=bg) then(xw).bind fun c=>(al ([c.1,c.2.1,c.2.2.1,c.2.2.2.1,c.2.2.2.2.1,c.2.2.2.2.2.1,c.2.2.2.2.2.2]:List Bs) q).bind fun o=>bif decide (o.length+List.length ([44]:Bs)<=bg) then(iv a.2.2.1 2).bind fun s=>(xu).bind fun b=>(al ([b.1,b.2.1,b.2.2.1,b.2.2.2.1,b.2.2.2.2.1,b.2.2.2.2.2.1,b.2.2.2.2.2.2.1,b.2.2.2.2.2.2.2.1,b.2.2.2.2.2.2.2.2.1,b.2.2.2.2.2.2.2.2.2.1,b.2.2.2.2.2.2.2.2.2.2.1,b.2.2.2.2.2.2.2.2.2.2.2]:List Bs) (af (a.2.1-1))).bind fun g=>(iv a.1 4).bind fun i=>(tr ([o++[44],s,g,i,(((d++[58])++e)++[58])++p,m++(h++k)]:List Bs) [32]).bind fun j=>(ce).bind fun f=>some (j,f) else none else none else none else none else none else none else none
def ti(a:Int×Int×Int×Int×Int×Int×Int):Option (Bs×(Int×Int)):=(xn fu a).bind fun b=>(cd b.2).bind fun c=>bif c then some (([]:Bs),b.2) else bif decide (a.2.2.2.2.2.2<0) then xm fu b.1 [45] (af (0-a.2.2.2.2.2.2)) a (0,0) else xm fu b.1 [43] a.2.2.2.2.2.2 a (0,0)
abbrev qqx:=(List Bs)->Bs->Int->Int->Option Int
def qv0(fu:Nat)(e:qqx):qqx:=fun b c d a=>bif decide (a<d) then(al b a).bind fun f=>bif c==f then some a else e b c d (af (a+1)) else some (-1)
def qj6(fu:Nat):Nat->qqx|0=>fun _ _ _ _=>none|n+1=>qv0 fu (qj6 fu n)
def yd(a:List Bs)(b:Bs):Option Int:=qj6 fu fu a b (a.length:Int) 0
def qco(c:List Bs)(a:Bs):Option Bool:=(yd fu c a).bind fun b=>some (decide (0<=b))
def qg7(fu:Nat)(d:e9):e9:=fun b c a=>bif decide (a<c) then(al b a).bind fun f=>bif decide (f<48) then some false else(al b a).bind fun e=>bif decide (57<e) then some false else d b c (af (a+1)) else some (!(b==([]:Bs)))
def xh(fu:Nat):Nat->e9|0=>fun _ _ _=>none|n+1=>qg7 fu (xh fu n)
def qg6(a:Bs):Option Bool:=xh fu fu a (a.length:Int) 0
def iu(a:Bs)(c:Int):Option (Int×Bool):=(qm a).bind fun b=>bif(a.length:Int)==c then(qg6 fu a).bind fun d=>some (b,d) else some (b,false)
abbrev qq2:=Int->Bs->Nat->Option Int
def qw8(fu:Nat)(d:qq2):qq2:=fun c b a=>bif Nat.blt a (b.length) then d (af (c+1)) b (a+(ej b a).2) else some c
def qlt(fu:Nat):Nat->qq2|0=>fun _ _ _=>none|n+1=>qw8 fu (qlt fu n)
def qls(a:Bs):Option Int:=qlt fu fu 0 a 0
def qwr(fu:Nat)(f:sy):sy:=fun d b e a=>bif decide (e<(af (b-1))) then(qcx d).bind fun c=>bif decide (0<=c.2/\c.2<=(d.length:Int)) then bif decide (0<=e/\e.toNat<a.length) then(a[e.toNat]?).bind fun h=>bif decide (0<=c.2/\c.2<=(d.length:Int)) then f (List.drop c.2.toNat d) b (af (e+1)) (List.set a e.toNat (List.take c.2.toNat d)) else none else none else none else bif decide (0<b) then bif decide (0<=af (b-1)/\(af (b-1)).toNat<a.length) then(a[(af (b-1)).toNat]?).bind fun g=>some (List.set a ((af (b-1)).toNat) d) else none else some a
def qk3(fu:Nat):Nat->sy|0=>fun _ _ _ _=>none|n+1=>qwr fu (qk3 fu n)
def qk2:Bs->Int->Option ((List Bs)):=fun b a=>bif decide (0<=a/\a=a/\a<=4294967296) then qk3 fu fu b a 0 (List.replicate a.toNat []) else none
def qk1:Bs->Int->Int->Bool->Option ((List Bs)):=fun b d c a=>bif a then qk2 fu b c else qk2 fu b d
def qwq(c:Bs)(a:Int):Option ((List Bs)):=(qls fu c).bind fun b=>bif decide (a<0) then qk1 fu c a b true else qk1 fu c a b (decide (b<a))
def yf(c:Bs)(a:Bs):Option Int:=(qcc c a).bind fun b=>some b
abbrev qq3:=Bs->Bs->Int->Option Int
def qv2(fu:Nat)(e:qq3):qq3:=fun c a d=>(yf c a).bind fun b=>bif b==(-1) then some d else bif decide (0<=af (b+(a.length:Int))/\af (b+(a.length:Int))<=(c.length:Int)) then e (List.drop (af (b+(a.length:Int))).toNat c) a (af (d+1)) else none
def qj7(fu:Nat):Nat->qq3|0=>fun _ _ _=>none|n+1=>qv2 fu (qj7 fu n)
def qcq(b:Bs)(a:Bs):Option Int:=bif(a.length:Int)==0 then(qls fu b).bind fun c=>some (af (c+1)) else bif(a.length:Int)==1 then(al a 0).bind fun d=>(qbw b d).bind fun e=>some e else qj7 fu fu b a 0
abbrev qq5:=Bs->Bs->Int->Int->Int->(List Bs)->Option ((List Bs))
def yj(fu:Nat)(h:qq5):qq5:=fun c e f g a b=>bif decide (a<g) then(yf c e).bind fun d=>bif decide (d<0) then bif decide (0<=a/\a.toNat<b.length) then(b[a.toNat]?).bind fun j=>bif decide (0<=af (a+1)/\af (a+1)<=(List.length (List.set b a.toNat c):Int)) then some (List.take (af (a+1)).toNat (List.set b a.toNat c)) else none else none else bif decide (0<=af (d+f)/\af (d+f)<=(c.length:Int)) then bif decide (0<=a/\a.toNat<b.length) then(b[a.toNat]?).bind fun i=>bif decide (0<=af (d+(e.length:Int))/\af (d+(e.length:Int))<=(c.length:Int)) then h (List.drop (af (d+(e.length:Int))).toNat c) e f g (af (a+1)) (List.set b a.toNat (List.take (af (d+f)).toNat c)) else none else none else none else bif decide (0<=a/\a.toNat<b.length) then(b[a.toNat]?).bind fun k=>bif decide (0<=af (a+1)/\af (a+1)<=(List.length (List.set b a.toNat c):Int)) then some (List.take (af (a+1)).toNat (List.set b a.toNat c)) else none else none
def mu(fu:Nat):Nat->qq5|0=>fun _ _ _ _ _ _=>none|n+1=>yj fu (mu fu n)
def qcw:Bs->Bs->Int->Int->Option ((List Bs)):=fun a d c b=>bif decide (0<=(if af ((a.length:Int)+1)<b then af ((a.length:Int)+1) else b)/\(if af ((a.length:Int)+1)<b then af ((a.length:Int)+1) else b)=(if af ((a.length:Int)+1)<b then af ((a.length:Int)+1) else b)/\(if af ((a.length:Int)+1)<b then af ((a.length:Int)+1) else b)<=4294967296) then mu fu fu a d c (af ((if af ((a.length:Int)+1)<b then af ((a.length:Int)+1) else b)-1)) 0 (List.replicate (if af ((a.length:Int)+1)<b then af ((a.length:Int)+1) else b).toNat []) else none
def qk4(b:Bs)(a:Bs)(d:Int)(c:Int):Option ((List Bs)):=bif c==0 then some [] else bif a==([]:Bs) then(qwq fu b c).bind fun e=>some e else bif decide (c<0) then(qcq fu b a).bind fun f=>qcw fu b a d (af (f+1)) else qcw fu b a d c
def yg(c:Bs)(a:Bs):Option ((List Bs)):=(qk4 fu c a 0 (-1)).bind fun b=>some b
def qh2:(List Bs)->Option (Int×Int×Int×Bool):=fun c=>(al c 0).bind fun e=>(iu fu e 2).bind fun b=>(al c 1).bind fun f=>(iu fu f 2).bind fun a=>bif(c.length:Int)==3 then(al c 2).bind fun g=>(iu fu g 2).bind fun d=>bif b.2 then bif a.2 then some (b.1,(a.1,d)) else some (b.1,(a.1,(d.1,false))) else some (b.1,(a.1,(d.1,false))) else bif b.2 then bif a.2 then some (b.1,(a.1,(0,true))) else some (b.1,(a.1,(0,false))) else some (b.1,(a.1,(0,false)))
def qb5:(List Bs)->Bool->Option (Int×Int×Int×Bool):=fun b a=>bif a then some (0,(0,(0,false))) else qh2 fu b
def qb4(b:Bs):Option (Int×Int×Int×Bool):=(yg fu b [58]).bind fun a=>bif decide ((a.length:Int)<2) then qb5 fu a true else qb5 fu a (decide (3<(a.length:Int)))
abbrev q50:=Bs->Option (Int×Bool)
abbrev q5z:=Bs->Bool->Option (Int×Bool)
def qb9:q50:=fun c=>bif decide (0<=(1:Int)/\(1:Int)<=(3)/\3<=(c.length:Int)) then(iu fu (List.take ((3:Int).toNat-(1:Int).toNat) (List.drop (1:Int).toNat c)) 2).bind fun b=>bif decide (0<=(3:Int)/\3<=(c.length:Int)) then(iu fu (List.drop (3:Int).toNat c) 2).bind fun a=>(al c 0).bind fun d=>bif d==45 then bif b.2 then bif a.2 then some (af (0-(af ((af (60*b.1))+a.1))),decide (a.1<60)) else some (af (0-(af ((af (60*b.1))+a.1))),false) else some (af (0-(af ((af (60*b.1))+a.1))),false) else bif b.2 then bif a.2 then some (af ((af (60*b.1))+a.1),decide (a.1<60)) else some (af ((af (60*b.1))+a.1),false) else some (af ((af (60*b.1))+a.1),false) else none else none
def xy:q5z:=fun b a=>bif a then some (0,false) else qb9 fu b
def qh4:q50:=fun a=>bif(a.length:Int) != 5 then xy fu a true else(al a 0).bind fun c=>bif c != 43 then(al a 0).bind fun b=>xy fu a (b != 45) else xy fu a false
def xx:q5z:=fun b a=>bif a then some (0,true) else qh4 fu b
def qb8(a:Bs):Option (Int×Bool):=bif a==([71,77,84]:Bs) then xx fu a true else bif a==([85,84]:Bs) then xx fu a true else xx fu a (a==([90]:Bs))
abbrev qxj:=(Int×Int×Int×Int×Int×Int×Int)×Bool
def tj:(List Bs)->(Int×Int×Int×Int×Int×Int×Int)->Option qxj:=fun c o=>bif(c.length:Int) != 5 then some ((0,(0,(0,(0,(0,(0,0)))))),false) else(al c 0).bind fun j=>(al c 0).bind fun e=>(iu fu j (if 2<if 1>(e.length:Int) then 1 else(e.length:Int) then 2 else if 1>(e.length:Int) then 1 else(e.length:Int))).bind fun h=>(xu).bind fun b=>(al c 1).bind fun m=>(yd fu ([b.1,b.2.1,b.2.2.1,b.2.2.2.1,b.2.2.2.2.1,b.2.2.2.2.2.1,b.2.2.2.2.2.2.1,b.2.2.2.2.2.2.2.1,b.2.2.2.2.2.2.2.2.1,b.2.2.2.2.2.2.2.2.2.1,b.2.2.2.2.2.2.2.2.2.2.1,b.2.2.2.2.2.2.2.2.2.2.2]:List Bs) m).bind fun g=>(al c 2).bind fun l=>(iu fu l 4).bind fun i=>(al c 3).bind fun k=>(qb4 fu k).bind fun a=>(al c 4).bind fun f=>(qb8 fu f).bind fun d=>bif decide (0<(af (1+g))) then some ((i.1,(af (1+g),(h.1,(a.1,(a.2.1,(a.2.2.1,d.1)))))),((h.2==true)&&((i.2==true)&&((a.2.2.2==true)&&((d.2==true)&&true))))) else some ((i.1,(af (1+g),(h.1,(a.1,(a.2.1,(a.2.2.1,d.1)))))),false)
def qb7(b:List Bs):Option qxj:=(xw).bind fun a=>bif decide (0<(b.length:Int)) then(al b 0).bind fun c=>(qcr c [44]).bind fun g=>bif g then(al b 0).bind fun d=>(yi d [44]).bind fun e=>(qco fu ([a.1,a.2.1,a.2.2.1,a.2.2.2.1,a.2.2.2.2.1,a.2.2.2.2.2.1,a.2.2.2.2.2.2]:List Bs) e).bind fun f=>bif !f then some ((0,(0,(0,(0,(0,(0,0)))))),false) else bif decide (0<=(1:Int)/\1<=(b.length:Int)) then tj fu (List.drop (1:Int).toNat b) (0,(0,(0,(0,(0,(0,0)))))) else none else tj fu b (0,(0,(0,(0,(0,(0,0)))))) else tj fu b (0,(0,(0,(0,(0,(0,0))))))
abbrev q73:=(Int×Int×Int×Int×Int×Int×Int)×(Int×Int)
def th(b:Bs):Option q73:=bif decide (4000<(b.length:Int)) then(au 1 (-1)).bind fun d=>some ((0,(0,(0,(0,(0,(0,0)))))),d) else(qk b).bind fun h=>(qb7 fu h).bind fun a=>bif !a.2 then(au 11 (-4)).bind fun f=>some ((0,(0,(0,(0,(0,(0,0)))))),f) else(qj a.1).bind fun c=>(cd c).bind fun g=>bif g then some ((0,(0,(0,(0,(0,(0,0)))))),c) else(ce).bind fun e=>some (a.1,e)
def qgu:Int->Int->(Int×Int×Int×Int×Int×Int×Int)->(Int×Int×Int×Int×Int×Int×Int)->Option Bool:=fun j i a b=>(ti fu a).bind fun c=>(ti fu b).bind fun h=>(th fu c.1).bind fun g=>(th fu h.1).bind fun d=>(qi fu g.1).bind fun e=>(qi fu d.1).bind fun f=>bif c.2.1==0 then bif h.2.1==0 then bif g.2.1==0 then bif d.2.1==0 then bif e.2.1==0 then bif f.2.1==0 then bif e.1==j then some (f.1==i) else some false else some false else some false else some false else some false else some false else some false
def qbs:Int->Int->Bool->(Int×Int×Int×Int×Int×Int×Int)->(Int×Int×Int×Int×Int×Int×Int)->Option Bool:=fun e d b a c=>bif b then some true else qgu fu e d a c
def qgt:Int->Int->Int->Int->Option Bool:=fun d c f e=>(tf fu d f).bind fun a=>(tf fu c e).bind fun b=>bif a.2.1 != 0 then qbs fu d c true a.1 b.1 else qbs fu d c (b.2.1 != 0) a.1 b.1
def qbr:Int->Int->Int->Int->Bool->(Int×Int)->Option Bool:=fun f e c d b a=>bif b then bif a.1==0 then some true else some (c==0) else qgt fu f e c d
def td(e:Bs×Int×Int×(Int×Int×Int×Int)×Int×Int×Int×Int)(b:Int)(c:Int):Option Bool:=(qgv fu).bind fun f=>bif !f then some false else(yn fu e b).bind fun a=>(yn fu e c).bind fun d=>bif a.2.1 != 0 then qbr fu b c a.1 d.1 true a.2 else qbr fu b c a.1 d.1 (d.2.1 != 0) a.2
end
end Go.Sym
