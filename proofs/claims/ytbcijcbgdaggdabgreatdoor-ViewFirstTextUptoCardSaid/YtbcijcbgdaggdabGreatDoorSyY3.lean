/- What the claim rests on, part 3: gathered texts. -/
import Derived.RangeFuncRecord
import Derived.Lib.ItoaNum
import Derived.Lib.Index
import Derived.Lib.AtoiAll
import Derived.Shelf.SlSortCmp.Insertion
import Derived.Lib.Replace
import Derived.Lib.Repeat
import Derived.Lib.MapLaws
import Derived.Lib.ValidLaws
import Derived.Lib.BytesEntry
import Derived.Laws.Externs
import Derived.WalkKit
import Derived.ProofKit
import Derived.OpenShut
import Derived.ShutString
import Derived.ChangeOld
import Derived.Carry
import Derived.Handed
import Derived.Deep.DeepHandedRow
import Derived.LaidMore
import Derived.Lay
import Derived.LaidHandle
import Derived.MakeChecks
import Derived.LaidLaws
import Derived.Test.YtbcijcbgdaggdabGreatDoorSyY2
set_option linter.defProp false
set_option linter.unusedSimpArgs false
set_option linter.unusedVariables false
namespace Go.Sym
open Go.RowKit
variable[LC]
def fv(i:Nat)(c:Code):Code:=match c with
 |.seq a b=>match i with|0=>a|_=>b
 |.cond _ a b=>match i with|0=>a|_=>b
 |.block _ a=>a|.loop a=>a|.scope a=>a|.rangeFunc _ _ a b=>match i with|0=>a|_=>b
 |c=>c
def sub(body:Code):List Nat->Code|[]=>body|i::p=>fv i (sub body p)
structure cv where
 kd:Nat
 path:List Nat
 it:Item
def se(body:Code)(kd:Nat)(p:List Nat):Item:=match kd with
 |0 => .code (sub body p)|1=>match sub body p with|.block id _ => .inBlock id|c => .code c
 |2=>match sub body p with|.loop x => .inLoop x|c => .code c
 |3=>match sub body p with|.scope x => .inScope x|c => .code c
 |_ => .beginRound
def cv.Ok(body:Code)(i:cv):Prop:=i.it=se body i.kd i.path
abbrev ui:=List (Nat×List Nat)
def ke(body:Code):ui->List cv|[]=>[]|(kd,p)::r=>⟨kd,p,se body kd p⟩::ke body r
def de:List cv->List Item|[]=>[]|i::r=>i.it::de r
def yu:ui->List cv->Bool|[],[]=>true|(kd,p)::r,i::k=>Nat.beq kd i.kd&&ml p i.path&&yu r k|_,_=>false
def q10{body:Code}:∀{key:ui}{k:List cv},yu key k=true->(∀i∈k,i.Ok body)->de (ke body key)=de k
 |[],[],_,_=>rfl|(kd,p)::r,⟨kd',p',it⟩::k,h,hk=>by
  simp only[yu,qA]at h;obtain⟨⟨h1,h2⟩,h3⟩:=h;have h1:=qN h1;have h2:=qh8 h2;subst h1 h2;have ho:it=se body kd p:=hk _ qH;simp only[ke,de];rw[q10 h3 (fun i hi=>hk i (qE _ hi)),ho]
 |[],_::_,h,_=>by cases h
 |_::_,[],h,_=>by cases h
def qr0{body:Code}:∀{key:ui},∀i∈ke body key,i.Ok body
 |[],i,h=>by cases h
 |(kd,p)::r,i,h=>by
  rcases List.mem_cons.1 h with rfl|h
  ·rfl
  ·exact qr0 i h
def zfh{body:Code}{kd:Nat}{p:List Nat}{c:Code}(h:Item.code c=se body kd p):sub body p=c:=by
 unfold se at h;split at h
 ·injection h with h;exact h.symm
 ·split at h
  ·cases h
  ·injection h with h;exact h.symm
 ·split at h
  ·cases h
  ·injection h with h;exact h.symm
 ·split at h
  ·cases h
  ·injection h with h;exact h.symm
 ·cases h
def zfi{body:Code}{kd:Nat}{p:List Nat}{c:Code}(h:Item.inLoop c=se body kd p):sub body p = .loop c:=by
 unfold se at h;split at h
 ·cases h
 ·split at h<;>cases h
 ·split at h
  ·rename_i e;injection h with h;subst h;exact e
  ·cases h
 ·split at h<;>cases h
 ·cases h
def mn(id:Nat):List cv->Option (List cv)
 |[]=>none|i::k=>match i.it with|.inBlock id'=>if id'==id then some k else mn id k|_=>mn id k
def qrm{id:Nat}:∀{k k':List cv},mn id k=some k'->exitTo id (de k)=some (de k')/\∀i∈k',i∈k
 |[],_,h=>by cases h
 |⟨kd,p,it⟩::k,k',h=>by
  simp only[mn]at h;split at h
  ·rename_i id';split at h
   ·rename_i he;simp only[qI]at h;subst h;exact⟨by simp only[de,exitTo];rw[qX he],fun i hi=>qE _ hi⟩
   ·rename_i he;obtain⟨h1,h2⟩:=qrm h;exact⟨by simp only[de,exitTo];rw[qW he];exact h1,fun i hi=>qE _ (h2 i hi)⟩
  ·rename_i hne;obtain⟨h1,h2⟩:=qrm h;refine⟨?_,fun i hi=>qE _ (h2 i hi)⟩
   (try simp only at hne)
   simp only[de];cases it<;>first
    |(exfalso;exact hne _ rfl)
    |(simp only[exitTo];exact h1)
def qqg(P:Program)(s:St):ResultVar->Option AV
 |.tmp t=>ae s.fr t|.cell t T=>match ae s.fr t with
  |some (.ptr b off)=>match ae s.hp b with|some (.cells cs _)=>ld P T cs off|_=>none
  |some (.oel k sz 0 0)=>match ae s.hp k,sw P T,dh P T with|some (.row τ l _),some true,some _=>bif τ.is1&&Nat.beq sz 1 then some (.arr τ l) else none|_,_,_=>none
  |_=>none
def qs8(P:Program)(s:St):ResultVar->Bool
 |.tmp _=>true|.cell t T=>match ae s.fr t with
  |some (.oel k _ 0 0)=>match ae s.hp k,dh P T with|some (.row _ l _),some n=>decide (l.length=n)|_,_=>true
  |_=>true
def qd4(P:Program)(s:St):List ResultVar->Bool|[]=>true|x::xs=>qs8 P s x&&qd4 P s xs
def xw(P:Program)(s:St):List ResultVar->Option (List AV)
 |[]=>some []|x::xs=>match qqg P s x with
  |some v=>match xw P s xs with|some vs=>some (v::vs)|none=>none
  |none=>none
def qqh(P:Program)(fn:Func)(s:St):Option AV:=
 match xw P s fn.results.toList with
 |some vs=>match vs with|[v]=>some v|vs=>some (.tup vs)
 |none=>none
def frzC(p:Pt)(b off:Nat)(s:St):St:=match ae s.hp b with|some (.cells cs _)=>frzL (qim p (.agg (cs.drop off))) s|_=>s
def coR(bs:List (Nat×ax)):List ResultVar->List Pt->St->St
 |[],_,s=>s|x::xs,ps,s=>match ps with
  |[]=>s|p::ps=>match x with
   |.tmp t=>coR bs xs ps (coF bs [(t,p)] s)|.cell t _=>match ae s.fr t with|some (.ptr b off)=>coR bs xs ps (frzC p b off (coB1 bs b [p] off s))|_=>coR bs xs ps s
def qji:Pt->List Pt|.tup ps=>ps|p=>[p]
def qif(v:AV)(ids:NM)(p:Pt)(hp:List (Nat×ax))(s:St):Option (p.den×ek hp):=
 match p.get v ids with
 |some (d,nm)=>match nw s.hp hp nm with|some (d',nm')=>bif cw nm'&&pt nm' hp then some (d,d') else none|none=>none
 |none=>none
def qro(P:Program)(fn:Func)(ids:NM)(rv:Option AV)(p:Pt)(hp:List (Nat×ax))(s:St):Option (p.den×ek hp):=
 match rv with
 |some v=>qif v ids p hp (coB hp ids hp s)|none=>match qqh P fn (coR hp fn.results.toList (qji p) (coB hp ids hp s)) with|some v=>qif v ids p hp (coR hp fn.results.toList (qji p) (coB hp ids hp s))|none=>none
def qrp(P:Program)(fn:Func)(ids:NM)(rv:Option AV)(p:Pt)(hp:List (Nat×ax))(s:St):Bool:=
 match rv with|some _=>true|none=>qd4 P (coR hp fn.results.toList (qji p) (coB hp ids hp s)) fn.results.toList
def RS.fin(P:Program)(fn:Func)(ids:NM)(rv:Option AV)(s:St):{α:Type}->RS α->Option α
 | _,.one p hp _ fro _=>bif qrp P fn ids rv p hp s then(match qro P fn ids rv p hp s with
  |some y=>some (fro y)| none=>none) else none
 |_,.two l r=>match l.fin P fn ids rv s with
  |some a=>some (.inl a)|none=>match r.fin P fn ids rv s with|some b=>some (.inr b)|none=>none
structure eg(R:Type) where
 key:ui
 ls:LS
 F:ls.den->Option R
def vj{R:Type}(ids:NM)(s:St)(k:List cv):List (eg R)->Option (eg R)
 |[]=>none| l::ls=>bif yu l.key k then(match vj ids s k ls with
   |none=>some l|some l'=>match l.ls.get ids (l.ls.co ids s) with
    |some _=>some l| none=>some l') else vj ids s k ls
structure Cx:Type 1 where
 P:Program
 tb:Tb
 fn:Func
 f:FuncId
 ids:NM
 rd:Option Nat
 tags:List (List Nat×Nat)
def St.noDf(s:St):Bool:=match s.df with|[]=>true|_=>false
def qcs:List Nat->St->Option St
 |[],s=>some { s with df:=[] }|n::ns,s=>match ae s.hp n with|some .dfr=>qcs ns { s with hp:=(n,.dead)::s.hp,df:=ns }|_=>none
def qb:Option cm->Bool|none=>true|some _=>false
def lh(cx:Cx){R:Type}(enc:RS R)(j:Option cm)(s:St):Option R:=
 match cx.rd with
 |none=>match qcs s.df s with|some s'=>enc.fin cx.P cx.fn cx.ids none s'|none=>none
 |some m=>bif s.noDf then
   (match ae s.hp m with
   |some (.loop _ _ f n fr ps tag D)=>enc.fin cx.P cx.fn cx.ids (some (.val (.bool (qb j)))) { s with hp:=(m,.loop (bif qb j then .ready else .done) j f n fr ps tag D)::s.hp }| _=>none)
  else none
def St.enterRF(s:St)(f:FuncId)(ps:List Tmp)(tag:Nat)(around:Option Nat):Option St:=
 bif aw s.nx s.hp then
  (match around with
  |none=>some { s with hp:=(s.nx,.loop .ready none f s.n s.fr ps tag (s.nx+1))::(s.nx+1,.dfr)::s.hp,df:=(s.nx+1)::s.df,nx:=s.nx+32 }|some m=>match ae s.hp m with
   |some (.loop _ _ _ _ _ _ _ D)=>some { s with hp:=(s.nx,.loop .ready none f s.n s.fr ps tag D)::s.hp,nx:=s.nx+32 }| _=>none)
 else none
def q5n(s:St)(ys:List AV)(d:D):Option St:=match d with
 |.mem names xs hp _ hp'=>
  bif cw names&&oc names&&aw s.nx s.hp then
   (match fo (ar names) s.hp names,a6 false [] (AV.rens (ar names) ys) xs with
   |some hpv,some _=>match gz hpv hp with|some _=>some { s with hp:=iq (ip names hp' s.nx) hp'++(ju names++s.hp),nx:=s.nx+32 }|none=>none
   | _,_=>none)
  else none
 |_=>none
def oo(p:List Nat):List (List Nat×Nat)->Option Nat|[]=>none|(q,t)::r=>bif ml q p then some t else oo p r
def q38:LoopState->Bool|.busy=>false|_=>true
def qjm(cx:Cx)(p:List Nat)(g:Operand)(ps:List Tmp)(s:St):Option (Rq×St×List AV):=
 match oo p cx.tags,s.ev g with
 |some tag,some (.fn (.func h) [] cap)=>match s.enterRF cx.f ps tag cx.rd with
  |some s1=>match uy (qcq s1 h (.yld s.nx::cap)) cx.tb.ents with|some q=>some (q,s1,.yld s.nx::cap)|none=>none
  |none=>none
 |_,_=>none
def q5p(cx:Cx)(p:List Nat)(g:Operand)(ps:List Tmp)(s:St):Option St:=
 match oo p cx.tags,s.ev g with
 |some tag,some (.fn (.func h) [] cap)=>match s.enterRF cx.f ps tag cx.rd with
  |some s1=>match qh6 (fun e=>ol h e.key) cx.tb.ents with|some e=>some (coB e.hp (qe s1 e.hp (sk e.args (.yld s.nx::cap))) e.hp (frzL (u6 e.args (.yld s.nx::cap)) s))|none=>none
  |none=>none
 |_,_=>none
def qjn{R:Type}(nl:Nat)(a:Rq×St×List AV)(K:Option cm->St->Option R):Option R:=
 a.1.K fun d=>match q5n a.2.1 a.2.2 d with
  |some s3=>match ae s3.hp nl with|some (.loop st pe _ _ _ _ _ _)=>bif q38 st then K pe { s3 with hp:=(nl,.dead)::s3.hp } else none|_=>none
  |none=>none
def rfR(cx:Cx){R:Type}(p:List Nat)(g:Operand)(ps:List Tmp)(s:St)(K:Option cm->St->Option R):Option R:=
 match qjm cx p g ps s with
 |some a=>qjn s.nx a K|none=>match q5p cx p g ps s with
  |some s'=>match qjm cx p g ps s' with|some a=>qjn s'.nx a K|none=>none
  |none=>none
def run(cx:Cx){R:Type}(enc:RS R)(labs:List (eg R)):Nat->Bool->List cv->St->Option R
 |0,_,_,_=>none|n+1,chk,k,s=>match(bif chk then vj cx.ids s k labs else none) with
  |some lab=>match lab.ls.get cx.ids (lab.ls.co cx.ids s) with|some d=>lab.F d|none=>none
  |none=>match k with
   |[]=>lh cx enc none s|⟨_,p,it⟩::k'=>match it with
    |.code c=>match c with
     |.skip=>run cx enc labs n true k' s|.label _=>run cx enc labs n true k' s|.seq x y=>run cx enc labs n true (⟨0,0::p,.code x⟩::⟨0,1::p,.code y⟩::k') s|.cond c x y=>match s.ev c with|some (.bool b)=>bif b then run cx enc labs n true (⟨0,0::p,.code x⟩::k') (s.know c true) else run cx enc labs n true (⟨0,1::p,.code y⟩::k') (s.know c false)|some (.val (.bool b))=>bif b then run cx enc labs n true (⟨0,0::p,.code x⟩::k') s else run cx enc labs n true (⟨0,1::p,.code y⟩::k') s|_=>none
     |.block id x=>run cx enc labs n true (⟨0,0::p,.code x⟩::⟨1,p,.inBlock id⟩::k') s|.loop x=>run cx enc labs n true (⟨0,0::p,.code x⟩::⟨2,p,.inLoop x⟩::k') s|.scope x=>run cx enc labs n true (⟨0,0::p,.code x⟩::⟨3,p,.inScope x⟩::k') s|.exit id=>match mn id k' with
      |some k''=>run cx enc labs n true k'' s|none=>match cx.rd with|some _=>lh cx enc (some (.exit id)) s|none=>none
     |.region _ ops d=>bif d then qrf cx.P cx.tb ops s (fun s'=>run cx enc labs n true k' s'.bump) else vg cx.P cx.tb ops ops.toList s (fun s'=>run cx enc labs n true k' s'.bump)
     |.ret=>lh cx enc (some .ret) s|.rangeFunc g ps _ _=>rfR cx p g ps.toList s fun j s'=>match j with
      |none=>run cx enc labs n true k' s'|some .ret=>lh cx enc (some .ret) s'|some (.exit id)=>match mn id k' with
       |some k''=>run cx enc labs n true k'' s'|none=>match cx.rd with|some _=>lh cx enc (some (.exit id)) s'|none=>none
     |_=>none
    |.inBlock _=>run cx enc labs n true k' s|.inScope _=>run cx enc labs n true k' s|.inLoop x=>run cx enc labs n true (⟨0,0::p,.code x⟩::⟨2,p,.inLoop x⟩::k') s|.beginRound=>match cx.rd with
     |some m=>match ae s.hp m with|some (.loop .ready pe f n' fr ps tag D)=>run cx enc labs n true k' { s with hp:=(m,.loop .busy pe f n' fr ps tag D)::s.hp }|_=>none
     |none=>none
    |_=>none
def ti(P:Program)(ro:Option Nat)(f:FuncId)(x:Machine)(cs:List Frame)(Q:Value->World->Prop):Prop:=
 match ro with|none=>∃v w' fr,Q v w'/\Steps P x (lone fr cs w')/\fr.fn=f/\fr.leaving P w' (.returned v)|some _=>∀c cs',cs=c::cs'->∃v w',Q v w'/\Steps P x (lone (c.finish v) cs' w')
def ti.head{P:Program}{ro:Option Nat}{f:FuncId}{x y:Machine}{cs:List Frame}{Q:Value->World->Prop}(h:Steps P x y)(k:ti P ro f y cs Q):ti P ro f x cs Q:=by
 cases ro with
 |none=>obtain⟨v,w',fr,h1,h2,h3⟩:=k;exact⟨v,w',fr,h1,h.trans h2,h3⟩
 |some l=>exact fun c cs' e=>by obtain⟨v,w',h1,h2⟩:=k c cs' e;exact⟨v,w',h1,h.trans h2⟩
section
variable{P:Program}{z4v:World}{z4q:Gh}{z4s:List (Nat×ag)}{G:Gh}{s:St}{a:Act}{w:World}
def zf(tmps:Array Value)(x:ResultVar):Sem Value:=match x with|.tmp t=>pure (tmps.getD t undef)|.cell a t=>do loadVar t (← asAddr (tmps.getD a undef))
def zic(fn:Func)(tmps:Array Value):results fn tmps=(do let vs ← fn.results.mapM (zf tmps);pure (if h:vs.size=1 then vs[0] else .tuple vs)):=rfl
def zbq(hr:ai z4v z4q z4s G s a w){x:ResultVar}{v:AV}(hq:qs8 P s x=true)(h:qqg P s x=some v):∃u,(zf a.tmps x).run P w = .ok u w/\ah v G u:=by
 cases x with
 |tmp t=>
  obtain⟨u,h1,h2⟩:=hr.frame t v h;exact⟨u,by simp[zf,Array.getD_eq_getD_getElem?,h1],h2⟩
 |cell t T=>
  simp only[qqg]at h;split at h
  ·rename_i b off hb;split at h
   ·rename_i cs T' hc;obtain⟨u,h1,B,hB,rfl⟩:=hr.frame _ _ hb;obtain⟨B',vs,k1,k2,k3,_⟩:=hr.fin.mem.holds _ _ hc;rw[k1]at hB;injection hB with hB;subst hB
    obtain⟨z,hz,hrz⟩:=zg (P:=P) (w:=w) h (o:=0) k3 (fun j u hu=>by rw[wO];exact cell_of_heap k2 hu)
    rw[wO]at hz;exact⟨z,by simp[zf,Array.getD_eq_getD_getElem?,h1,asAddr,hz],hrz⟩
   ·cases h
  ·rename_i k sz hb;split at h
   ·rename_i τ l E n hl hagg hn;simp only[qs8,hb,hl,hn,decide_eq_true_eq]at hq;cases hbb:τ.is1&&Nat.beq sz 1<;>rw[hbb]at h<;>simp only[qT,qF,reduceCtorEq,qI]at h
    subst h;simp only[qA]at hbb;have hsz:τ.sz=1:=y5 hbb.1;obtain⟨u,h1,B,n0,c0,ho,rfl⟩:=hr.frame _ _ hb;obtain⟨ad,c',q1,q2⟩:=hr.fin.mem.holds _ _ hl;rw[ho]at q1;simp only[qI,qP]at q1;obtain⟨rfl,rfl,rfl⟩:=q1;rcases q2 with⟨q2,_⟩|⟨g,vs,fz,k1,k2,k3,k4,k5,k6,k7,k8,k9⟩
    ·cases q2
    ·simp only[qI,Addr.mk.injEq,and_true]at k1;subst k1;have hfl:(l.flatMap τ.enc).length=n:=by rw[oe,hsz,hq,Nat.mul_one]
     have hload:ld P T (l.flatMap τ.enc) 0=some (.agg (l.flatMap τ.enc)):=by
      unfold ld;rw[hagg,hn];have:Nat.ble (0+n) (l.flatMap τ.enc).length=true:=by rw[hfl,wO];simp
      simp only[this,qT,List.drop_zero];rw[List.take_of_length_le (by rw[hfl];exact wF _)]
     obtain⟨u,hu,us,rfl,hru⟩:=zg (P:=P) (w:=w) hload (B:=B) (o:=0) k7 (fun j u hu=>by
      rw[List.getElem?_take]at hu;split at hu
      ·rw[wO];exact cell_of_heap k2 hu
      ·cases hu)
     simp only[Nat.add_zero]at hu;refine⟨.agg us,by simp[zf,Array.getD_eq_getD_getElem?,h1,asAddr,hu],?_⟩
     have:=qs4 (G:=G) hbb.1 hru;simpa using this
   ·cases h
  ·cases h
def q0e(hr:ai z4v z4q z4s G s a w):∀{xs:List ResultVar}{vs:List AV},qd4 P s xs=true->xw P s xs=some vs ->
  ∃us:List Value,(xs.mapM (zf a.tmps)).run P w = .ok us w/\aj vs G us
 |[],vs,_,h=>by simp only[xw,qI]at h;subst h;exact⟨[],by simp,trivial⟩|x::xs,vs,hq,h=>by
  simp only[qd4,qA]at hq;simp only[xw]at h;split at h
  ·rename_i v hv;split at h
   ·rename_i us hus;simp only[qI]at h;subst h;obtain⟨u,hu,hru⟩:=zbq hr hq.1 hv;obtain⟨us',hu',hru'⟩:=q0e hr hq.2 hus;refine⟨u::us',?_,hru,hru'⟩;rw[List.mapM_cons];simp only[Sem.run_bind,hu,Result.andThen_ok,hu',Sem.run_pure]
   ·cases h
  ·cases h
def zbr(hr:ai z4v z4q z4s G s a w){fn:Func}{v:AV}(hq:qd4 P s fn.results.toList=true)(h:qqh P fn s=some v):∃u,(results fn a.tmps).run P w = .ok u w/\ah v G u:=by
 unfold qqh at h;have key:∀vs,xw P s fn.results.toList=some vs->∃us:List Value,(results fn a.tmps).run P w = .ok (if h:us.toArray.size=1 then us.toArray[0] else .tuple us.toArray) w/\aj vs G us:=fun vs hv=>by
  obtain⟨us,h1,h2⟩:=q0e hr hq hv;refine⟨us,?_,h2⟩;rw[zic,Array.mapM_eq_mapM_toList];simp only[Sem.run_bind,Sem.run_map,h1,Result.andThen_ok,Sem.run_pure]
 split at h
 ·rename_i vs hv;obtain⟨us,h1,h2⟩:=key _ hv;split at h
  ·simp only[qI]at h;subst h
   match us,h2 with|[u],h2=>exact⟨u,by rw[h1];rfl,h2.1⟩|[],h2=>exact h2.elim|_::_::_,h2=>exact h2.2.elim
  ·rename_i hne;simp only[qI]at h;subst h;refine⟨.tuple us.toArray,?_,us.toArray,rfl,by simpa using h2⟩
   rw[h1,dif_neg];intro he;have hl:=h2.length;simp at he;rw[he]at hl
   match vs,hl,hne with|[x],_,hne=>exact hne x rfl
 ·cases h
def ai.frzC{p:Pt}{b off:Nat}{s:St}{G:Gh}(hr:ai z4v z4q z4s G s a w):∃G',ai z4v z4q z4s G' (frzC p b off s) a w:=by
 unfold Sym.frzC;split
 ·exact hr.frzL
 ·exact⟨G,hr⟩
def ai.coR{bs:List (Nat×ax)}:∀{xs:List ResultVar}{ps:List Pt}{s:St}{G:Gh},ai z4v z4q z4s G s a w->∃G',ai z4v z4q z4s G' (coR bs xs ps s) a w
 |[],_,s,G,hr=>⟨G,hr⟩|x::xs,ps,s,G,hr=>by
  unfold Sym.coR;split
  ·exact⟨G,hr⟩
  ·split
   ·obtain⟨G',hr'⟩:=hr.coF (bs:=bs) (l:=[(_,_)]);exact ai.coR hr'
   ·split
    ·obtain⟨G',hr'⟩:=hr.coB1 (bs:=bs);obtain⟨G2,hr2⟩:=hr'.frzC;exact ai.coR hr2
    ·exact ai.coR hr
def q2a(hr:ai z4v z4q z4s G s a w){ids:NM}(hid:∀n bx,ae z4s n=some bx->au ids n=some n){v:AV}{p:Pt}{hp:List (Nat×ax)}{y:p.den×ek hp}(h:qif v ids p hp s=some y) :
  ∃G',Fin z4v z4q z4s G' (bu hp y.2) w/\∀u,ah v G u->ah (p.put y.1) G' u:=by
 unfold qif at h;split at h
 ·rename_i d nm h1;split at h
  ·rename_i d' nm' h2;cases hq:cw nm'&&pt nm' hp<;>rw[hq]at h<;>simp only[qT,qF,reduceCtorEq]at h
   have h:=qJ h;subst h;simp only[qA]at hq;obtain⟨g1,g2⟩:=Pt.get_seen h1;obtain⟨b1,b2⟩:=up h2;obtain⟨b3,_⟩:=b2 nm' hq.1 (bz.refl _);exact⟨G.view nm',hr.fin.fit hq.1 (fun n bx hb=>b1 _ _ (g1 _ _ (hid n bx hb))) b3,fun u hu=>(g2 nm' hq.1 b1).rep hu⟩
  ·cases h
 ·cases h
def qca(P:Program)(fn:Func)(rv:Option AV)(a:Act)(w:World)(Q:Value->Prop):Prop:=
 match rv with|none=>∃u,(results fn a.tmps).run P w = .ok u w/\Q u|some x=>∀b,x = .val (.bool b)->Q (.bool b)
def zee(hr:ai z4v z4q z4s G s a w){ids:NM}(hid:∀n bx,ae z4s n=some bx->au ids n=some n){fn:Func}{rv:Option AV}{p:Pt}{hp:List (Nat×ax)}{y:p.den×ek hp}(hq:qrp P fn ids rv p hp s=true)(h:qro P fn ids rv p hp s=some y) :
  qca P fn rv a w fun u=>∃G',Fin z4v z4q z4s G' (bu hp y.2) w/\ah (p.put y.1) G' u:=by
 unfold qro at h;split at h
 ·rename_i x;obtain⟨G1,hr1⟩:=hr.coB (bs:=hp) (nm:=ids) (l:=hp);obtain⟨G',h1,h2⟩:=q2a hr1 hid h;exact fun b e=>⟨G',h1,h2 _ (by subst e;rfl)⟩
 ·split at h
  ·rename_i v hv;obtain⟨G1,hr1⟩:=hr.coB (bs:=hp) (nm:=ids) (l:=hp);obtain⟨G2,hr2⟩:=hr1.coR (bs:=hp) (xs:=fn.results.toList) (ps:=qji p);obtain⟨G',h1,h2⟩:=q2a hr2 hid h;obtain⟨u,hu,hru⟩:=zbr hr2 hq hv;exact⟨u,hu,G',h1,h2 _ hru⟩
  ·cases h
def qca.mono{fn:Func}{rv:Option AV}{Q Q':Value->Prop}(h:qca P fn rv a w Q)(k:∀v,Q v->Q' v):qca P fn rv a w Q':=by
 cases rv with
 |none=>obtain⟨u,h1,h2⟩:=h;exact⟨u,h1,k _ h2⟩
 |some x=>exact fun b e=>k _ (h b e)
def qig(hr:ai z4v z4q z4s G s a w){ids:NM}(hid:∀n bx,ae z4s n=some bx->au ids n=some n){fn:Func}{rv:Option AV}:∀{α:Type}{enc:RS α}{x:α},enc.fin P fn ids rv s=some x ->
  qca P fn rv a w fun u=>∃G',Fin z4v z4q z4s G' (enc.res x).2 w/\ah (enc.res x).1 G' u
 |_,.one p hp tq fro ok,x,h=>by
  simp only[RS.fin]at h;cases hq:qrp P fn ids rv p hp s<;>rw[hq]at h<;>simp only[qT,qF,reduceCtorEq]at h
  split at h
  ·rename_i y hy;have h:=qJ h;subst h;have:=zee (P:=P) hr hid hq hy;simp only[RS.res,ok];exact this
  ·cases h
 |_,.two l r,x,h=>by
  simp only[RS.fin]at h;split at h
  ·rename_i y hy;have h:=qJ h;subst h;have:=qig (enc:=l) hr hid hy;exact this
  ·split at h
   ·rename_i y hy;have h:=qJ h;subst h;have:=qig (enc:=r) hr hid hy;exact this
   ·cases h
def q1c:∀{ns:List Nat}{s s':St}{G:Gh}{a:Act}{w:World},s.df=ns->qcs ns s=some s'->ai z4v z4q z4s G s a w->∀(fr:Frame)(cs:List Frame),fr.mode = .returning->fr.defers=a.defers ->
  ∃w',ai z4v z4q z4s G s' { a with defers:=[] } w'/\Steps P (lone fr cs w) (lone { fr with defers:=[] } cs w')
 |[],s,s',G,a,w,hd,h,hr,fr,cs,hm,hfd=>by
  simp only[qcs,qI]at h;subst h;obtain⟨bs,h1,h2⟩:=hr.defers;rw[hd]at h2;have:bs=[]:=by cases bs with|nil=>rfl|cons _ _=>simp at h2
  subst this;refine⟨w,⟨⟨[],rfl,rfl⟩,hr.size,hr.frame,hr.fresh,hr.fin⟩,?_⟩;have e:({ fr with defers:=[] }:Frame)=fr:=by rw[← show fr.defers=[] by rw[hfd,h1];rfl]
  rw[e];exact .refl _ _
 |n::ns,s,s',G,a,w,hd,h,hr,fr,cs,hm,hfd=>by
  simp only[qcs]at h;split at h
  ·rename_i hl;obtain⟨bs,h1,h2⟩:=hr.defers;rw[hd]at h2
   cases bs with
   |nil=>simp at h2|cons b bs=>
    simp only[List.map_cons,List.cons.injEq]at h2;obtain⟨B,k1,k2,k3⟩:=hr.fin.mem.holds n _ hl;rw[k1]at h2;obtain⟨e,h2⟩:=h2;injection e with e;subst e
    have hr1:=hr.setBox (bx' := .dead) (o := .deferred none) hl (show G.at n .dfr=some b from k1) (fun c hc=>by cases hc) trivial k3
    have hr2:ai z4v z4q z4s G { s with hp:=(n,.dead)::s.hp,df:=ns } { a with defers:=bs.map (fun b=>{ target := .collected b,args:=#[] }) } (w.putObj b (.deferred none)):=
     ⟨⟨bs,rfl,h2⟩,hr1.size,hr1.frame,hr1.fresh,hr1.fin⟩
    have hs:=step_collected (P:=P) (cs:=cs) (fr:=fr) (by rw[hm];simp) (by rw[hfd,h1];rfl) rfl (run_takeDeferred k2)
    obtain⟨w',i1,i2⟩:=q1c (a:={ a with defers:=bs.map (fun b=>{ target := .collected b,args:=#[] }) }) rfl h hr2 { fr with defers:=[]++bs.map (fun b=>{ target := .collected b,args:=#[] }) } cs hm rfl
    exact⟨w',i1,(Steps.one hs).trans i2⟩
  ·cases h
end
structure Cx.Ok(cx:Cx)(body:Code):Prop where
 ents:∀e∈cx.tb.ents,e.Sound cx.P
 mixed:cx.P.follows .mixedOrders=true
 func:cx.P.funcs[cx.f]? = some cx.fn
 tags:∀p t,oo p cx.tags=some t->∀g ps x y,sub body p = .rangeFunc g ps x y->LC.lc t=some (x,y)
def np(cx:Cx)(z4q:Gh)(z4s:List (Nat×ag))(b:Frame):Prop:=match cx.rd with|none=>b.roundOf=none|some m=>∃B bx,z4q.box m=some B/\ae z4s m=some bx/\b.roundOf=some B
section
variable{z4v:World}{z4q:Gh}{z4s:List (Nat×ag)}{G:Gh}{s:St}{a:Act}{w:World}
def zil{P:Program}(fn:FuncId)(tmps:Array Value)(ps:Array Tmp)(asn bo:Code){l:Nat}{r:Loop}(h:w.heap[l]? = some (.loop r)) :
  (Instr.enterLoop fn tmps ps asn bo (some l)).run P w = .ok (w.heap.size,[]) (w.alloc (.loop { state := .ready,pending:=none,fn,tmps,params:=ps,assign:=asn,body:=bo,defers:=r.defers })):=by
 unfold Instr.enterLoop;simp only[Sem.run_bind,run_getLoop h,run_newObj_alloc,Result.andThen,Sem.run_pure]
def q3l(hr:ai z4v z4q z4s G s a w){k D DB:Nat}{f:FuncId}{ps:Array Tmp}{tag:Nat}{asn bo:Code}(htag:LC.lc tag=some (asn,bo))(hk:ae s.hp k=none)(hkx:s.nx<=k)(hD:G.box D=some DB)(hne:D≠k) :
  ai z4v z4q z4s (G.addBox k w.heap.size) { s with hp:=(k,.loop .ready none f s.n s.fr ps.toList tag D)::s.hp } a (w.alloc (.loop { state := .ready,pending:=none,fn:=f,tmps:=a.tmps,params:=ps,assign:=asn,body:=bo,defers:=DB })):=by
 have hle:G.le (G.addBox k w.heap.size):=Gh.addBox_le (hr.fresh k hkx hk).1;refine hr.newBox hk hkx (fun b hb => ?_) ⟨w.heap.size,a.tmps,DB,Gh.addBox_self,by rw[Gh.addBox_ne hne];exact hD,⟨asn,bo,htag,?_⟩,hr.size,fun i x hx => ?_,fun o => ?_⟩
 ·have hb:(G.addBox k w.heap.size).box k=some b:=hb;rw[Gh.addBox_self]at hb;injection hb with hb;exact hb.symm
 ·rw[mq];simp
 ·obtain⟨v,h1,h2⟩:=hr.frame i x hx;exact⟨v,h1,h2.le hle⟩
 ·cases hq:(G.addBox k w.heap.size).imm w.heap.size o with
  |none=>rfl|some v=>
   have:=World.block_lt_of_cell? _ _ (hr.fin.mem.agree _ _ _ hq);simp at this
def ai.nx(hr:ai z4v z4q z4s G s a w){k:Nat}(h:s.nx<=k):ai z4v z4q z4s G { s with nx:=k } a w:=⟨hr.defers,hr.size,hr.frame,fun m hm hl=>hr.fresh m (Nat.le_trans h hm) hl,hr.fin⟩
def zd7(hr:ai z4v z4q z4s G s a w){cx:Cx}{ps:Array Tmp}{tag:Nat}{asn bo:Code}(htag:LC.lc tag=some (asn,bo)){s1:St}(h:s.enterRF cx.f ps.toList tag cx.rd=some s1){b:Frame}(hb:b.fn=cx.f)(hrd:np cx z4q z4s b) :
  ∃G1 l mark w1,(Instr.enterLoop b.fn a.tmps ps asn bo b.roundOf).run cx.P w = .ok (l,mark) w1/\G1.box s.nx=some l/\G.le G1/\ai z4v z4q z4s G1 s1 { a with defers:=mark++a.defers } w1/\s1.nx=s.nx+32:=by
 unfold St.enterRF at h;cases hn:aw s.nx s.hp<;>rw[hn]at h<;>simp only[qT,qF,reduceCtorEq]at h
 have hk0:=jb hn s.nx (wF _) (by omega)
 have hk1:=jb hn (s.nx+1) (by omega) (by omega)
 unfold np at hrd;split at h
 ·rename_i hc;rw[hc]at hrd;simp only at hrd;simp only[qI]at h;subst h;have hr1:=hr.newBox (k:=s.nx+1) (bx := .dfr) (o := .deferred (some [])) hk1 (by omega) (fun b hb=>by
   have hb:(G.addBox (s.nx+1) w.heap.size).box (s.nx+1)=some b:=hb;rw[Gh.addBox_self]at hb;injection hb with hb;exact hb.symm)
   ⟨w.heap.size,Gh.addBox_self,mq _ _,fun o=>by
    cases hq:(G.addBox (s.nx+1) w.heap.size).imm w.heap.size o with
    |none=>rfl|some v=>
     have:=World.block_lt_of_cell? _ _ (hr.fin.mem.agree _ _ _ hq);simp at this⟩
  have hk0':ae ((s.nx+1,ag.dfr)::s.hp) s.nx=none:=by
   simp only[ae];have:Nat.beq (s.nx+1) s.nx=false:=by
    cases hq:Nat.beq (s.nx+1) s.nx
    ·rfl
    ·have:=qN hq;omega
   rw[this];exact hk0
  have hr2:=q3l hr1 (k:=s.nx) (D:=s.nx+1) (f:=cx.f) (ps:=ps) htag hk0' (wF _) Gh.addBox_self (by omega)
  have hle1:G.le (G.addBox (s.nx+1) w.heap.size):=Gh.addBox_le (hr.fresh (s.nx+1) (by omega) hk1).1
  have hle2:(G.addBox (s.nx+1) w.heap.size).le ((G.addBox (s.nx+1) w.heap.size).addBox s.nx (w.alloc (.deferred (some []))).heap.size):=Gh.addBox_le (hr1.fresh s.nx (wF _) hk0').1;refine⟨_,w.heap.size+1,[{ target := .collected w.heap.size,args:=#[] }],_,by rw[hrd,hb];exact run_enterLoop_outer _ _ _ _ _,?_,hle1.trans hle2,?_,rfl⟩
  ·rw[Gh.addBox_self,World.size_alloc]
  ·have hr3:=hr2.nx (k:=s.nx+32) (by show s.nx<=_;omega)
   refine⟨?_,hr3.size,hr3.frame,hr3.fresh,hr3.fin⟩;obtain⟨bs,h1,h2⟩:=hr3.defers;refine⟨w.heap.size::bs,by rw[h1];rfl,?_⟩
   simp only[List.map_cons,List.cons.injEq];refine⟨?_,h2⟩;rw[Gh.addBox_ne (by omega),Gh.addBox_self]
 ·rename_i m hc;rw[hc]at hrd;simp only at hrd;obtain⟨B,bx0,e1,e2,e3⟩:=hrd;split at h
  ·rename_i D hm;simp only[qI]at h;subst h;obtain⟨B',tmps,DB,k1,k2,⟨asn',bo',_,k3⟩,_⟩:=hr.fin.mem.holds _ _ hm;have:=hr.fin.keep m bx0 B e2 e1;rw[this]at k1;injection k1 with k1;subst k1
   have hne:D≠s.nx:=fun e=>by subst e;rw[(hr.fresh _ (wF _) hk0).1]at k2;cases k2
   have hr2:=q3l hr (k:=s.nx) (D:=D) (f:=cx.f) (ps:=ps) htag hk0 (wF _) k2 hne;have hle2:G.le (G.addBox s.nx w.heap.size):=Gh.addBox_le (hr.fresh s.nx (wF _) hk0).1;refine⟨_,w.heap.size,[],_,by rw[e3,hb];exact zil _ _ _ _ _ k3,Gh.addBox_self,hle2,?_,rfl⟩
   exact hr2.nx (k:=s.nx+32) (by show s.nx<=_;omega)
  ·cases h
end
def qr1:Option cm->List Item|none=>[]|some j=>[.code j.code]
section
variable{z4v:World}{z4q:Gh}{z4s:List (Nat×ag)}{G:Gh}{s:St}{a:Act}{w:World}{cx:Cx}{body:Code}{R:Type}
def q5o(ok:cx.Ok body)(hr:ai z4v z4q z4s G s a w){p:List Nat}{g:Operand}{ps:Array Tmp}{asn bo:Code}(hsub:sub body p = .rangeFunc g ps asn bo){q:Rq×St×List AV}(hq:qjm cx p g ps.toList s=some q)
  {K:Option cm->St->Option R} {x:R} (h:qjn s.nx q K=some x) {b:Frame} (cs:List Frame) (hb:b.fn=cx.f) (_hkind:b.kind = .normal) (hrd:np cx z4q z4s b) (k:List Item) :
  ∃j s' G' a' w',K j s'=some x/\ai z4v z4q z4s G' s' a' w'/\Steps cx.P (lone (b.atR a (.code (.rangeFunc g ps asn bo)::k)) cs w) (lone (b.atR a' (qr1 j++k)) cs w'):=by
 unfold qjm at hq;split at hq
 ·rename_i tag h0 cap ht hg;split at hq
  ·rename_i s1 hs1;split at hq
   ·rename_i q1 hq1;have hq:=qJ hq;subst hq;obtain⟨G1,l,mark,w1,he,hl,hle,hr1,hnx⟩:=zd7 hr (ok.tags p tag ht g ps asn bo hsub) hs1 hb hrd;unfold qjn at h;obtain⟨d,hd,h⟩:=Rq.K_some h;simp only at h hd;obtain⟨e,hemem,hc⟩:=uz hq1;unfold qcq at hc;cases hkk:ol h0 e.key<;>rw[hkk]at hc<;>simp only[qT,qF,reduceCtorEq]at hc
    obtain⟨N,x1,x1',y,k1,k2,k3,k4,k5,k6⟩:=qi3 hc hd;subst k2;have hs:=ok.ents e hemem x1 x1' y k1;rw[qr3 hkk]at hs;obtain⟨hpl,hct⟩:=hs;unfold q5n at h;simp only at h;cases hbb:cw N&&oc N&&aw s1.nx s1.hp<;>rw[hbb]at h<;>simp only[qT,qF,reduceCtorEq]at h
    simp only[qA]at hbb;obtain⟨⟨hb1,_⟩,hb2⟩:=hbb
    cases hv:fo (ar N) s1.hp N with
    |none=>rw[hv]at h;simp only[reduceCtorEq]at h|some hpv=>
    cases hvs:a6 false [] (AV.rens (ar N) (.yld s.nx::cap)) (Pts.put e.args x1) with
    |none=>rw[hv,hvs]at h;simp only[reduceCtorEq]at h|some ps1=>
    rw[hv,hvs]at h;simp only at h
    cases hvw:gz hpv (bu e.hp x1') with
    |none=>rw[hvw]at h;simp only[reduceCtorEq]at h|some ps2=>
    rw[hvw]at h;simp only at h;have p1:=k5 _ hvs;have p2:=k6 _ _ hv hvw;obtain⟨fs,cps,hge,hfs,hcs⟩:=a8 hr hg;have hfs0:fs=#[]:=Array.eq_empty_of_size_eq_zero (by simpa using hfs.length.symm)
    subst hfs0;have hge':({ a with defers:=mark++a.defers }:Act).eval g = .func (.func h0) #[] cps:=hge
    have hres:(resolve a.eval (rangeCall g l) 0).run cx.P w1 = .ok { target := .fn (.func h0) cps,args:=#[.func (.yield l) #[] #[]] } w1:=by
     have hy:a.eval (.const (.func (.yield l) #[] #[])) = .func (.yield l) #[] #[]:=rfl;simp[resolve,hge,Deferred.ofValue,hy]
    have hinv:(invoke (.fn (.func h0) cps) #[.func (.yield l) #[] #[]]).run cx.P w1 = .ok (.enter h0 (#[.func (.yield l) #[] #[]]++cps)) w1:=by
     simp[invoke,hpl _ w1]
    have henter:=stepR_rangeFunc (P:=cx.P) (b:=b) (a:=a) (k:=k) (cs:=cs) he hres hinv;have hreps:aj (.yld s.nx::cap) G1 (.func (.yield l) #[] #[]::cps.toList):=⟨⟨l,hl,rfl⟩,hcs.le hle⟩;have hm:b9 (G1.view N) (bu e.hp x1') w1:=(hr1.fin.mem.view hv (yq hb1)).vw hvw p2;have hreps2:=ij (Gh.le.refl _) (fun e=>by cases e) hvs p1 (aj.ren (G:=G1) (G':=G1.view N) (fun _ _ _ h=>h) (o5 N) (qk N) hreps)
    have hcalls:=hct w1 (G1.view N) _ hm hreps2;have e1:(Value.func (.yield l) #[] #[]::cps.toList).toArray=#[.func (.yield l) #[] #[]]++cps:=by simp
    rw[e1]at hcalls;obtain⟨en,w2,fr,hpost,hcomes,hfrfn,hleave⟩:=hcalls (b.atR { a with defers:=mark++a.defers } (.inRangeFunc l::k)::cs)
    obtain⟨G2,v,rfl,_,hle2,hr2⟩:=q3w hr1 hb1 hb2 (wF _) hv hvw p2 hpost;have hsteps:Steps cx.P (lone (b.atR a (.code (.rangeFunc g ps asn bo)::k)) cs w) (lone (b.atR { a with defers:=mark++a.defers } (.endRangeFunc l::k)) cs w2):=by
     refine(Steps.one henter).trans (Steps.trans hcomes (.one ?_));rw[← finish_atR_inRangeFunc l v];exact step_leave_returned hleave
    split at h
    ·rename_i st pe f' n' fr' ps' tag' D' hlk;cases hnb:q38 st<;>rw[hnb]at h<;>simp only[qT,qF,reduceCtorEq]at h
     obtain⟨B,tmps,DB,i1,i2,⟨asn',bo',_,i3⟩,i4,i5,i6⟩:=hr2.fin.mem.holds _ _ hlk;have:=hle2.box _ _ hl;rw[this]at i1;injection i1 with i1;subst i1
     have hend:=run_endLoop (P:=cx.P) i3 (by intro e;simp only at e;subst e;cases hnb)
     have hst:=stepR_endRangeFunc (b:=b) (a:={ a with defers:=mark++a.defers }) (k:=k) (cs:=cs) hend
     have e2:(Option.map Item.code (Option.map cm.code pe)).toList=qr1 pe:=by cases pe<;>rfl
     rw[e2]at hst;exact⟨pe,_,G2,{ a with defers:=mark++a.defers },_,h,(hr2.nx (k:=s1.nx+32) (Nat.le_add_right _ _)).setBox (bx' := .dead) hlk (show G2.at s.nx (.loop st pe f' n' fr' ps' tag' D')=some l from this) (fun c hc=>by cases hc) trivial i6,hsteps.trans (.one hst)⟩
    ·cases h
   ·cases hq
  ·cases hq
 ·cases hq
def zid(ok:cx.Ok body)(hr:ai z4v z4q z4s G s a w){p:List Nat}{g:Operand}{ps:Array Tmp}{asn bo:Code}(hsub:sub body p = .rangeFunc g ps asn bo)
  {K:Option cm->St->Option R} {x:R} (h:rfR cx p g ps.toList s K=some x) {b:Frame} (cs:List Frame) (hb:b.fn=cx.f) (hkind:b.kind = .normal) (hrd:np cx z4q z4s b) (k:List Item) :
  ∃j s' G' a' w',K j s'=some x/\ai z4v z4q z4s G' s' a' w'/\Steps cx.P (lone (b.atR a (.code (.rangeFunc g ps asn bo)::k)) cs w) (lone (b.atR a' (qr1 j++k)) cs w'):=by
 unfold rfR at h;split at h
 ·rename_i q hq;exact q5o ok hr hsub hq h cs hb hkind hrd k
 ·split at h
  ·rename_i s' hs';have:∃G',ai z4v z4q z4s G' s' a w:=by
    unfold q5p at hs';split at hs'
    ·split at hs'
     ·split at hs'
      ·have hs':=qJ hs';subst hs';obtain⟨G1,hr1⟩:=hr.frzL;exact hr1.coB
      ·cases hs'
     ·cases hs'
    ·cases hs'
   obtain⟨G',hr'⟩:=this;split at h
   ·rename_i q hq;exact q5o ok hr' hsub hq h cs hb hkind hrd k
   ·cases h
  ·cases h
def gw(cx:Cx)(z4s:List (Nat×ag)){R:Type}(enc:RS R)(k:List Item)(s:St)(r:R):Prop:=
 ∀(z4v:World)(z4q G:Gh)(a:Act)(w:World),ai z4v z4q z4s G s a w->∀(b:Frame)(cs:List Frame),b.fn=cx.f->b.kind = .normal->np cx z4q z4s b ->
  ti cx.P b.roundOf cx.f (lone (b.atR a k) cs w) cs fun v w'=>∃G',Fin z4v z4q z4s G' (enc.res r).2 w'/\ah (enc.res r).1 G' v
def qk0(cx:Cx)(j:Option cm)(k:List Item):Prop:=match j with|none=>k=[]|some .ret=>∃k',k = .code .ret::k'|some (.exit id)=>cx.rd≠none/\∃k',k = .code (.exit id)::k'/\exitTo id k'=none
def qh5(ok:cx.Ok body)(hid:∀n bx,ae z4s n=some bx->au cx.ids n=some n){enc:RS R}{j:Option cm}{r:R}{k:List Item}(hk:qk0 cx j k)(h:lh cx enc j s=some r):gw cx z4s enc k s r:=by
 intro z4v z4q G a w hr b cs hb hkind hrd;unfold lh at h;unfold np at hrd;split at h
 ·rename_i hrdn;rw[hrdn]at hrd;simp only at hrd;split at h
  ·rename_i s' hs';have h1:Steps cx.P (lone (b.atR a k) cs w) (lone { b.atR a k with mode := .returning } cs w):=by
    cases j with
    |none=>simp only[qk0]at hk;subst hk;exact .one (stepR_end hrd)|some j=>cases j with
     |ret=>obtain⟨k',rfl⟩:=hk;exact .one (stepR_ret hrd)
     |exit id=>exact absurd hrdn hk.1
   obtain⟨w',i1,i2⟩:=q1c (P:=cx.P) rfl hs' hr { b.atR a k with mode := .returning } cs rfl rfl
   obtain⟨u,u1,u2⟩:=qig (P:=cx.P) i1 hid h;rw[hrd];exact⟨u,w',_,u2,h1.trans i2,hb,rfl,rfl,hkind,cx.fn,by rw[← ok.func,← hb];rfl,u1⟩
  ·cases h
 ·rename_i m hrdm;rw[hrdm]at hrd;simp only at hrd;obtain⟨B,bx0,e1,e2,e3⟩:=hrd;cases hd:s.noDf<;>rw[hd]at h<;>simp only[qT,qF,reduceCtorEq]at h
  split at h
  ·rename_i st pe f n fr ps tag D hl;obtain⟨B',tmps,DB,i1,i2,⟨asn,bo,i3,i4⟩,i5,i6,i7⟩:=hr.fin.mem.holds _ _ hl;have:=hr.fin.keep m bx0 B e2 e1;rw[this]at i1;injection i1 with i1;subst i1
   have hend:=run_endRound (P:=cx.P) (j.map cm.code) i4;have hiso:(j.map cm.code).isNone=qb j:=by cases j<;>rfl
   rw[hiso]at hend;have hst:(if qb j=true then LoopState.ready else LoopState.done)=(bif qb j then LoopState.ready else LoopState.done):=by cases qb j<;>rfl
   rw[hst]at hend;have hr2:=hr.setBox (bx' := .loop (bif qb j then .ready else .done) j f n fr ps tag D) (o := .loop { state:=bif qb j then .ready else .done,pending:=j.map cm.code,fn:=f,tmps:=tmps,params:=ps.toArray,assign:=asn,body:=bo,defers:=DB }) hl (show G.box m=some B from this)
    (fun c hc=>by have hc:G.box m=some c:=hc;rw[this]at hc;injection hc with hc;exact hc.symm)
    ⟨B,tmps,DB,this,i2,⟨asn,bo,i3,by rw[World.putObj_heap_same (Array.getElem?_eq_some_iff.1 i4).1]⟩,i5,i6,i7⟩ i7
   have hfin:=qig (P:=cx.P) hr2 hid h;rw[e3];intro c cs' hcs;subst hcs;refine⟨.bool (qb j),_,hfin _ rfl,.one ?_⟩
   cases j with
   |none=>simp only[qk0]at hk;subst hk;exact stepR_round_end e3 hkind hend|some j=>cases j with
    |ret=>obtain⟨k',rfl⟩:=hk;exact stepR_round_ret e3 hkind hend
    |exit id=>obtain⟨_,k',rfl,hx⟩:=hk;exact stepR_round_exit e3 hkind hx hend
  ·cases h
end
section
variable{z4s:List (Nat×ag)}{s:St}{cx:Cx}{body:Code}{R:Type}{enc:RS R}
def gw.via{k k':List Item}{s':St}{r:R}(h:gw cx z4s enc k' s' r)(hs:∀z4v z4q G a w,ai z4v z4q z4s G s a w->∀(b:Frame)(cs:List Frame),b.fn=cx.f->b.kind = .normal->np cx z4q z4s b ->
  ∃G' a' w',ai z4v z4q z4s G' s' a' w'/\Steps cx.P (lone (b.atR a k) cs w) (lone (b.atR a' k') cs w')):gw cx z4s enc k s r:=by
 intro z4v z4q G a w hr b cs hb hk hrd;obtain⟨G',a',w',h1,h2⟩:=hs z4v z4q G a w hr b cs hb hk hrd;exact(h z4v z4q G' a' w' h1 b cs hb hk hrd).head h2
def gw.one{k k':List Item}{r:R}(h:gw cx z4s enc k' s r)(hs:∀(a:Act)(w:World)(b:Frame)(cs:List Frame),step cx.P (lone (b.atR a k) cs w) = .next (lone (b.atR a k') cs w)):gw cx z4s enc k s r:=
 h.via fun _ _ G a w hr b cs _ _ _=>⟨G,a,w,hr,.one (hs a w b cs)⟩
def nk(cx:Cx)(z4s:List (Nat×ag)){R:Type}(enc:RS R)(body:Code)(l:eg R):Prop:=∀d r,l.F d=some r->gw cx z4s enc (de (ke body l.key)) (l.ls.st d) r
def qsv{ids:NM}{s:St}{k:List cv}:∀{ls:List (eg R)}{l:eg R},vj ids s k ls=some l->l∈ls/\yu l.key k=true
 |[],_,h=>by cases h
 |x::xs,l,h=>by
  simp only[vj]at h;cases hb:yu x.key k<;>rw[hb]at h<;>simp only[qT,qF]at h
  ·obtain⟨h1,h2⟩:=qsv h;exact⟨qE _ h1,h2⟩
  ·split at h
   ·simp only[qI]at h;subst h;exact⟨qH,hb⟩
   ·rename_i l' hl;split at h
    ·simp only[qI]at h;subst h;exact⟨qH,hb⟩
    ·simp only[qI]at h;subst h;obtain⟨h1,h2⟩:=qsv hl;exact⟨qE _ h1,h2⟩
def q4g{i:cv}{k:List cv}(h:∀x∈i::k,x.Ok body):i.Ok body/\∀x∈k,x.Ok body:=⟨h _ qH,fun x hx=>h x (qE _ hx)⟩
def iv{i:cv}{k:List cv}(h:i.Ok body)(k':∀x∈k,x.Ok body):∀x∈i::k,x.Ok body:=fun x hx=>by
 rcases List.mem_cons.1 hx with rfl|hx
 ·exact h
 ·exact k' x hx
def zdb{kd:Nat}{p:List Nat}{c:Code}(h:(cv.mk kd p (.code c)).Ok body):sub body p=c:=zfh h
def ny{p:List Nat}{c:Code}(i:Nat){x:Code}(h:sub body p=c)(hc:fv i c=x):(cv.mk 0 (i::p) (.code x)).Ok body:=by
 show Item.code x = .code (fv i (sub body p));rw[h,hc]
def zcm{p:List Nat}{id:Nat}{x:Code}(h:sub body p = .block id x):(cv.mk 1 p (.inBlock id)).Ok body:=by
 show Item.inBlock id=(match sub body p with | .block id _ => .inBlock id|c => .code c)
 rw[h]
def q3k{p:List Nat}{x:Code}(h:sub body p = .loop x):(cv.mk 2 p (.inLoop x)).Ok body:=by
 show Item.inLoop x=(match sub body p with | .loop x => .inLoop x|c => .code c)
 rw[h]
def zja{P:Program}{b:Frame}{a:Act}{k:List Item}{cs:List Frame}{w:World}{x:Code}:step P (lone (b.atR a (.inScope x::k)) cs w) = .next (lone (b.atR a k) cs w):=
 step_lone_go (by simp[stepG,stepG.exec,Frame.atR])
def zjb{P:Program}{b:Frame}{a:Act}{k:List Item}{cs:List Frame}{w:World}{c:Code} :
  step P (lone (b.atR a (.code (.scope c)::k)) cs w) = .next (lone (b.atR a (.code c :: .inScope c::k)) cs w):=
 step_lone_go (by simp[stepG,stepG.exec,Frame.atR])
def ziw{p:List Nat}{x:Code}(h:sub body p = .scope x):(cv.mk 3 p (.inScope x)).Ok body:=by
 show Item.inScope x=(match sub body p with | .scope x => .inScope x|c => .code c)
 rw[h]
def qrl{id:Nat}:∀{k:List cv},mn id k=none->(∀i∈k,i.Ok body)->exitTo id (de k)=none
 |[],_,_=>rfl|⟨kd,p,it⟩::k,h,hk=>by
  simp only[mn]at h;have hk':=(q4g hk).2;split at h
  ·rename_i id';split at h
   ·cases h
   ·rename_i he;simp only[de,exitTo];rw[qW he];exact qrl h hk'
  ·rename_i hne;have:=qrl h hk';simp only[de];cases it<;>first
    |(exfalso;exact hne _ rfl)
    |(simp only[exitTo];exact this)
abbrev IH(cx:Cx)(z4s:List (Nat×ag)){R:Type}(enc:RS R)(body:Code)(labs:List (eg R))(n:Nat):Prop:=
 ∀(chk:Bool)(k:List cv)(s:St)(r:R),(∀i∈k,i.Ok body)->run cx enc labs n chk k s=some r->gw cx z4s enc (de k) s r
def vl(cx:Cx){R:Type}(enc:RS R)(labs:List (eg R))(n:Nat)(p:List Nat)(k':List cv)(s:St)(c:Code):Option R:=match c with
 |.skip=>run cx enc labs n true k' s|.label _=>run cx enc labs n true k' s|.seq x y=>run cx enc labs n true (⟨0,0::p,.code x⟩::⟨0,1::p,.code y⟩::k') s|.cond c x y=>match s.ev c with|some (.bool b)=>bif b then run cx enc labs n true (⟨0,0::p,.code x⟩::k') (s.know c true) else run cx enc labs n true (⟨0,1::p,.code y⟩::k') (s.know c false)|some (.val (.bool b))=>bif b then run cx enc labs n true (⟨0,0::p,.code x⟩::k') s else run cx enc labs n true (⟨0,1::p,.code y⟩::k') s|_=>none
 |.block id x=>run cx enc labs n true (⟨0,0::p,.code x⟩::⟨1,p,.inBlock id⟩::k') s|.loop x=>run cx enc labs n true (⟨0,0::p,.code x⟩::⟨2,p,.inLoop x⟩::k') s|.scope x=>run cx enc labs n true (⟨0,0::p,.code x⟩::⟨3,p,.inScope x⟩::k') s|.exit id=>match mn id k' with
  |some k''=>run cx enc labs n true k'' s|none=>match cx.rd with|some _=>lh cx enc (some (.exit id)) s|none=>none
 |.region _ ops d=>bif d then qrf cx.P cx.tb ops s (fun s'=>run cx enc labs n true k' s'.bump) else vg cx.P cx.tb ops ops.toList s (fun s'=>run cx enc labs n true k' s'.bump)
 |.ret=>lh cx enc (some .ret) s|.rangeFunc g ps _ _=>rfR cx p g ps.toList s fun j s'=>match j with
  |none=>run cx enc labs n true k' s'|some .ret=>lh cx enc (some .ret) s'|some (.exit id)=>match mn id k' with
   |some k''=>run cx enc labs n true k'' s'|none=>match cx.rd with|some _=>lh cx enc (some (.exit id)) s'|none=>none
 |_=>none
def zik{labs:List (eg R)}{n:Nat}(ih:IH cx z4s enc body labs n){p:List Nat}{k':List cv}{c:Operand}{x y:Code}{r:R}(hsub:sub body p = .cond c x y)(hk':∀i∈k',i.Ok body)(h:vl cx enc labs n p k' s (.cond c x y)=some r):gw cx z4s enc (.code (.cond c x y)::de k') s r:=by
 unfold vl at h;simp only at h;split at h
 ·rename_i t ht;cases t<;>simp only[qT,qF]at h
  ·refine(ih true _ _ r (iv (ny 1 hsub rfl) hk') h).via fun z4v z4q G a w hr b cs _ _ _ => ?_
   have he:a.eval c = .bool false:=a8 hr ht;exact⟨G,a,w,hr.know he,.one (stepR_cond he)⟩
  ·refine(ih true _ _ r (iv (ny 0 hsub rfl) hk') h).via fun z4v z4q G a w hr b cs _ _ _ => ?_
   have he:a.eval c = .bool true:=a8 hr ht;exact⟨G,a,w,hr.know he,.one (stepR_cond he)⟩
 ·rename_i t ht;cases t<;>simp only[qT,qF]at h
  ·refine(ih true _ _ r (iv (ny 1 hsub rfl) hk') h).via fun z4v z4q G a w hr b cs _ _ _ => ?_
   have he:a.eval c = .bool false:=a8 hr ht;exact⟨G,a,w,hr,.one (stepR_cond he)⟩
  ·refine(ih true _ _ r (iv (ny 0 hsub rfl) hk') h).via fun z4v z4q G a w hr b cs _ _ _ => ?_
   have he:a.eval c = .bool true:=a8 hr ht;exact⟨G,a,w,hr,.one (stepR_cond he)⟩
 ·cases h
def ziq(ok:cx.Ok body){labs:List (eg R)}{n:Nat}(ih:IH cx z4s enc body labs n){p:List Nat}{k':List cv}{id:Nat}{ops:Array Oper}{d:Bool}{r:R}(hk':∀i∈k',i.Ok body)(h:vl cx enc labs n p k' s (.region id ops d)=some r):gw cx z4s enc (.code (.region id ops d)::de k') s r:=by
 unfold vl at h;simp only at h;cases d<;>simp only[qT,qF]at h
 ·intro z4v z4q G a w hr b cs hb hkd hrd;have hops:=q4l (P:=cx.P) (ops:=ops) ok.ents (N:=fun a' w'=>ti cx.P b.roundOf cx.f (lone (b.atR a' (de k')) cs w') cs fun v w'=>∃G',Fin z4v z4q z4s G' (enc.res r).2 w'/\ah (enc.res r).1 G' v)
   (fun s' h' G' a' w' hr'=>ih true k' s'.bump r hk' h' z4v z4q G' a' w' hr'.bump b cs hb hkd hrd) ops.toList 0 s G a w (fun j hj=>by simp) h hr
  have e:List.range' 0 ops.toList.length=List.range ops.size:=by simp[List.range_eq_range']
  rw[e]at hops;obtain⟨a',w',h1,h2⟩:=zdp (id:=id) hops b (de k') cs hkd;exact h1.head h2
 ·intro z4v z4q G a w hr b cs hb hkd hrd;obtain⟨a',w',h1,h2⟩:=zdz (P:=cx.P) ok.ents ok.mixed h (N:=fun a' w'=>ti cx.P b.roundOf cx.f (lone (b.atR a' (de k')) cs w') cs fun v w'=>∃G',Fin z4v z4q z4s G' (enc.res r).2 w'/\ah (enc.res r).1 G' v)
   (fun s' h' G' a' w' hr'=>ih true k' s'.bump r hk' h' z4v z4q G' a' w' hr'.bump b cs hb hkd hrd) hr id b (de k') cs hkd
  exact h1.head h2
def q50(ok:cx.Ok body)(hid:∀n bx,ae z4s n=some bx->au cx.ids n=some n){labs:List (eg R)}{n:Nat}(ih:IH cx z4s enc body labs n){k':List cv}{id:Nat}{r:R}(hk':∀i∈k',i.Ok body)
  (h:(match mn id k' with
   |some k''=>run cx enc labs n true k'' s|none=>match cx.rd with
    |some _=>lh cx enc (some (.exit id)) s| none=>none)=some r):gw cx z4s enc (.code (.exit id)::de k') s r:=by
 split at h
 ·rename_i k'' hx;obtain⟨h1,h2⟩:=qrm hx;exact(ih true k'' s r (fun i hi=>hk' i (h2 i hi)) h).one fun a w b cs=>stepR_exit h1
 ·rename_i hx;split at h
  ·rename_i m hm;exact qh5 ok hid (j:=some (.exit id)) ⟨by rw[hm];simp,_,rfl,qrl hx hk'⟩ h
  ·cases h
def zio(ok:cx.Ok body)(hid:∀n bx,ae z4s n=some bx->au cx.ids n=some n){labs:List (eg R)}{n:Nat}(ih:IH cx z4s enc body labs n){p:List Nat}{k':List cv}{g:Operand}{ps:Array Tmp}{asn bo:Code}{r:R}(hsub:sub body p = .rangeFunc g ps asn bo)(hk':∀i∈k',i.Ok body)
  (h:vl cx enc labs n p k' s (.rangeFunc g ps asn bo)=some r):gw cx z4s enc (.code (.rangeFunc g ps asn bo)::de k') s r:=by
 unfold vl at h;simp only at h;intro z4v z4q G a w hr b cs hb hkd hrd;obtain⟨j,s',G',a',w',h1,h2,h3⟩:=zid ok hr hsub h cs hb hkd hrd (de k');refine ti.head h3 ?_
 cases j with
 |none=>exact ih true k' s' r hk' h1 z4v z4q G' a' w' h2 b cs hb hkd hrd|some j=>cases j with|ret=>exact qh5 ok hid (j:=some .ret) (k := .code .ret::de k') ⟨_,rfl⟩ h1 z4v z4q G' a' w' h2 b cs hb hkd hrd|exit id=>exact q50 ok hid ih hk' h1 z4v z4q G' a' w' h2 b cs hb hkd hrd
def zij(ok:cx.Ok body)(hid:∀n bx,ae z4s n=some bx->au cx.ids n=some n){labs:List (eg R)}{n:Nat}(ih:IH cx z4s enc body labs n){kd:Nat}{p:List Nat}{k':List cv}{c:Code}{r:R}(hi:(cv.mk kd p (.code c)).Ok body)(hk':∀i∈k',i.Ok body)
  (h:vl cx enc labs n p k' s c=some r):gw cx z4s enc (.code c::de k') s r:=by
 have hsub:=zdb hi
 cases c with
 |skip=>exact(ih true k' s r hk' h).one fun a w b cs=>stepR_skip
 |label l=>exact(ih true k' s r hk' h).one fun a w b cs=>stepR_label
 |seq x y=>exact(ih true _ s r (iv (ny 0 hsub rfl) (iv (ny 1 hsub rfl) hk')) h).one fun a w b cs=>stepR_seq
 |cond c x y=>exact zik ih hsub hk' h|block id x=>exact(ih true _ s r (iv (ny 0 hsub rfl) (iv (zcm hsub) hk')) h).one fun a w b cs=>stepR_block
 |loop x=>exact(ih true _ s r (iv (ny 0 hsub rfl) (iv (q3k hsub) hk')) h).one fun a w b cs=>stepR_loop
 |scope x=>exact(ih true _ s r (iv (ny 0 hsub rfl) (iv (ziw hsub) hk')) h).one fun a w b cs=>zjb
 |exit id=>exact q50 ok hid ih hk' h|region id ops d=>exact ziq ok ih hk' h|ret=>exact qh5 ok hid (j:=some .ret) ⟨_,rfl⟩ h|rangeFunc g ps asn bo=>exact zio ok hid ih hsub hk' h|_=>cases h
def zii{labs:List (eg R)}{n:Nat}(ih:IH cx z4s enc body labs n){k':List cv}{r:R}(hk':∀i∈k',i.Ok body)
  (h:(match cx.rd with
   |some m=>match ae s.hp m with|some (.loop .ready pe f n' fr ps tag D)=>run cx enc labs n true k' { s with hp:=(m,.loop .busy pe f n' fr ps tag D)::s.hp }|_=>none
   | none=>none)=some r):gw cx z4s enc (.beginRound::de k') s r:=by
 split at h
 ·rename_i m hm;split at h
  ·rename_i pe f n' fr ps tag D hl;refine(ih true k' _ r hk' h).via fun z4v z4q G a w hr b cs _ _ hrd => ?_
   unfold np at hrd;rw[hm]at hrd;simp only at hrd;obtain⟨B,bx0,e1,e2,e3⟩:=hrd;obtain⟨B',tmps,DB,i1,i2,⟨asn,bo,i3,i4⟩,i5,i6,i7⟩:=hr.fin.mem.holds _ _ hl;have:=hr.fin.keep m bx0 B e2 e1;rw[this]at i1;injection i1 with i1;subst i1
   have hbr:=run_beginRound (P:=cx.P) i4 rfl;exact⟨G,a,_,hr.setBox (bx' := .loop .busy pe f n' fr ps tag D) hl (show G.box m=some B from this)
    (fun c hc=>by have hc:G.box m=some c:=hc;rw[this]at hc;injection hc with hc;exact hc.symm)
    ⟨B,tmps,DB,this,i2,⟨asn,bo,i3,by rw[World.putObj_heap_same (Array.getElem?_eq_some_iff.1 i4).1]⟩,i5,i6,i7⟩ i7,.one (stepR_beginRound e3 hbr)⟩
  ·cases h
 ·cases h
def qtd(ok:cx.Ok body)(hid:∀n bx,ae z4s n=some bx->au cx.ids n=some n){labs:List (eg R)}(hlab:∀l∈labs,nk cx z4s enc body l) :
  ∀(n:Nat)(chk:Bool)(k:List cv)(s:St)(r:R),(∀i∈k,i.Ok body)->run cx enc labs n chk k s=some r->gw cx z4s enc (de k) s r:=by
 intro n
 induction n with
 |zero=>intro chk k s r _ h;cases h
 |succ n ih=>
  intro chk k s r hk h;unfold run at h
  cases hl:(bif chk then vj cx.ids s k labs else none) with
  |some lab=>
   rw[hl]at h;have hl:vj cx.ids s k labs=some lab:=by cases chk<;>simp only[qT,qF,reduceCtorEq]at hl;exact hl
   obtain⟨hm,hkey⟩:=qsv hl;simp only at h;split at h
   ·rename_i d hd;have hg:=hlab lab hm d r h;rw[q10 hkey hk]at hg;refine hg.via fun z4v z4q G a w hr b cs _ _ _ => ?_
    obtain⟨G1,hr1⟩:=hr.co lab.ls cx.ids;obtain⟨G2,hr2⟩:=hr1.fit hid hd;exact⟨G2,a,w,hr2,.refl _ _⟩
   ·cases h
  |none=>
   rw[hl]at h;simp only at h;clear hl
   cases k with
   |nil=>exact qh5 ok hid (by rfl) h|cons i k'=>
    obtain⟨kd,p,it⟩:=i;obtain⟨hi,hk'⟩:=q4g hk;clear hk
    cases it with
    |code c=>exact zij ok hid ih hi hk' h|inBlock id=>exact(ih true k' s r hk' h).one fun a w b cs=>stepR_inBlock
    |inScope id=>exact(ih true k' s r hk' h).one fun a w b cs=>zja
    |inLoop x=>
     have hsub:sub body p = .loop x:=zfi hi;exact(ih true _ s r (iv (ny 0 hsub rfl) (iv (q3k hsub) hk')) h).one fun a w b cs=>stepR_inLoop
    |beginRound=>exact zii ih hk' h|_=>cases h
end
def St.reCell(s:St)(b off:Nat):St:=
 match ae s.hp b with
 |some (.cells cs T)=>match cs[off]? with
  |some (.own k)=>match ae s.hp k with|some (.row τ l E)=>bif aw s.nx s.hp then{ s with hp:=(b,.cells (cs.set off (.own s.nx)) T)::(s.nx,.row τ l E)::(k,.dead)::s.hp,nx:=s.nx+32 } else s|_=>s
  |_=>s
 |_=>s
def qiu:Pt->Bool|.own _=>true|_=>false
def reB1(b:Nat):List Pt->Nat->St->St|[],_,s=>s|p::ps,off,s=>reB1 b ps (off+1) (bif qiu p then s.reCell b off else s)
def reB:List (Nat×ax)->St->St
 |[],s=>s|(n,p)::r,s=>match p with|.cells ps _=>reB r (reB1 n ps 0 s)|_=>reB r s
def St.reSlot(s:St)(i:Nat):St:=
 match ae s.fr i with
 |some (.own k)=>match ae s.hp k with|some (.row τ l E)=>bif aw s.nx s.hp&&Nat.blt i s.n then{ s with fr:=(i,.own s.nx)::s.fr,hp:=(s.nx,.row τ l E)::(k,.dead)::s.hp,nx:=s.nx+32 } else s|_=>s
 |_=>s
def reA:List Pt->Nat->St->St|[],_,s=>s|p::ps,i,s=>reA ps (i+1) (bif qiu p then s.reSlot i else s)
section
variable{z4v:World}{z4q:Gh}{z4s:List (Nat×ag)}{G:Gh}{s:St}{a:Act}{w:World}
def Fin.rename{hp:List (Nat×ag)}(hf:Fin z4v z4q z4s G hp w){k k':Nat}{τ:Ty}{l:List τ.den}{E:TypeId}{v:Option Addr×Nat×Nat}(hk:ae hp k=some (.row τ l E))(hk':ae hp k'=none)(hfr:G.own k'=none)(ho:G.own k=some v) :
  Fin z4v z4q z4s (G.addOwn k' v) ((k',.row τ l E)::(k,.dead)::hp) w:=by
 have hle:G.le (G.addOwn k' v):=Gh.addOwn_le hfr;have hlk:∀m b,ae ((k',ag.row τ l E)::(k,.dead)::hp) m=some b->(m=k'/\b = .row τ l E)\/b = .dead\/(m≠k/\ae hp m=some b):=fun m b h=>by
  simp only[ae]at h;cases hb:Nat.beq k' m
  ·rw[hb]at h;cases hb2:Nat.beq k m
   ·rw[hb2]at h;exact .inr (.inr ⟨fun e=>by subst e;simp at hb2,h⟩)
   ·rw[hb2]at h;simp only[qT,qF,qI]at h;exact .inr (.inl h.symm)
  ·rw[hb]at h;simp only[qT,qI]at h;exact .inl ⟨(qN hb).symm,h.symm⟩
 have hat:(G.addOwn k' v).at k' (.row τ l E)=G.at k (.row τ l E):=by simp only[Gh.at,Gh.addOwn_self,ho]
 refine⟨⟨hf.mem.agree,hf.mem.one,?_,?_,hf.mem.tab⟩,hf.bel,hf.imm_le,hf.imm_new,?_,fun n bx B h1 h2=>hle.box _ _ (hf.keep n bx B h1 h2),fun n bx B h1 h2=>hle.own _ _ (hf.keepOwn n bx B h1 h2)⟩
 ·intro m b h;rcases hlk m b h with⟨rfl,rfl⟩|rfl|⟨_,h⟩
  ·obtain⟨ad,c,i1,i2⟩:=hf.mem.holds k _ hk;rw[ho]at i1;injection i1 with i1;subst i1
   exact⟨ad,c,Gh.addOwn_self,i2⟩
  ·trivial
  ·exact(hf.mem.holds m b h).mono hle (fun _ _=>rfl) (fun _ _ _ h => .inl h)
 ·intro m m' b b' c h1 h2 h3 h4;rcases hlk m b h1 with⟨rfl,rfl⟩|rfl|⟨n1,g1⟩<;>rcases hlk m' b' h2 with⟨e2,rfl⟩|rfl|⟨n2,g2⟩
  ·exact e2.symm
  ·cases h4
  ·rw[hat]at h3;rw[(hf.mem.holds m' b' g2).at_le hle]at h4;exact absurd (hf.mem.apart m' k b' _ c g2 hk h4 h3) n2
  ·cases h3
  ·cases h3
  ·cases h3
  ·subst e2;rw[hat]at h4;rw[(hf.mem.holds m b g1).at_le hle]at h3;exact absurd (hf.mem.apart m k b _ c g1 hk h3 h4) n1
  ·cases h4
  ·rw[(hf.mem.holds m b g1).at_le hle]at h3;rw[(hf.mem.holds m' b' g2).at_le hle]at h4;exact hf.mem.apart m m' b b' c g1 g2 h3 h4
 ·intro m b c h1 h2;rcases hlk m b h1 with⟨rfl,rfl⟩|rfl|⟨n1,h1⟩
  ·rw[hat]at h2;exact hf.base k _ c hk h2
  ·cases h2
  ·rw[(hf.mem.holds m b h1).at_le hle]at h2;exact hf.base m b c h1 h2
def ai.reCell(hr:ai z4v z4q z4s G s a w)(b off:Nat):∃G',ai z4v z4q z4s G' (s.reCell b off) a w:=by
 unfold St.reCell;split
 ·rename_i cs T hb0;split
  ·rename_i k hx0;split
   ·rename_i τ l E hk0;cases hn:aw s.nx s.hp
    ·exact⟨G,hr⟩
    ·simp only[qT];have hk:=jb hn s.nx (wF _) (by omega)
     obtain⟨ad,c,i1,_⟩:=hr.fin.mem.holds k _ hk0;have hfresh:=hr.fresh s.nx (wF _) hk;have hle:G.le (G.addOwn s.nx (ad,l.length,c)):=Gh.addOwn_le hfresh.2;have hf:=hr.fin.rename hk0 hk hfresh.2 i1;have hne:s.nx≠b:=fun e=>by rw[e,hb0]at hk;cases hk
     have hne2:k≠b:=fun e=>by rw[e,hb0]at hk0;cases hk0
     have hb1:ae ((s.nx,ag.row τ l E)::(k,.dead)::s.hp) b=some (.cells cs T):=by
      simp only[ae];cases hq:Nat.beq s.nx b
      ·cases hq2:Nat.beq k b
       ·exact hb0
       ·exact absurd (qN hq2) hne2
      ·exact absurd (qN hq) hne
     obtain⟨B,vs,k1,k2,k3,k4,k5⟩:=hf.mem.holds _ _ hb1;have hv:vs.toList[off]? = some (.slice ad l.length c):=by
      obtain⟨v,h1,h2⟩:=jd k3 hx0;obtain⟨a',n',c',q1,q2⟩:=h2;rw[hle.own _ _ i1]at q1;simp only[qI,qP]at q1;obtain⟨rfl,rfl,rfl⟩:=q1;subst q2;exact h1
     have hset:vs.toList.set off (.slice ad l.length c)=vs.toList:=by
      obtain⟨hlt,he⟩:=List.getElem?_eq_some_iff.1 hv;rw[← he,List.set_getElem_self]
     refine⟨G.addOwn s.nx (ad,l.length,c),⟨by obtain⟨bs,q1,q2⟩:=hr.defers;exact⟨bs,q1,ob hle.box q2⟩,hr.size,fun j x hx=>by obtain⟨v,h1,h2⟩:=hr.frame j x hx;exact⟨v,h1,h2.le hle⟩,fun m hm hl => ?_,?_⟩⟩
     ·simp only at hm;have hmn:s.nx≠m:=by omega
      simp only[ae]at hl;cases hq:Nat.beq b m<;>rw[hq]at hl<;>simp only[qT,qF,reduceCtorEq]at hl
      cases hq1:Nat.beq s.nx m<;>rw[hq1]at hl<;>simp only[qT,qF,reduceCtorEq]at hl
      cases hq2:Nat.beq k m<;>rw[hq2]at hl<;>simp only[qT,qF,reduceCtorEq]at hl
      obtain⟨h1,h2⟩:=hr.fresh m (by omega) hl
      refine⟨h1,?_⟩;show(bif Nat.beq m s.nx then some _ else G.own m)=none
      cases hbm:Nat.beq m s.nx
      ·exact h2
      ·exact absurd (qN hbm).symm hmn
     ·refine hf.update (bx := .cells cs T) (bx' := .cells (cs.set off (.own s.nx)) T) hb1 (B:=B) k1 k1 ⟨rfl,rfl,rfl,wF _,fun _ _ _=>rfl⟩ ⟨B,vs,k1,k2,?_,k4,k5⟩ k5
      have:=qd3 off k3 (x := .own s.nx) (v := .slice ad l.length c) ⟨ad,l.length,c,Gh.addOwn_self,rfl⟩
      rwa [hset]at this
   ·exact⟨G,hr⟩
  ·exact⟨G,hr⟩
 ·exact⟨G,hr⟩
def ai.reSlot(hr:ai z4v z4q z4s G s a w)(i:Nat):∃G',ai z4v z4q z4s G' (s.reSlot i) a w:=by
 unfold St.reSlot;split
 ·rename_i k hx0;split
  ·rename_i τ l E hk0;cases hn:aw s.nx s.hp&&Nat.blt i s.n
   ·exact⟨G,hr⟩
   ·simp only[qT];simp only[qA]at hn;have hk:=jb hn.1 s.nx (wF _) (by omega)
    obtain⟨ad,c,i1,_⟩:=hr.fin.mem.holds k _ hk0;have hfresh:=hr.fresh s.nx (wF _) hk;have hle:G.le (G.addOwn s.nx (ad,l.length,c)):=Gh.addOwn_le hfresh.2;refine⟨G.addOwn s.nx (ad,l.length,c),⟨by obtain⟨bs,q1,q2⟩:=hr.defers;exact⟨bs,q1,ob hle.box q2⟩,hr.size,fun j x hx => ?_,fun m hm hl => ?_,hr.fin.rename hk0 hk hfresh.2 i1⟩⟩
    ·simp only[ae]at hx;cases hq:Nat.beq i j
     ·rw[hq]at hx;obtain⟨v,h1,h2⟩:=hr.frame j x hx;exact⟨v,h1,h2.le hle⟩
     ·rw[hq]at hx;simp only[qT,qI]at hx;subst hx;have:=qN hq;subst this;obtain⟨v,h1,a',n',c',q1,q2⟩:=hr.frame i _ hx0;rw[i1]at q1;simp only[qI,qP]at q1;obtain⟨rfl,rfl,rfl⟩:=q1;exact⟨v,h1,ad,l.length,c,Gh.addOwn_self,q2⟩
    ·simp only at hm;have hmn:s.nx≠m:=by omega
     simp only[ae]at hl;cases hq1:Nat.beq s.nx m<;>rw[hq1]at hl<;>simp only[qT,qF,reduceCtorEq]at hl
     cases hq2:Nat.beq k m<;>rw[hq2]at hl<;>simp only[qT,qF,reduceCtorEq]at hl
     obtain⟨h1,h2⟩:=hr.fresh m (by omega) hl
     refine⟨h1,?_⟩;show(bif Nat.beq m s.nx then some _ else G.own m)=none
     cases hbm:Nat.beq m s.nx
     ·exact h2
     ·exact absurd (qN hbm).symm hmn
  ·exact⟨G,hr⟩
 ·exact⟨G,hr⟩
def ai.reA:∀{ps:List Pt}{i:Nat}{s:St}{G:Gh},ai z4v z4q z4s G s a w->∃G',ai z4v z4q z4s G' (reA ps i s) a w
 |[],_,s,G,hr=>⟨G,hr⟩|p::ps,i,s,G,hr=>by
  unfold Sym.reA;cases qiu p
  ·exact ai.reA hr
  ·obtain⟨G',hr'⟩:=hr.reSlot i;exact ai.reA hr'
def ai.reB1{b:Nat}:∀{ps:List Pt}{off:Nat}{s:St}{G:Gh},ai z4v z4q z4s G s a w->∃G',ai z4v z4q z4s G' (reB1 b ps off s) a w
 |[],_,s,G,hr=>⟨G,hr⟩|p::ps,off,s,G,hr=>by
  unfold Sym.reB1;cases qiu p
  ·exact ai.reB1 hr
  ·obtain⟨G',hr'⟩:=hr.reCell b off;exact ai.reB1 hr'
def ai.reB:∀{l:List (Nat×ax)}{s:St}{G:Gh},ai z4v z4q z4s G s a w->∃G',ai z4v z4q z4s G' (reB l s) a w
 |[],s,G,hr=>⟨G,hr⟩|(n,p)::r,s,G,hr=>by
  unfold Sym.reB;split
  ·obtain⟨G',hr'⟩:=hr.reB1;exact ai.reB hr'
  ·exact ai.reB hr
end
def dy:List (Nat×ax)->NM|[]=>[]|(n,_)::r=>(n,n)::dy r
def gx(N:NM)(n:Nat):Bool:=match ar N n with|some m=>Nat.beq m n|none=>false
def r7{N:NM}{n:Nat}(h:gx N n=true):ar N n=some n:=by
 unfold gx at h;split at h
 ·rename_i m hm;have:=qN h;subst this;exact hm
 ·cases h
mutual
def qs1(N:NM):Pt->Bool|.agg ps=>ov N ps|.tup ps=>ov N ps|.ptr b _=>gx N b|.own k=>gx N k|.el k _=>gx N k|.iel _ k _=>gx N k|.yld k=>gx N k|.pn k=>gx N k|.fn _ ps=>ov N ps|_=>true
def ov(N:NM):List Pt->Bool|[]=>true|p::ps=>qs1 N p&&ov N ps
end
def zb7{ρ:Nat->Option Nat}:∀{τ:Ty}{d:τ.den},(τ.av d).ren ρ=τ.av d|.int _,_=>rfl|.byte,_=>rfl|.bool,_=>rfl|.str,_=>rfl|.unit,_=>rfl|.list _,_=>rfl|.prod a b,d=>by show AV.agg (AV.rens ρ ((Ty.prod a b).enc d))=_;rw[Ty.enc_ren];rfl|.tree a,d=>by show AV.agg (AV.rens ρ ((Ty.tree a).enc d))=_;rw[Ty.enc_ren];rfl
mutual
def q40{N:NM}:∀{p:Pt}{d:p.den},qs1 N p=true->(p.put d).ren (ar N)=p.put d|.h τ,d,_=>zb7|.c _,_,_=>rfl|.agg ps,d,h=>congrArg AV.agg (vk (ps:=ps) (d:=d) h)|.tup ps,d,h=>congrArg AV.tup (vk (ps:=ps) (d:=d) h)|.ptr b off,_,h=>by show AV.ren (ar N) (.ptr b off)=_;simp only[AV.ren,r7 (show gx N b=true from h)];rfl|.own k,_,h=>by show AV.ren (ar N) (.own k)=_;simp only[AV.ren,r7 (show gx N k=true from h)];rfl|.arr _,_,_=>rfl|.el k sz,_,h=>by show AV.ren (ar N) (.oel k sz 0 0)=_;simp only[AV.ren,r7 (show gx N k=true from h)];rfl|.iel t k sz,_,h=>by show AV.ren (ar N) (.iface t (.oel k sz 0 0))=_;simp only[AV.ren,r7 (show gx N k=true from h)];rfl|.yld k,_,h=>by show AV.ren (ar N) (.yld k)=_;simp only[AV.ren,r7 (show gx N k=true from h)];rfl|.pn k,_,h=>by show AV.ren (ar N) (.pn k)=_;simp only[AV.ren,r7 (show gx N k=true from h)];rfl|.fn f ps,d,h=>congrArg (AV.fn (.func f) []) (vk (ps:=ps) (d:=d) h)|.u,_,_=>rfl
def vk{N:NM}:∀{ps:List Pt}{d:Pts.den ps},ov N ps=true->AV.rens (ar N) (Pts.put ps d)=Pts.put ps d
 |[],_,_=>rfl|p::ps,d,h=>by
  simp only[ov,qA]at h;have h1:=q40 (p:=p) (d:=d.1) h.1;have h2:=vk (ps:=ps) (d:=d.2) h.2;show AV.ren (ar N) (p.put d.1)::AV.rens (ar N) (Pts.put ps d.2)=p.put d.1::Pts.put ps d.2;rw[h1,h2]
end
def fIn(N:NM):List (Nat×Pt)->Bool|[]=>true|(_,p)::r=>qs1 N p&&fIn N r
def q2r{N:NM}:∀{l:List (Nat×Pt)}{d:mo l},fIn N l=true->lv (ar N) (g9 l d)=g9 l d
 |[],_,_=>rfl|(i,p)::r,d,h=>by
  simp only[fIn,qA]at h;have h1:=q40 (p:=p) (d:=d.1) h.1;have h2:=q2r (l:=r) (d:=d.2) h.2;show(i,AV.ren (ar N) (p.put d.1))::lv (ar N) (g9 r d.2)=(i,p.put d.1)::g9 r d.2;rw[h1,h2]
def qqv(N:NM):ax->Bool|.cells ps _=>ov N ps|.loop _ _ _ _ fr _ _ D=>gx N D&&fIn N fr|_=>true
def xy(N:NM):List (Nat×ax)->Bool|[]=>true|(n,p)::r=>gx N n&&qqv N p&&xy N r
def zcr{N:NM}:∀{p:ax}{d:p.den},qqv N p=true->dd (ar N) (p.put d)=p.put d
 |.cells ps T,d,h=>congrArg (fun l=>ag.cells l T) (vk (ps:=ps) (d:=d) h)
 |.row _ _,_,_=>rfl|.loop st pe f n fr ps tag D,d,h=>by
  simp only[qqv,qA]at h;have h2:=q2r (l:=fr) (d:=d) h.2;have h3:dd (ar N) (.loop st pe f n (g9 fr d) ps tag D) = .loop st pe f n (lv (ar N) (g9 fr d)) ps tag D:=by simp only[dd,r7 h.1]
  exact h3.trans (congrArg (fun l=>ag.loop st pe f n l ps tag D) h2)
 |.dfr,_,_=>rfl|.it,_,_=>rfl|.dead,_,_=>rfl|.dat τ T,d,_=>congrArg (fun l=>ag.cells l T) (Ty.enc_ren (ar N) τ d)
def qql{N:NM}:∀{l:List (Nat×ax)}{d:ek l},xy N l=true->∀n b,ae (bu l d) n=some b->ar N n=some n/\dd (ar N) b=b
 |[],_,_,_,_,h=>by cases h
 |(m,p)::r,d,h,n,b,hl=>by
  simp only[xy,qA]at h;have hl:(bif Nat.beq m n then some (p.put d.1) else ae (bu r d.2) n)=some b:=hl
  cases hb:Nat.beq m n
  ·rw[hb]at hl;exact qql (d:=d.2) h.2 n b hl
  ·rw[hb]at hl;have:=qN hb;subst this;simp only[qT,qI]at hl;subst hl;exact⟨r7 h.1.1,zcr h.1.2⟩
def b9.only{G:Gh}{hp:List (Nat×ag)}{w:World}{N:NM}(hm:b9 G hp w)(h:∀n b,ae hp n=some b->ar N n=some n/\dd (ar N) b=b):b9 (G.view N) hp w:=by
 have hb:∀n b,ae hp n=some b->(G.view N).box n=G.box n/\(G.view N).own n=G.own n:=fun n b hl=>by
  have:=ox (h n b hl).1;exact⟨by simp[Gh.view,this],by simp[Gh.view,this]⟩
 have hat:∀n b c,ae hp n=some b->(G.view N).at n b=some c->G.at n b=some c:=fun n b c hl hc=>by
  have:=(h n b hl).2;exact nv (G:=G) (G':=G.view N) (ρ:=ar N) (hb n b hl).1 (hb n b hl).2 (by rw[this];exact hc)
 refine⟨hm.agree,hm.one,fun n b hl => ?_,fun n m b b' c h1 h2 h3 h4=>hm.apart n m b b' c h1 h2 (hat _ _ _ h1 h3) (hat _ _ _ h2 h4),hm.tab⟩
 have:=cg.ren (G:=G) (G':=G.view N) (ρ:=ar N) (n:=n) (m:=n) (fun _ _ _ h=>h) (fun _ _ _ h=>h) (o5 N) (qk N) (fun B hB=>by rw[(hb n b hl).1];exact hB) (fun B hB=>by rw[(hb n b hl).2];exact hB) (hm.holds n b hl)
 rw[(h n b hl).2]at this;exact this
def Fin.only{G G':Gh}{hp hp':List (Nat×ag)}{w w':World}{N:NM}(h:∀n b,ae hp n=some b->ar N n=some n/\dd (ar N) b=b)(hf:Fin w (G.view N) hp G' hp' w'):Fin w G hp G' hp' w':=by
 have hb:∀n b,ae hp n=some b->(G.view N).box n=G.box n/\(G.view N).own n=G.own n:=fun n b hl=>by
  have:=ox (h n b hl).1;exact⟨by simp[Gh.view,this],by simp[Gh.view,this]⟩
 have hblk:∀c,mh (G.view N) hp c->mh G hp c:=fun c⟨n,b,h1,h2⟩=>⟨n,b,h1,nv (G:=G) (G':=G.view N) (ρ:=ar N) (hb n b h1).1 (hb n b h1).2 (by rw[(h n b h1).2];exact h2)⟩
 refine⟨hf.mem,⟨hf.bel.os,hf.bel.tape,hf.bel.output,hf.bel.size,fun k hk hS=>hf.bel.block k hk fun hx=>hS (hblk k hx)⟩,hf.imm_le,fun b o v hv => ?_,fun n b c h1 h2 => ?_,fun n b B h1 h2=>hf.keep n b B h1 (by rw[(hb n b h1).1];exact h2),fun n b B h1 h2=>hf.keepOwn n b B h1 (by rw[(hb n b h1).2];exact h2)⟩
 ·rcases hf.imm_new b o v hv with h|h|h
  ·exact .inl h
  ·exact .inr (.inl h)
  ·exact .inr (.inr (hblk _ h))
 ·rcases hf.base n b c h1 h2 with h|h
  ·exact .inl h
  ·exact .inr (hblk _ h)
def qdi:List AV->Nat->List (Nat×AV)|[],_=>[]|x::xs,i=>(i,x)::qdi xs (i+1)
def q22:∀{xs:List AV}{G:Gh}{vs:List Value}(i:Nat),aj xs G vs->∀j x,ae (qdi xs i) j=some x->i<=j/\∃v,vs[j-i]? = some v/\ah x G v
 |[],_,[],_,_,j,x,h=>by cases h
 |x::xs,G,v::vs,i,hr,j,y,h=>by
  simp only[qdi,ae]at h;cases hb:Nat.beq i j
  ·rw[hb]at h;obtain⟨h1,u,h2,h3⟩:=q22 (i+1) hr.2 j y h;refine⟨by omega,u,?_,h3⟩
   rw[show j-i=(j-(i+1))+1 by omega];simpa using h2
  ·rw[hb]at h;have:=qN hb;subst this;simp only[qT,qI]at h;subst h;exact⟨wF _,v,by simp,hr.1⟩
 |[],_,_::_,_,h,_,_,_=>h.elim|_::_,_,[],_,h,_,_,_=>h.elim
def yc{G:Gh}{w:World}{hp:List (Nat×ag)}(hm:b9 G hp w):Fin w G hp G hp w:=
 ⟨hm,⟨rfl,rfl,rfl,wF _,fun _ _ _=>rfl⟩,fun _ _ _ h=>h,fun _ _ _ h => .inl h,fun n bx _b h1 h2 => .inr ⟨n,bx,h1,h2⟩,fun _ _ _ _ h=>h,fun _ _ _ _ h=>h⟩
def NX:Nat:=64
def qtb(cx:Cx)(body:Code){R:Type}(enc:RS R)(labs:List (eg R))(asn:List Pt)(pts:List (Nat×ax))(xs:List AV)(hp:List (Nat×ag)):Option R:=
 run cx enc labs 1000000 true [⟨0,[],.code body⟩] (reB pts (reA (bif cx.tb.sub then asn else[]) 0 { n:=cx.fn.ntmps,fr:=qdi xs 0,hp:=hp,nx:=NX,df:=[] }))
def qik(cx:Cx)(args:List Pt)(hp:List (Nat×ax)):Bool:=ov (dy hp) args&&xy (dy hp) hp&&Nat.ble args.length cx.fn.ntmps
def qir:∀{l:List (Nat×ax)}{d:ek l}{n:Nat}{b:ag},ae (bu l d) n=some b->au (dy l) n=some n
 |[],_,_,_,h=>by cases h
 |(m,p)::r,d,n,b,h=>by
  have h:(bif Nat.beq m n then some (p.put d.1) else ae (bu r d.2) n)=some b:=h
  simp only[dy,au];cases hb:Nat.beq m n
  ·rw[hb]at h;exact qir (d:=d.2) h
  ·have:=qN hb;subst this;rfl
def qsn{m:Nat}:∀{l:List (Nat×ax)}{d:ek l},ae (bu l d) m=none->au (dy l) m=none
 |[],_,_=>rfl|(n,p)::r,d,h=>by
  have h:(bif Nat.beq n m then some (p.put d.1) else ae (bu r d.2) m)=none:=h
  simp only[dy,au];cases hb:Nat.beq n m
  ·rw[hb]at h;exact qsn (d:=d.2) h
  ·rw[hb]at h;cases h
def q41:∀{ps:List Pt}{d:Pts.den ps},(Pts.put ps d).length=ps.length|[],_=>rfl|p::ps,d=>by show(p.put d.1::Pts.put ps d.2).length=_;simp[q41]
def cu.sound_fn{e:cu}{cx:Cx}{body:Code}{labs:List (eg e.R)}(ok:cx.Ok body)(hkey:e.key = .fn cx.f)(hbody:cx.fn.body=some body)(hrd:cx.rd=none)(hids:cx.ids=dy e.hp)(hpl:pi cx.P cx.f)
  (hfine:qik cx e.args e.hp=true) (hlab:∀d',∀l∈labs,nk cx (bu e.hp d') e.out body l) (hF:∀d d',qtb cx body e.out labs e.args e.hp (Pts.put e.args d) (bu e.hp d')=e.F d d'):e.Sound cx.P:=by
 intro d d' r hr;rw[hkey];refine⟨hpl,fun w G vs hm hreps => ?_⟩
 simp only[qik,qA]at hfine;obtain⟨⟨f1,f2⟩,f3⟩:=hfine;have f3:=Nat.le_of_ble_eq_true f3;have hin:=qql (d:=d') f2;have hm':=hm.only hin;have hreps':aj (Pts.put e.args d) (G.view (dy e.hp)) vs:=by
  have:=aj.ren (ρ:=ar (dy e.hp)) (G:=G) (G':=G.view (dy e.hp)) (fun _ _ _ h=>h) (o5 _) (qk _) hreps
  rwa [vk f1]at this
 have hlv:=hreps.length;rw[q41]at hlv;have hrun:=hF d d';rw[hr]at hrun;have hg:=qtd (enc:=e.out) ok (z4s:=bu e.hp d') (fun n bx h=>by rw[hids];exact qir h) (hlab d') _ _ _ _ _ (fun i hi=>by
  rcases List.mem_cons.1 hi with rfl|hi
  ·rfl
  ·cases hi) hrun
 have hr0:ai w (G.view (dy e.hp)) (bu e.hp d') (G.view (dy e.hp)) { n:=cx.fn.ntmps,fr:=qdi (Pts.put e.args d) 0,hp:=bu e.hp d',nx:=NX,df:=[] } { tmps:=vs.toArray++Array.replicate (cx.fn.ntmps-vs.toArray.size) undef,defers:=[] } w:=by
  refine⟨⟨[],rfl,rfl⟩,by simp;omega,fun i x hx => ?_,fun m _ hl => ?_,yc hm'⟩
  ·obtain⟨_,v,h2,h3⟩:=q22 0 hreps' i x hx;refine⟨v,?_,h3⟩;have hlt:i<vs.length:=by have:=(List.getElem?_eq_some_iff.1 h2).1;simpa using this
   rw[Array.getElem?_append_left (by simpa using hlt)]
   simpa using h2
  ·have:au (dy e.hp) m=none:=qsn hl;simp[Gh.view,this]
 obtain⟨G0,hr0'⟩:=hr0.reA (ps:=bif cx.tb.sub then e.args else[]) (i:=0)
 obtain⟨G1,hr1⟩:=hr0'.reB (l:=e.hp);intro cs
 let b:Frame:={ (default:Frame) with fn:=cx.f,kind := .normal }
 have henter:Frame.enter cx.P cx.f vs.toArray .normal=b.atR { tmps:=vs.toArray++Array.replicate (cx.fn.ntmps-vs.toArray.size) undef,defers:=[] } [.code body]:=by
  simp[Frame.enter,Frame.atR,ok.func,hbody,b];rfl
 have:=hg w _ _ _ w hr1 b cs rfl rfl (by unfold np;rw[hrd];rfl)
 obtain⟨v,w',fr,⟨G',h1,h2⟩,h3,h4,h5⟩:=this;exact⟨.returned v,w',fr,⟨v,G',rfl,h1.only hin,h2⟩,by rw[henter];exact h3,h4,h5⟩
def qd1:List Tmp->List AV->List (Nat×AV)->List (Nat×AV)|p::ps,x::xs,fr=>qd1 ps xs ((p,x)::fr)|_,_,fr=>fr
def qck(n:Nat):List Nat->Bool|[]=>true|p::ps=>Nat.blt p n&&qck n ps
def q44{G:Gh}{n:Nat}:∀{ps:List Tmp}{xs:List AV}{vs:List Value}{fr:List (Nat×AV)}{tmps:Array Value},qck n ps=true->tmps.size=n->ps.length=xs.length->aj xs G vs->(∀i x,ae fr i=some x->∃v,tmps[i]? = some v/\ah x G v) ->
  ((ps.zip vs).foldl (fun(tmps:Array Value)(q:Tmp×Value)=>tmps.setIfInBounds q.1 q.2) tmps).size=n/\∀i x,ae (qd1 ps xs fr) i=some x->∃v,((ps.zip vs).foldl (fun(tmps:Array Value)(q:Tmp×Value)=>tmps.setIfInBounds q.1 q.2) tmps)[i]? = some v/\ah x G v
 |[],[],[],fr,tmps,_,hn,_,_,hfr=>⟨hn,hfr⟩|p::ps,x::xs,v::vs,fr,tmps,hlt,hn,hl,hr,hfr=>by
  simp only[qck,qA]at hlt;have hp:p<n:=by have:=hlt.1;simpa using this
  simp only[List.zip_cons_cons,List.foldl_cons,qd1];refine q44 hlt.2 (by simp[hn]) (by simpa using hl) hr.2 (fun i y hy => ?_)
  simp only[ae]at hy;cases he:Nat.beq p i
  ·rw[he]at hy;simp only[qF]at hy;have hne:p≠i:=fun e=>by subst e;simp at he
   obtain⟨u,h1,h2⟩:=hfr i y hy;exact⟨u,by simp[hne,h1],h2⟩
  ·rw[he]at hy;simp only[qT,qI]at hy;subst hy;have:=qN he;subst this;exact⟨v,by simp[hn,hp],hr.1⟩
 |[],_::_,_,_,_,_,_,h,_,_=>by simp at h|_::_,[],_,_,_,_,_,h,_,_=>by simp at h|[],[],_::_,_,_,_,_,_,h,_=>h.elim|_::_,_::_,[],_,_,_,_,_,h,_=>h.elim
def vm(cx:Cx)(body:Code)(p:List Nat)(m:Nat){R:Type}(enc:RS R)(labs:List (eg R))(pts:List (Nat×ax))(xs:List AV)(hp:List (Nat×ag)):Option R:=
 match ae hp m with
 |some (.loop .ready none f n fr ps tag _)=>bif Nat.beq f cx.f&&qck n ps&&eqLen ps xs&&tagIs tag p cx.tags then
   run cx enc labs 1000000 true (ke body [(0,0::p),(4,[]),(0,1::p)]) (reB pts { n:=n,fr:=qd1 ps xs fr,hp:=hp,nx:=NX,df:=[] })
  else none
 |_=>none
where
 eqLen:List Tmp->List AV->Bool
  |[],[]=>true|_::ps,_::xs=>eqLen ps xs|_,_=>false
 tagIs (tag:Nat) (p:List Nat) (tags:List (List Nat×Nat)):Bool:=match oo p tags with|some t=>Nat.beq t tag|none=>false
def q11:∀{ps:List Tmp}{xs:List AV},vm.eqLen ps xs=true->ps.length=xs.length
 |[],[],_=>rfl|_::ps,_::xs,h=>by simp[q11 (ps:=ps) (xs:=xs) h]|[],_::_,h=>by cases h
 |_::_,[],h=>by cases h
def q25:Code->Bool|.rangeFunc _ _ _ _=>true|_=>false
def cu.sound_yld{e:cu}{cx:Cx}{body:Code}{p:List Nat}{m:Nat}{labs:List (eg e.R)}(ok:cx.Ok body)(hkey:e.key = .yld m)(hrd:cx.rd=some m)(hids:cx.ids=dy e.hp)(hrf:q25 (sub body p)=true)
  (hfine:(ov (dy e.hp) e.args&&xy (dy e.hp) e.hp)=true) (hlab:∀d',∀l∈labs,nk cx (bu e.hp d') e.out body l) (hF:∀d d',vm cx body p m e.out labs e.hp (Pts.put e.args d) (bu e.hp d')=e.F d d'):e.Sound cx.P:=by
 intro d d' r hr;rw[hkey];intro w G vs B hm hreps hB;simp only[qA]at hfine;obtain⟨f1,f2⟩:=hfine;have hin:=qql (d:=d') f2;have hm':=hm.only hin;have hreps':aj (Pts.put e.args d) (G.view (dy e.hp)) vs:=by
  have:=aj.ren (ρ:=ar (dy e.hp)) (G:=G) (G':=G.view (dy e.hp)) (fun _ _ _ h=>h) (o5 _) (qk _) hreps
  rwa [vk f1]at this
 have hrun:=hF d d';rw[hr]at hrun;unfold vm at hrun;split at hrun
 ·rename_i f n fr ps tag D hl;cases hb:Nat.beq f cx.f&&qck n ps&&vm.eqLen ps (Pts.put e.args d)&&vm.tagIs tag p cx.tags<;>rw[hb]at hrun<;>simp only[qT,qF,reduceCtorEq]at hrun
  simp only[qA]at hb;obtain⟨⟨⟨b1,b2⟩,b3⟩,b4⟩:=hb;have b1:=qN b1;subst b1;have b3:=q11 b3;unfold vm.tagIs at b4;split at b4
  rotate_left
  ·cases b4
  rename_i t ht;have b4:=qN b4;subst b4;obtain⟨B',tmps,DB,i1,i2,⟨asn,bo,i3,i4⟩,i5,i6,i7⟩:=hm'.holds m _ hl;have hBv:(G.view (dy e.hp)).box m=some B:=by
   have:=ox (hin m _ hl).1;simp[Gh.view,this,hB]
  rw[hBv]at i1;injection i1 with i1;subst i1
  obtain⟨g,ps0,x,y,hs⟩:∃g ps x y,sub body p = .rangeFunc g ps x y:=by
   cases hc:sub body p<;>rw[hc]at hrf<;>first|exact⟨_,_,_,_,rfl⟩|cases hrf
  have hcode:=ok.tags p t ht g ps0 x y hs;rw[i3]at hcode;simp only[qI,qP]at hcode;obtain⟨rfl,rfl⟩:=hcode;have hg:=qtd (enc:=e.out) ok (z4s:=bu e.hp d') (fun n bx h=>by rw[hids];exact qir h) (hlab d') _ _ _ _ _ qr0 hrun
  have hlv:=hreps.length;obtain⟨j1,j2⟩:=q44 (n:=n) b2 i5 b3 hreps' i6;have hr0:ai w (G.view (dy e.hp)) (bu e.hp d') (G.view (dy e.hp)) { n:=n,fr:=qd1 ps (Pts.put e.args d) fr,hp:=bu e.hp d',nx:=NX,df:=[] } { tmps:=(ps.zip vs).foldl (fun(tmps:Array Value)(q:Tmp×Value)=>tmps.setIfInBounds q.1 q.2) tmps,defers:=[] } w:=
   ⟨⟨[],rfl,rfl⟩,j1,j2,fun k _ hk=>by simp[Gh.view,qsn hk],yc hm'⟩
  obtain⟨G1,hr1⟩:=hr0.reB (l:=e.hp);refine⟨_,i4,fun c cs=>⟨by simp;omega,?_⟩⟩
  let b:Frame:={ (default:Frame) with fn:=cx.f,kind := .normal,roundOf:=some B }
  have:=hg w _ _ _ w hr1 b (c::cs) rfl rfl (by unfold np;rw[hrd];exact⟨B,_,hBv,hl,rfl⟩)
  obtain⟨v,w',⟨G',h1,h2⟩,h3⟩:=this c cs rfl;refine⟨v,w',⟨v,G',rfl,h1.only hin,h2⟩,?_⟩;have e1:Frame.round B cx.f ((ps.toArray.zip vs.toArray).foldl (fun tmps(t,a)=>tmps.setIfInBounds t a) tmps) asn bo .normal=b.atR { tmps:=(ps.zip vs).foldl (fun(tmps:Array Value)(q:Tmp×Value)=>tmps.setIfInBounds q.1 q.2) tmps,defers:=[] } (de (ke body [(0,0::p),(4,[]),(0,1::p)])):=by
   simp[Frame.round,Frame.atR,b,de,ke,se,sub,hs,fv,List.zip_toArray]
  simp only at e1 ⊢;rw[e1];exact h3
 ·cases hrun
def nk.of_run{cx:Cx}{body:Code}{z4s:List (Nat×ag)}{R:Type}{enc:RS R}{labs:List (eg R)}(ok:cx.Ok body)(hid:∀n bx,ae z4s n=some bx->au cx.ids n=some n)(hlab:∀l∈labs,nk cx z4s enc body l){l:eg R}
  (h:∀d,run cx enc labs 1000000 false (ke body l.key) (l.ls.st d)=l.F d):nk cx z4s enc body l:=fun d r hr=>by
 have:=h d;rw[hr]at this;exact qtd ok hid hlab _ _ _ _ _ qr0 this
end Go.Sym
namespace Go.Sym
open Go.RowKit
def ir(f:Func):Code:=match f.body with|some c=>c|none => .skip
def af(n:Int):Int:=IntKind.i64.wrap n
section
variable[LC]{cx:Cx}{z4s:List (Nat×ag)}{R:Type}{enc:RS R}{body:Code}{P:Program}
def ao:∀p t,oo p []=some t->∀g ps x y,sub body p = .rangeFunc g ps x y->LC.lc t=some (x,y):=fun _ _ h=>by cases h
def jg{p:List Nat}{t:Nat}{tags:List (List Nat×Nat)}(h:LC.lc t=some (fv 0 (sub body p),fv 1 (sub body p)))(k:∀p t,oo p tags=some t->∀g ps x y,sub body p = .rangeFunc g ps x y->LC.lc t=some (x,y)) :
  ∀q u,oo q ((p,t)::tags)=some u->∀g ps x y,sub body q = .rangeFunc g ps x y->LC.lc u=some (x,y):=fun q u hq g ps x y hs=>by
 simp only[oo]at hq;cases hb:ml p q
 ·rw[hb]at hq;exact k q u hq g ps x y hs
 ·rw[hb]at hq;simp only[qT,qI]at hq;subst hq;have:=qh8 hb;subst this;rw[h,hs];rfl
end
abbrev Bs:Type:=List UInt8
def q4q:Nat->Nat->List Nat|0,_=>[]|f+1,n=>bif Nat.ble n 1 then[] else Nat.mod n 2::q4q f (Nat.div n 2)
def ak:List (Nat×Nat)->ui|[]=>[]|(k,n)::r=>(k,q4q 200 n)::ak r
mutual
def Pt.ts:Pt->List Type->List Type|.h τ,a=>τ.den::a|.agg ps,a=>Pts.ts ps a|.tup ps,a=>Pts.ts ps a|.fn _ ps,a=>Pts.ts ps a|.arr τ,a=>List τ.den::a|_,a=>a
def Pts.ts:List Pt->List Type->List Type|[],a=>a|p::ps,a=>p.ts (Pts.ts ps a)
end
def HL:List Type->Type|[]=>Unit|t::l=>t×HL l
abbrev lj:HL []:=()
mutual
def Pt.pk:(p:Pt)->{a:List Type}->p.den->HL a->HL (p.ts a)|.h _,_,d,x=>(d,x)|.agg ps,_,d,x=>Pts.pk ps d x|.tup ps,_,d,x=>Pts.pk ps d x|.fn _ ps,_,d,x=>Pts.pk ps d x|.arr _,_,d,x=>(d,x)|.c _,_,_,x=>x|.ptr _ _,_,_,x=>x|.own _,_,_,x=>x|.el _ _,_,_,x=>x|.iel _ _ _,_,_,x=>x|.yld _,_,_,x=>x|.pn _,_,_,x=>x|.u,_,_,x=>x
def Pts.pk:(ps:List Pt)->{a:List Type}->Pts.den ps->HL a->HL (Pts.ts ps a)|[],_,_,x=>x|p::ps,_,d,x=>p.pk d.1 (Pts.pk ps d.2 x)
end
mutual
def Pt.un:(p:Pt)->{a:List Type}->HL (p.ts a)->p.den×HL a|.h _,_,x=>x|.agg ps,_,x=>Pts.un ps x|.tup ps,_,x=>Pts.un ps x|.fn _ ps,_,x=>Pts.un ps x|.arr _,_,x=>x|.c _,_,x=>((),x)|.ptr _ _,_,x=>((),x)|.own _,_,x=>((),x)|.el _ _,_,x=>((),x)|.iel _ _ _,_,x=>((),x)|.yld _,_,x=>((),x)|.pn _,_,x=>((),x)|.u,_,x=>((),x)
def Pts.un:(ps:List Pt)->{a:List Type}->HL (Pts.ts ps a)->Pts.den ps×HL a|[],_,x=>((),x)|p::ps,_,x=>(((p.un x).1,(Pts.un ps (p.un x).2).1),(Pts.un ps (p.un x).2).2)
end
mutual
def Pt.un_pk:∀(p:Pt){a:List Type}(d:p.den)(x:HL a),p.un (p.pk d x)=(d,x)|.h _,_,_,_=>rfl|.agg ps,_,d,x=>Pts.un_pk ps d x|.tup ps,_,d,x=>Pts.un_pk ps d x|.fn _ ps,_,d,x=>Pts.un_pk ps d x|.arr _,_,_,_=>rfl|.c _,_,_,_=>rfl|.ptr _ _,_,_,_=>rfl|.own _,_,_,_=>rfl|.el _ _,_,_,_=>rfl|.iel _ _ _,_,_,_=>rfl|.yld _,_,_,_=>rfl|.pn _,_,_,_=>rfl|.u,_,_,_=>rfl
def Pts.un_pk:∀(ps:List Pt){a:List Type}(d:Pts.den ps)(x:HL a),Pts.un ps (Pts.pk ps d x)=(d,x)
 |[],_,_,_=>rfl|p::ps,_,d,x=>by
  show(((p.un (p.pk d.1 (Pts.pk ps d.2 x))).1,(Pts.un ps (p.un (p.pk d.1 (Pts.pk ps d.2 x))).2).1),(Pts.un ps (p.un (p.pk d.1 (Pts.pk ps d.2 x))).2).2)=(d,x);rw[Pt.un_pk p,Pts.un_pk ps];rfl
end
def fts:List (Nat×Pt)->List Type->List Type|[],a=>a|(_,p)::r,a=>p.ts (fts r a)
def jy:(l:List (Nat×Pt))->{a:List Type}->mo l->HL a->HL (fts l a)|[],_,_,x=>x|(_,p)::r,_,d,x=>p.pk d.1 (jy r d.2 x)
def yy:(l:List (Nat×Pt))->{a:List Type}->HL (fts l a)->mo l×HL a|[],_,x=>((),x)|(_,p)::r,_,x=>(((p.un x).1,(yy r (p.un x).2).1),(yy r (p.un x).2).2)
def q2s:∀(l:List (Nat×Pt)){a:List Type}(d:mo l)(x:HL a),yy l (jy l d x)=(d,x)
 |[],_,_,_=>rfl|(_,p)::r,_,d,x=>by
  show(((p.un (p.pk d.1 (jy r d.2 x))).1,(yy r (p.un (p.pk d.1 (jy r d.2 x))).2).1),(yy r (p.un (p.pk d.1 (jy r d.2 x))).2).2)=(d,x);rw[Pt.un_pk p,q2s r];rfl
def ax.ts:ax->List Type->List Type|.cells ps _,a=>Pts.ts ps a|.row τ _,a=>List τ.den::a|.loop _ _ _ _ fr _ _ _,a=>fts fr a|.dfr,a=>a|.it,a=>List UInt8::Nat::a|.dead,a=>a|.dat τ _,a=>τ.den::a
def ax.pk:(p:ax)->{a:List Type}->p.den->HL a->HL (p.ts a)|.cells ps _,_,d,x=>Pts.pk ps d x|.row _ _,_,d,x=>(d,x)|.loop _ _ _ _ fr _ _ _,_,d,x=>jy fr d x|.dfr,_,_,x=>x|.it,_,d,x=>(d.1,(d.2,x))|.dead,_,_,x=>x|.dat _ _,_,d,x=>(d,x)
def ax.un:(p:ax)->{a:List Type}->HL (p.ts a)->p.den×HL a|.cells ps _,_,x=>Pts.un ps x|.row _ _,_,x=>x|.loop _ _ _ _ fr _ _ _,_,x=>yy fr x|.dfr,_,x=>((),x)|.it,_,x=>((x.1,x.2.1),x.2.2)|.dead,_,x=>((),x)|.dat _ _,_,x=>x
def ax.un_pk:∀(p:ax){a:List Type}(d:p.den)(x:HL a),p.un (p.pk d x)=(d,x)|.cells ps _,_,d,x=>Pts.un_pk ps d x|.row _ _,_,_,_=>rfl|.loop _ _ _ _ fr _ _ _,_,d,x=>q2s fr d x|.dfr,_,_,_=>rfl|.it,_,_,_=>rfl|.dead,_,_,_=>rfl|.dat _ _,_,_,_=>rfl
def yf:List (Nat×ax)->List Type->List Type|[],a=>a|(_,p)::r,a=>p.ts (yf r a)
def ew:(l:List (Nat×ax))->{a:List Type}->ek l->HL a->HL (yf l a)|[],_,_,x=>x|(_,p)::r,_,d,x=>p.pk d.1 (ew r d.2 x)
def uu:(l:List (Nat×ax))->{a:List Type}->HL (yf l a)->ek l×HL a|[],_,x=>((),x)|(_,p)::r,_,x=>(((p.un x).1,(uu r (p.un x).2).1),(uu r (p.un x).2).2)
def q0y:∀(l:List (Nat×ax)){a:List Type}(d:ek l)(x:HL a),uu l (ew l d x)=(d,x)
 |[],_,_,_=>rfl|(_,p)::r,_,d,x=>by
  show(((p.un (p.pk d.1 (ew r d.2 x))).1,(uu r (p.un (p.pk d.1 (ew r d.2 x))).2).1),(uu r (p.un (p.pk d.1 (ew r d.2 x))).2).2)=(d,x);rw[ax.un_pk p,q0y r];rfl
abbrev Cur:List Type->Type->Type|[],R=>R|t::l,R=>t->Cur l R
def app{R:Type}:{l:List Type}->Cur l R->HL l->R|[],f,_=>f|_::_,f,x=>app (f x.1) x.2
abbrev Nc:List Type->Type|[]=>Unit|[t]=>t|t::u::l=>t×Nc (u::l)
def Nc.fro:(l:List Type)->HL l->Nc l|[],_=>()|[_],x=>x.1|_::u::l,x=>(x.1,Nc.fro (u::l) x.2)
def Nc.to:(l:List Type)->Nc l->HL l|[],_=>()|[_],x=>(x,())|_::u::l,x=>(x.1,Nc.to (u::l) x.2)
def Nc.to_fro:∀(l:List Type)(x:HL l),Nc.to l (Nc.fro l x)=x
 |[],_=>rfl|[_],_=>rfl|_::u::l,x=>by
  show(x.1,Nc.to (u::l) (Nc.fro (u::l) x.2))=x;rw[Nc.to_fro];rfl
def RS.mk(p:Pt)(hp:List (Nat×ax)):RS (Nc (p.ts (yf hp []))):=
 .one p hp (fun x=>((p.un (Nc.to _ x)).1,(uu hp (p.un (Nc.to _ x)).2).1)) (fun y=>Nc.fro _ (p.pk y.1 (ew hp y.2 lj))) fun y=>by
  obtain⟨d,d'⟩:=y;show((p.un (Nc.to _ (Nc.fro _ (p.pk d (ew hp d' lj))))).1,(uu hp (p.un (Nc.to _ (Nc.fro _ (p.pk d (ew hp d' lj))))).2).1)=(d,d');rw[Nc.to_fro,Pt.un_pk,q0y]
structure IF:Type 1 where
 key:uh
 args:List Pt
 hp:List (Nat×ax)
 R:Type
 out:RS R
abbrev IF.T(i:IF):Type:=Cur (Pts.ts i.args (yf i.hp [])) (Option i.R)
def IF.e(i:IF)(r:i.T):cu:=⟨i.key,i.args,i.hp,i.R,fun d d'=>app r (Pts.pk i.args d (ew i.hp d' lj)),i.out⟩
abbrev KL:Type:=ui×LS
abbrev KL.T(l:KL)(R:Type):Type:=Cur (fts l.2.fr (yf l.2.hp [])) (Option R)
def KL.lab{R:Type}(l:KL)(r:l.T R):eg R:=⟨l.1,l.2,fun d=>app r (jy l.2.fr d.1 (ew l.2.hp d.2 lj))⟩
def kl:Nat->List KL->KL|_,[]=>([],⟨0,[],[],0,[]⟩)|0,l::_=>l|n+1,_::r=>kl n r
def qs2:uh->Option Nat|.yld m=>some m|_=>none
section
variable[LC]{P:Program}{i:IF}
structure EP(P:Program):Type 1 where
 e:cu
 h:e.Sound P
structure EI(P:Program)(i:IF) where
 f:i.T
 h:(i.e f).Sound P
def EI.p(s:EI P i):EP P:=⟨i.e s.f,s.h⟩
def EP.es{P:Program}:List (EP P)->List cu|[]=>[]|x::l=>x.e::EP.es l
def EP.es_ok{P:Program}:∀{l:List (EP P)},∀e∈EP.es l,e.Sound P
 |[],_,h=>by cases h
 |x::_,e,h=>by
  rcases List.mem_cons.1 h with rfl|h
  ·exact x.h
  ·exact EP.es_ok e h
structure Fx(P:Program)(i:IF):Type 1 where
 etys:List (Nat×Ty)
 hm:P.follows .mixedOrders=true
 fn:Func
 f:FuncId
 hf:P.funcs[f]? = some fn
 calls:List (EP P)
 sub:Bool
 tags:List (List Nat×Nat)
 ht:∀p t,oo p tags=some t->∀g ps x y,Sym.sub (ir fn) p = .rangeFunc g ps x y->LC.lc t=some (x,y)
 ls:List KL
def Fx.body(x:Fx P i):Code:=ir x.fn
def Fx.cx(x:Fx P i):Cx:={ P,tb:=⟨EP.es x.calls,x.etys,x.sub⟩,fn:=x.fn,f:=x.f,ids:=dy i.hp,rd:=qs2 i.key,tags:=x.tags }
def Fx.ok(x:Fx P i):x.cx.Ok x.body:=⟨EP.es_ok,x.hm,x.hf,x.ht⟩
structure PL(x:Fx P i)(k:Nat) where
 f:(kl k x.ls).T i.R
 h:∀d',nk x.cx (bu i.hp d') i.out x.body ((kl k x.ls).lab f)
abbrev Fx.L(x:Fx P i)(k:Nat):=PL x k
structure SL(x:Fx P i) where
 q:eg i.R
 h:∀d',nk x.cx (bu i.hp d') i.out x.body q
def PL.s{x:Fx P i}{k:Nat}(p:PL x k):SL x:=⟨(kl k x.ls).lab p.f,p.h⟩
def SL.qs{x:Fx P i}:List (SL x)->List (eg i.R)|[]=>[]|s::l=>s.q::SL.qs l
def SL.qs_ok{x:Fx P i}{d':ek i.hp}:∀{l:List (SL x)},∀q∈SL.qs l,nk x.cx (bu i.hp d') i.out x.body q
 |[],_,h=>by cases h
 |s::_,q,h=>by
  rcases List.mem_cons.1 h with rfl|h
  ·exact s.h d'
  ·exact SL.qs_ok q h
def Fx.jn{x:Fx P i}{k:Nat}(f:(kl k x.ls).T i.R)(l:List (SL x))
  (h:∀d,run x.cx i.out (SL.qs l) 1000000 false (ke x.body (kl k x.ls).1) ((kl k x.ls).2.st d)=app f (jy (kl k x.ls).2.fr d.1 (ew (kl k x.ls).2.hp d.2 ()))):PL x k:=
 ⟨f,fun _=>nk.of_run x.ok (fun _ _ h=>qir h) (SL.qs_ok) h⟩
def Fx.lp{x:Fx P i}{k:Nat}(g:Nat->(kl k x.ls).T i.R)(b:(kl k x.ls).T i.R->(kl k x.ls).T i.R)(h0:∀d:(kl k x.ls).2.den,app (g 0) (jy (kl k x.ls).2.fr d.1 (ew (kl k x.ls).2.hp d.2 ()))=none)(hg:∀n,g (n+1)=b (g n))(l:PL x k->List (SL x))
  (h:∀r d,run x.cx i.out (SL.qs (l r)) 1000000 false (ke x.body (kl k x.ls).1) ((kl k x.ls).2.st d)=app (b r.f) (jy (kl k x.ls).2.fr d.1 (ew (kl k x.ls).2.hp d.2 ()))) (n:Nat):PL x k:=
 ⟨g n,by
  induction n with
  |zero=>intro d' d r hr;have:=h0 d;rw[show((kl k x.ls).lab (g 0)).F d=none from this]at hr;cases hr
  | succ n ih=>rw[hg];exact(Fx.jn (b (g n)) (l ⟨g n,ih⟩) (h ⟨g n,ih⟩)).h⟩
def Fx.fin(x:Fx P i)(f:i.T)(l:List (SL x))(hp:pi P x.f)(hk:i.key = .fn x.f)(hb:x.fn.body=some x.body)(hfine:qik x.cx i.args i.hp=true)
  (h:∀d d',qtb x.cx x.body i.out (SL.qs l) i.args i.hp (Pts.put i.args d) (bu i.hp d')=app f (Pts.pk i.args d (ew i.hp d' lj))):EI P i:=
 ⟨f,cu.sound_fn (e:=i.e f) (cx:=x.cx) (labs:=SL.qs l) x.ok hk hb (show qs2 i.key=none by rw[hk];rfl) rfl hp hfine (fun _=>SL.qs_ok) h⟩
def Fx.fiy(x:Fx P i)(f:i.T)(l:List (SL x))(m:Nat)(hk:i.key = .yld m)(p:List Nat)(hb:q25 (Sym.sub x.body p)=true)(hfine:(ov (dy i.hp) i.args&&xy (dy i.hp) i.hp)=true)
  (h:∀d d',vm x.cx x.body p m i.out (SL.qs l) i.hp (Pts.put i.args d) (bu i.hp d')=app f (Pts.pk i.args d (ew i.hp d' lj))):EI P i:=
 ⟨f,cu.sound_yld (e:=i.e f) (cx:=x.cx) (labs:=SL.qs l) (p:=p) (m:=m) x.ok hk (show qs2 i.key=some m by rw[hk];rfl) rfl hb hfine (fun _=>SL.qs_ok) h⟩
def EI.rc(g:Nat->i.T)(b:i.T->i.T)(h0:∀d d',app (g 0) (Pts.pk i.args d (ew i.hp d' lj))=none)(hg:∀n,g (n+1)=b (g n))(s:EI P i->EI P i)(hs:∀r,(s r).f=b r.f)(n:Nat):EI P i:=
 ⟨g n,by
  induction n with
  |zero=>intro d d' r hr;have:=h0 d d';rw[show(i.e (g 0)).F d d'=none from this]at hr;cases hr
  | succ n ih=>rw[hg,← hs ⟨g n,ih⟩];exact(s ⟨g n,ih⟩).h⟩
end
end Go.Sym
namespace Go.Sym
def uc(n:Int):Option Bs:=bif decide (-9223372036854775808<=n/\n<=9223372036854775807) then some (Lib.itoa n) else none
def tp(s sep:Bs):Option Int:=bif decide (2<=List.length sep/\List.length s<4294967281/\List.length sep<=maxLen) then some (Lib.index s sep) else none
def kh(s:Bs)(most:Int):Int×Bool:=match Lib.atoiAll s with|.ok v=>if Lib.itoa v=s/\0<=v/\v<=most then(v,true) else(0,false)|_=>(0,false)
def tn(s:Bs)(most:Int):Option (Int×Bool):=bif decide (List.length s<=281474976710656) then some (kh s most) else none
abbrev Pc:Type:=Bs×Int×Bool×Bs
abbrev Pq:Type:={ x:Pc // -1125899906842624<=x.2.1/\x.2.1<=1125899906842624 }
instance:Inhabited Pq:=⟨⟨([],0,false,[]),by decide⟩⟩
def gg(x y:Pq):Int:=af (x.1.2.1-y.1.2.1)
def fj(l:List Pq):List Pq:=(Go.Sort.pdq (Go.Proofs.ltOf gg) l.toArray 0 l.length (Lib.bitLen l.length) true true).toList
def nd:List Pc->Option (List Pq)|[]=>some []|x::l=>if h : -1125899906842624<=x.2.1/\x.2.1<=1125899906842624 then(match nd l with|some r=>some (⟨x,h⟩::r)|none=>none) else none
def ub(l:List Pc):Option (List Pc):=bif decide (List.length l<=bg) then(match nd l with|some q=>some ((fj q).map (·.1))|none=>none) else none
def xd(s old new:Bs):Option Bs:=bif decide (1<=List.length old/\List.length s<4294967281/\List.length s+List.length s*List.length new<=140737488355328) then some (Lib.replaceAll s old new) else none
def vu(rep:Bs):Nat->Bool->Bs->Bs
 |0,_,_=>[]|_+1,_,[]=>[]|n+1,inv,c::l=>if(Lib.decodeL (c::l)).1=65533/\(Lib.decodeL (c::l)).2=1 then(if inv then[] else rep)++vu rep n true l
  else(c::l).take (Lib.decodeL (c::l)).2++vu rep n false ((c::l).drop (Lib.decodeL (c::l)).2)
def ue(s rep:Bs):Option Bs:=bif decide (List.length s<=1000000/\List.length rep<=1000) then some (vu rep s.length false s) else none
def uf(s:Bs):Option Bool:=bif decide (List.length s<=9223372036854775807) then some (Lib.validD s) else none
def p6(a b:UInt8)(na nb:Bs)(c:UInt8):Bs:=if c=a then na else if c=b then nb else[c]
def d5(a b:UInt8)(na nb:Bs)(s:Bs):Bs:=s.flatMap (p6 a b na nb)
def gh(a b:UInt8)(l:Bs):Nat:=l.count a+l.count b
def qh9(a b:UInt8)(na nb s t:Bs):d5 a b na nb (s++t)=d5 a b na nb s++d5 a b na nb t:=List.flatMap_append
def qq2(a b:UInt8)(s t:Bs):gh a b (s++t)=gh a b s+gh a b t:=by unfold gh;rw[List.count_append,List.count_append];omega
def qq3{a b:UInt8}(hab:a≠b)(c:UInt8):gh a b [c]=if c=a then 1 else if c=b then 1 else 0:=by
 unfold gh;simp only[List.count_cons,List.count_nil,beq_iff_eq];by_cases h:c=a
 ·subst h;simp[hab]
 ·by_cases h2:c=b
  ·subst h2;simp[h]
  ·simp[h,h2]
def qia{a b:UInt8}(hab:a≠b)(a1 a2 b1 b2:UInt8):∀l:Bs,(d5 a b [a1,a2] [b1,b2] l).length=l.length+gh a b l
 |[]=>rfl|c::l=>by
  have h:=qia hab a1 a2 b1 b2 l;rw[show c::l=[c]++l from rfl,qh9,qM,qM,qq2,h,qq3 hab]
  have:(d5 a b [a1,a2] [b1,b2] [c]).length=1+(if c=a then 1 else if c=b then 1 else 0):=by
   show(p6 a b [a1,a2] [b1,b2] c++[]).length=_;unfold p6;split
   ·rfl
   ·split<;>rfl
  rw[this];simp only[qL,qZ];omega
def q12{a b:UInt8}(hab:a≠b)(na nb:Bs):∀l:Bs,gh a b l=0->d5 a b na nb l=l
 |[],_=>rfl|c::l,h=>by
  rw[show c::l=[c]++l from rfl,qq2,qq3 hab]at h
  rw[show c::l=[c]++l from rfl,qh9,q12 hab na nb l (by omega)]
  congr 1;show p6 a b na nb c++[]=[c];unfold p6;by_cases h1:c=a
  ·rw[qX h1]at h;omega
  ·by_cases h2:c=b
   ·rw[qW h1,qX h2]at h;omega
   ·rw[qW h1,qW h2];rfl
def q6r{α:Type}(l:List α)(i:Nat)(h:i<l.length):l.take (i+1)=l.take i++[l[i]]:=by
 rw[List.take_add_one,List.getElem?_eq_getElem h];rfl
def qx(s:Bs)(p0 p1 _p2:Int)(on:List Bs):Option Bs:=
 match on with|[[a],[a1,a2],[b],[b1,b2]]=>bif decide (p0=0/\p1=0/\a≠b/\List.length s<=1000000) then some (d5 a b [a1,a2] [b1,b2] s) else none|_=>none
def zia{s r:Bs}{p0 p1 p2:Int}{on:List Bs}(h:qx s p0 p1 p2 on=some r) :
  ∃a a1 a2 b b1 b2,on=[[a],[a1,a2],[b],[b1,b2]]/\p0=0/\p1=0/\a≠b/\List.length s<=1000000/\r=d5 a b [a1,a2] [b1,b2] s:=by
 unfold qx at h;split at h
 ·rename_i a a1 a2 b b1 b2;cases hd:decide (p0=0/\p1=0/\a≠b/\List.length s<=1000000)<;>rw[hd]at h<;>simp only[qT,qF,reduceCtorEq]at h
  obtain⟨h1,h2,h3,h4⟩:=of_decide_eq_true hd;exact⟨a,a1,a2,b,b1,b2,rfl,h1,h2,h3,h4,(qJ h).symm⟩
 ·cases h
def wq(l:Bs):Option Bs:=some l
def qe7(l:Bs):Option Bs:=some l
def qbv(s:Bs):Option Int:=bif decide (List.length s<=281474976710656) then(match Lib.atoiAll s with | .ok v=>some v|_=>none) else none
open Go.RowKit
variable[LC]
def qp(b:List UInt8)(c:UInt8):Option Int:=some (Lib.indexByte b c)
def qmn(f:FuncId)(r:List UInt8->UInt8->Option Int):cu:={ key := .ext f,args:=[.h (.list .byte),.h .byte],hp:=[],R:=Int,F:=fun d _=>r d.1 d.2.1,out := .one (α:=Int) (.h (.int .i64)) [] (fun r=>(r,())) (fun y=>y.1) (fun _=>rfl) }
def qmm(f:FuncId)(r:List UInt8->UInt8->Option Int):cu:={ key := .ext f,args:=[.h .str,.h .byte],hp:=[],R:=Int,F:=fun d _=>r d.1 d.2.1,out := .one (α:=Int) (.h (.int .i64)) [] (fun r=>(r,())) (fun y=>y.1) (fun _=>rfl) }
def q05(c:UInt8):((c.toNat:Int)).toNat.toUInt8=c:=by simp
def ze4 {P : Program} {f : FuncId} {fn : Func} (hf : P.funcs[f]? = some fn) (hname : (fn.name == "runtime.NumGoroutine") = false) (hb : fn.body.isNone = true) (hn : Extern.findNext fn = none) (he : Extern.find fn = some Extern.BytealgIndexByte.indexByte) (b : List UInt8) (c : UInt8) :
  qe1 P f [.str b,.byte c] (.int .i64 (Lib.indexByte b c)):=fun w G vs _ hr=>by
 match vs,hr with
 |[v1,v2],⟨h1,h2,_⟩=>
  have h1:v1 = .string ⟨b.toArray⟩:=h1;have h2:v2 = .int .u8 c.toNat:=h2;subst h1 h2;refine⟨.int .i64 (Lib.indexByte b c),?_,rfl⟩;rw[run_callFunc_extern hf hname hb hn he,show([Value.string ⟨b.toArray⟩,.int .u8 c.toNat]:List Value).toArray=#[.string ⟨b.toArray⟩,.int .u8 c.toNat] from rfl,Lib.run_indexByteString,q05]
  rfl
def ze5 {P : Program} {f : FuncId} {fn : Func} (hf : P.funcs[f]? = some fn) (hname : (fn.name == "runtime.NumGoroutine") = false) (hb : fn.body.isNone = true) (hn : Extern.findNext fn = none) (he : Extern.find fn = some Extern.BytealgIndexByte.indexByte) (b : List UInt8) (c : UInt8) :
  qe1 P f [.sl .byte b,.byte c] (.int .i64 (Lib.indexByte b c)):=fun w G vs hm hr=>by
 match vs,hr with
 |[v1,v2],⟨h1,h2,_⟩=>
  have h2:v2 = .int .u8 c.toNat:=h2;subst h2;obtain⟨a,cp,rfl,hc,hl⟩:il 1 (Ty.byte.At G.imm) b v1:=h1;refine⟨.int .i64 (Lib.indexByte b c),?_,rfl⟩;rw[run_callFunc_extern hf hname hb hn he];have key:∀k:Int,(Extern.BytealgIndexByte.indexByte #[.slice a b.length cp,.int .u8 c.toNat]).run P w = .ok (.int .i64 k) w->((Extern.BytealgIndexByte.indexByte ([Value.slice a b.length cp,.int .u8 c.toNat]:List Value).toArray).run P w).andThen (fun v w'=>Result.ok (Next.value v) w') = .ok (.value (.int .i64 k)) w:=by
   intro k hk;have e:([Value.slice a b.length cp,.int .u8 c.toNat]:List Value).toArray=#[.slice a b.length cp,.int .u8 c.toNat]:=rfl;rw[e,hk];rfl
  refine key _ ?_;have bb:Lib.bytesOf (b.map fun x=>(x.toNat:Int))=b:=by
   unfold Lib.bytesOf;rw[List.map_map];have:((fun n:Int=>UInt8.ofNat n.toNat) ∘ fun x:UInt8=>(x.toNat:Int))=id:=by funext x;simp
   rw[this,List.map_id]
  rcases hl with rfl|⟨g,o,rfl,hcells⟩
  ·have hs:=Lib.run_indexByteString (P:=P) .empty (c.toNat:Int) w
   cases a with|none=>exact hs|some ad=>exact hs
  ·have:=Lib.run_indexByteSlice (P:=P) (w:=w) g o b.length cp (b.map fun x=>(x.toNat:Int)) (by simp) (fun i hi=>by
    have hk:G.imm g (o+i*1)=some (.int .u8 b[i].toNat):=hcells i _ (List.getElem?_eq_getElem hi);have:=hm.agree _ _ _ hk;rw[Nat.mul_one]at this;rw[this];simp[List.getD_eq_getElem?_getD,hi]) (c.toNat:Int)
   rw[bb,q05]at this;exact this
def q9y {P : Program} {f : FuncId} {fn : Func} (hf : P.funcs[f]? = some fn) (hname : (fn.name == "runtime.NumGoroutine") = false) (hb : fn.body.isNone = true) (hn : Extern.findNext fn = none) (he : Extern.find fn = some Extern.BytealgIndexByte.indexByte) :
  (qmm f qp).Sound P:=fun d d' r h=>by
 have h:some (Lib.indexByte (show List UInt8 from d.1) (show UInt8 from d.2.1))=some r:=h
 have h:=qJ h;subst h;exact ze4 hf hname hb hn he _ _
def q90 {P : Program} {f : FuncId} {fn : Func} (hf : P.funcs[f]? = some fn) (hname : (fn.name == "runtime.NumGoroutine") = false) (hb : fn.body.isNone = true) (hn : Extern.findNext fn = none) (he : Extern.find fn = some Extern.BytealgIndexByte.indexByte) :
  (qmn f qp).Sound P:=fun d d' r h=>by
 have h:some (Lib.indexByte (show List UInt8 from d.1) (show UInt8 from d.2.1))=some r:=h
 have h:=qJ h;subst h;exact ze5 hf hname hb hn he _ _
end Go.Sym
namespace Go.Sym
open Go.ChangeShapes Go.WideShapes Go.ChangeAt Go.RowKit
variable[LC]
def Gw(w:World):Gh:=⟨fun b o=>match w.cell? ⟨b,o,none⟩ with|some v=>if v.oneCell'=true then some v else none|none=>none,fun _=>none,fun _=>none⟩
def qpp{w:World}{b o:Nat}{v:Value}(h:w.cell? ⟨b,o,none⟩=some v)(h1:v.oneCell'=true):(Gw w).imm b o=some v:=by
 simp only[Gw];rw[h];simp[h1]
def q94(w:World)(ht:LC.tab (Gw w).imm w):b9 (Gw w) [] w:=by
 have key:∀b o v,(Gw w).imm b o=some v->w.cell? ⟨b,o,none⟩=some v/\v.oneCell'=true:=by
  intro b o v h;simp only[Gw]at h;split at h
  ·rename_i u hu;split at h
   ·rename_i h1;cases h;exact⟨hu,h1⟩
   ·cases h
  ·cases h
 exact⟨fun b o v h=>(key b o v h).1,fun b o v h=>(key b o v h).2,fun n bx h=>(by cases h),fun n m bx bx' b h=>(by cases h),ht⟩
inductive qpy{α:Type}(p:α->Prop):Tree α->Prop
 |mk (a:α) (l:List (Tree α)):p a->l.length<=maxLen->(∀x∈l,qpy p x)->qpy p (.node a l)
def Ty.bd:(τ:Ty)->τ.den->Prop|.int k,n=>(Lit.int k n).wf=true|.str,s=>List.length s<=maxLen|.prod a b,x=>a.bd x.1/\b.bd x.2|.list a,l=>List.length l<=maxLen/\∀x∈(show List a.den from l),a.bd x|.tree a,t=>qpy a.bd t|_,_=>True
def yx(P:Program)(rec:Ty->TypeId->Bool):Ty->List Field->Nat->Bool|τ,[f],o=>f.offset==o&&(P.cellsOf f.type==τ.sz&&rec τ f.type)|.prod a b,f::fs,o=>f.offset==o&&(P.cellsOf f.type==a.sz&&(rec a f.type&&yx P rec b fs (o+a.sz)))|_,_,_=>false
def qju(P:Program)(t g:TypeId):Bool:=match P.underlying g with|some (.slice e)=>e==t|_=>false
def vy(P:Program)(rec:Ty->TypeId->Bool)(t:TypeId):Ty->List Field->Nat->Bool|τ,[f,g],o=>f.offset==o&&(P.cellsOf f.type==τ.sz&&(rec τ f.type&&(g.offset==o+τ.sz&&(P.cellsOf g.type==1&&qju P t g.type))))|.prod a b,f::fs,o=>f.offset==o&&(P.cellsOf f.type==a.sz&&(rec a f.type&&vy P rec t b fs (o+a.sz)))|_,_,_=>false
def ch(P:Program):Nat->Ty->TypeId->Bool
 |0,_,_=>false|_+1,.int k,t=>match P.underlying t with|some (.int k')=>decide (k'=k)|_=>false
 |_+1,.byte,t=>match P.underlying t with|some (.int k')=>decide (k' = .u8)|_=>false
 |_+1,.bool,t=>match P.underlying t with|some .bool=>true|_=>false
 |_+1,.str,t=>match P.underlying t with|some .string=>true|_=>false
 |n+1,.list a,t=>match P.underlying t with|some (.slice e)=>P.cellsOf e==a.sz&&(decide (0<a.sz)&&ch P n a e)|_=>false
 |n+1,.prod a b,t=>match P.underlying t with|some (.struct fs)=>P.cellsOf t==(Ty.prod a b).sz&&yx P (ch P n) (.prod a b) fs.toList 0|_=>false
 |n+1,.tree a,t=>match P.underlying t with|some (.struct fs)=>P.cellsOf t==(Ty.tree a).sz&&vy P (ch P n) t a fs.toList 0|_=>false
 |_+1,_,_=>false
def q64{P:Program}{n:Nat}{k:IntKind}{t:TypeId}(h:ch P (n+1) (.int k) t=true):P.underlying t=some (.int k):=by
 unfold ch at h;split at h
 ·rename_i k' e;rw[e,of_decide_eq_true h]
 ·cases h
def q63{P:Program}{n:Nat}{t:TypeId}(h:ch P (n+1) .byte t=true):P.underlying t=some (.int .u8):=by
 unfold ch at h;split at h
 ·rename_i k' e;rw[e,of_decide_eq_true h]
 ·cases h
def q62{P:Program}{n:Nat}{t:TypeId}(h:ch P (n+1) .bool t=true):P.underlying t=some .bool:=by
 unfold ch at h;split at h
 ·rename_i e;exact e
 ·cases h
def q65{P:Program}{n:Nat}{t:TypeId}(h:ch P (n+1) .str t=true):P.underlying t=some .string:=by
 unfold ch at h;split at h
 ·rename_i e;exact e
 ·cases h
def aj.app{G:Gh}:∀{xs ys:List AV}{us vs:List Value},aj xs G us->aj ys G vs->aj (xs++ys) G (us++vs)|[],_,[],_,_,h=>h|[],_,_::_,_,h,_=>by simp[aj]at h|_::_,_,[],_,h,_=>by simp[aj]at h|_::_,_,_::_,_,h,k=>⟨h.1,aj.app h.2 k⟩
def qh4{G:Gh}:∀(τ:Ty)(x:τ.den)(cs:List Value),aj (τ.enc x) G cs->∀v∈cs,v.oneCell'=true
 |.int k,n,[v],h,u,hu=>by
  rw[List.mem_singleton]at hu;subst hu;have h1:u = .int k n:=h.1;rw[h1];rfl
 |.byte,c,[v],h,u,hu=>by
  rw[List.mem_singleton]at hu;subst hu;have h1:u = .int .u8 (UInt8.toNat c):=h.1;rw[h1];rfl
 |.bool,c,[v],h,u,hu=>by
  rw[List.mem_singleton]at hu;subst hu;have h1:u = .bool c:=h.1;rw[h1];rfl
 |.str,s,[v],h,u,hu=>by
  rw[List.mem_singleton]at hu;subst hu;have h1:u = .string ⟨List.toArray s⟩:=h.1;rw[h1];rfl
 |.list a,l,[v],h,u,hu=>by
  rw[List.mem_singleton]at hu;subst hu;obtain⟨ad,c,rfl,_⟩:il a.sz (a.At G.imm) l u:=h.1;rfl
 |.unit,_,[],_,u,hu=>by cases hu
 |.unit,_,_::_,h,_,_=>by simp[Ty.enc,aj]at h|.prod a b,x,cs,h,u,hu=>by
  have key:∀(xs ys:List AV)(cs:List Value),aj (xs++ys) G cs->∃us vs,cs=us++vs/\aj xs G us/\aj ys G vs:=by
   intro xs
   induction xs with
   |nil=>intro ys cs h;exact⟨[],cs,rfl,trivial,h⟩|cons x xs ih=>
    intro ys cs h
    cases cs with
    |nil=>simp[aj]at h|cons c cs=>
     obtain⟨us,vs,e,h1,h2⟩:=ih ys cs h.2;exact⟨c::us,vs,by rw[e];rfl,⟨h.1,h1⟩,h2⟩
  obtain⟨us,vs,rfl,h1,h2⟩:=key _ _ _ h;rcases List.mem_append.1 hu with q|q
  ·exact qh4 a x.1 us h1 u q
  ·exact qh4 b x.2 vs h2 u q
 |.tree a,x,cs,h,u,hu=>by
  have key:∀(xs ys:List AV)(cs:List Value),aj (xs++ys) G cs->∃us vs,cs=us++vs/\aj xs G us/\aj ys G vs:=by
   intro xs
   induction xs with
   |nil=>intro ys cs h;exact⟨[],cs,rfl,trivial,h⟩|cons x xs ih=>
    intro ys cs h
    cases cs with
    |nil=>simp[aj]at h|cons c cs=>
     obtain⟨us,vs,e,h1,h2⟩:=ih ys cs h.2;exact⟨c::us,vs,by rw[e];rfl,⟨h.1,h1⟩,h2⟩
  obtain⟨us,vs,rfl,h1,h2⟩:=key _ _ _ h;rcases List.mem_append.1 hu with q|q
  ·exact qh4 a _ us h1 u q
  ·cases vs with
   |nil=>cases q
   |cons v vs=>
    cases vs with
    |cons v' vs=>simp[aj]at h2|nil=>
     rw[List.mem_singleton]at q;subst q;obtain⟨ad,c,rfl,_⟩:il (Ty.tree a).sz ((Ty.tree a).At G.imm) (Tree.kids x) u:=h2.1;rfl
 |.int _,_,[],h,_,_=>by simp[Ty.enc,aj]at h|.int _,_,_::_::_,h,_,_=>by simp[Ty.enc,aj]at h|.byte,_,[],h,_,_=>by simp[Ty.enc,aj]at h|.byte,_,_::_::_,h,_,_=>by simp[Ty.enc,aj]at h|.bool,_,[],h,_,_=>by simp[Ty.enc,aj]at h|.bool,_,_::_::_,h,_,_=>by simp[Ty.enc,aj]at h|.str,_,[],h,_,_=>by simp[Ty.enc,aj]at h|.str,_,_::_::_,h,_,_=>by simp[Ty.enc,aj]at h|.list _,_,[],h,_,_=>by simp[Ty.enc,aj]at h|.list _,_,_::_::_,h,_,_=>by simp[Ty.enc,aj]at h
def aj.cells{w:World}{b:Nat}:∀(xs:List AV)(cs:List Value)(o:Nat),aj xs (Gw w) cs->(∀v∈cs,v.oneCell'=true)->(∀(j:Nat)(v:Value),cs[j]? = some v->w.cell? ⟨b,o+j,none⟩=some v)->bp xs (Gw w) b o
 |[],[],_,_,_,_=>trivial|[],_::_,_,h,_,_=>by simp[aj]at h|_::_,[],_,h,_,_=>by simp[aj]at h|x::xs,c::cs,o,h,h1,h2=>by
  refine⟨⟨c,qpp (h2 0 c rfl) (h1 c qH),h.1⟩,aj.cells xs cs (o+1) h.2 (fun v hv=>h1 v (qE _ hv)) (fun j v hj => ?_)⟩
  have:=h2 (j+1) v hj;rw[show o+1+j=o+(j+1) by omega];exact this
structure pb(H:Type) where
 b:DataW H->Nat
 ba:List (DataW H)->Nat
 str:∀s,b (.lit (.string s))=s.length+1
 lit:∀l,1<=b (.lit l)
 nilb:b .nil=1
 sl:∀e r,b (.slice e r)=ba e+ba r+1
 agg:∀l,b (.agg l)=ba l+1
 nil:ba []=0
 cons:∀d r,ba (d::r)=b d+ba r
def pb.app{H:Type}(B:pb H):∀(l r:List (DataW H)),B.ba (l++r)=B.ba l+B.ba r|[],r=>by rw[List.nil_append,B.nil,wO]|d::l,r=>by rw[wK,B.cons,B.cons,B.app l r,Nat.add_assoc]
mutual
def zk{α:Type}(f:α->Nat):Tree α->Nat|.node a l=>f a+qeh f l+2
def qeh{α:Type}(f:α->Nat):List (Tree α)->Nat|[]=>0|t::l=>zk f t+qeh f l
end
def q6y{α:Type}(f:α->Nat):∀l:List (Tree α),qeh f l=(l.map (zk f)).sum|[]=>by simp[qeh]|t::l=>by rw[qeh,q6y f l,List.map_cons,List.sum_cons]
def q6x{α:Type}(f:α->Nat)(a:α)(l:List (Tree α)):zk f (.node a l)=f a+(l.map (zk f)).sum+2:=by
 rw[← q6y];simp only[zk]
def Ty.bk:(τ:Ty)->τ.den->Nat|.str,s=>List.length s+1|.prod a b,x=>a.bk x.1+b.bk x.2|.list a,l=>((show List a.den from l).map a.bk).sum+1|.unit,_=>0|.tree a,t=>zk a.bk t|_,_=>1
section
variable{H:Type}{enc:TypeId×Value->H}{P:Program}{w:World}{base:Nat}{spare:Nat->Bool}{held:Bool}
def q2k(B:pb H)(n m:Nat)(cs:List Value)
  (ih:∀(τ:Ty)(t:TypeId)(cs:List Value)(y:DataW H×List MemPlace),ch P n τ t=true->DataW.trod enc P w base spare held m t cs=some y->∃x:τ.den,τ.bd x/\aj (τ.enc x) (Gw w) cs/\τ.bk x<=B.b y.1) :
  ∀(fs:List Field)(τ:Ty)(o:Nat)(xs:List (DataW H×List MemPlace)),yx P (ch P n) τ fs o=true->xs.length=fs.length->(∀(i:Nat)(f:Field),fs[i]? = some f->DataW.trod enc P w base spare held m f.type ((cs.drop f.offset).take (P.cellsOf f.type))=xs[i]?) ->
   ∃x:τ.den,τ.bd x/\aj (τ.enc x) (Gw w) ((cs.drop o).take τ.sz)/\τ.bk x<=B.ba (xs.map (·.1))
 |[],τ,o,xs,h,_,_=>by cases τ<;>simp[yx]at h
 |[f],τ,o,xs,h,hl,hf=>by
  have h':(f.offset==o&&(P.cellsOf f.type==τ.sz&&ch P n τ f.type))=true:=by cases τ<;>exact h
  simp only[qA,beq_iff_eq]at h'
  match xs,hl with
  |[y],_=>
   have hy:DataW.trod enc P w base spare held m f.type ((cs.drop f.offset).take (P.cellsOf f.type))=some y:=hf 0 f rfl;rw[h'.1,h'.2.1]at hy;obtain⟨x,x1,x2,x3⟩:=ih τ f.type _ y h'.2.2 hy;exact⟨x,x1,x2,by simp only[List.map_cons,List.map_nil,B.cons,B.nil];omega⟩
 |f::g::fs,τ,o,xs,h,hl,hf=>by
  cases τ with
  |prod a b=>
   have h':(f.offset==o&&(P.cellsOf f.type==a.sz&&(ch P n a f.type&&yx P (ch P n) b (g::fs) (o+a.sz))))=true:=h;simp only[qA,beq_iff_eq]at h'
   match xs,hl with
   |y::ys,hl=>
    have hy:DataW.trod enc P w base spare held m f.type ((cs.drop f.offset).take (P.cellsOf f.type))=some y:=hf 0 f rfl;rw[h'.1,h'.2.1]at hy;obtain⟨x1,b1,r1,k1⟩:=ih a f.type _ y h'.2.2.1 hy;obtain⟨x2,b2,r2,k2⟩:=q2k B n m cs ih (g::fs) b (o+a.sz) ys h'.2.2.2 (by simpa using hl) (fun i f' hf'=>hf (i+1) f' hf')
    refine⟨(x1,x2),⟨b1,b2⟩,?_,?_⟩
    ·show aj (a.enc x1++b.enc x2) (Gw w) ((cs.drop o).take (a.sz+b.sz));rw[List.take_add,List.drop_drop];exact aj.app r1 r2
    ·show a.bk x1+b.bk x2<=_;rw[List.map_cons,B.cons];omega
  |_=>simp[yx]at h
def q6z(B:pb H)(n m:Nat)(cs:List Value){z4r:Ty}(t:TypeId)
  (ih:∀(τ:Ty)(t:TypeId)(cs:List Value)(y:DataW H×List MemPlace),ch P n τ t=true->DataW.trod enc P w base spare held m t cs=some y->∃x:τ.den,τ.bd x/\aj (τ.enc x) (Gw w) cs/\τ.bk x<=B.b y.1)
  (ihk:∀(g:TypeId)(cs:List Value)(y:DataW H×List MemPlace),qju P t g=true->DataW.trod enc P w base spare held m g cs=some y->∃l:List (Ty.tree z4r).den,(Ty.list (.tree z4r)).bd l/\aj [.sl (.tree z4r) l] (Gw w) cs/\(l.map (Ty.tree z4r).bk).sum+1<=B.b y.1) :
  ∀(fs:List Field)(τ:Ty)(o:Nat)(xs:List (DataW H×List MemPlace)),vy P (ch P n) t τ fs o=true->xs.length=fs.length->(∀(i:Nat)(f:Field),fs[i]? = some f->DataW.trod enc P w base spare held m f.type ((cs.drop f.offset).take (P.cellsOf f.type))=xs[i]?) ->
   ∃(x:τ.den)(l:List (Ty.tree z4r).den),τ.bd x/\(Ty.list (.tree z4r)).bd l/\aj (τ.enc x++[.sl (.tree z4r) l]) (Gw w) ((cs.drop o).take (τ.sz+1))/\τ.bk x+((l.map (Ty.tree z4r).bk).sum+1)<=B.ba (xs.map (·.1))
 |[],τ,o,xs,h,_,_=>by cases τ<;>simp[vy]at h
 |[f],τ,o,xs,h,_,_=>by cases τ<;>simp[vy]at h
 |[f,g],τ,o,xs,h,hl,hf=>by
  have h':(f.offset==o&&(P.cellsOf f.type==τ.sz&&(ch P n τ f.type&&(g.offset==o+τ.sz&&(P.cellsOf g.type==1&&qju P t g.type)))))=true:=by cases τ<;>exact h
  simp only[qA,beq_iff_eq]at h'
  match xs,hl with
  |[y,z],_=>
   have hy:DataW.trod enc P w base spare held m f.type ((cs.drop f.offset).take (P.cellsOf f.type))=some y:=hf 0 f rfl;have hz:DataW.trod enc P w base spare held m g.type ((cs.drop g.offset).take (P.cellsOf g.type))=some z:=hf 1 g rfl;rw[h'.1,h'.2.1]at hy;rw[h'.2.2.2.1,h'.2.2.2.2.1]at hz;obtain⟨x,x1,x2,x3⟩:=ih τ f.type _ y h'.2.2.1 hy;obtain⟨l,l1,l2,l3⟩:=ihk g.type _ z h'.2.2.2.2.2 hz;refine⟨x,l,x1,l1,?_,by simp only[List.map_cons,List.map_nil,B.cons,B.nil];omega⟩
   rw[List.take_add,List.drop_drop];exact aj.app x2 l2
 |f::g::k::fs,τ,o,xs,h,hl,hf=>by
  cases τ with
  |prod a b=>
   have h':(f.offset==o&&(P.cellsOf f.type==a.sz&&(ch P n a f.type&&vy P (ch P n) t b (g::k::fs) (o+a.sz))))=true:=h;simp only[qA,beq_iff_eq]at h'
   match xs,hl with
   |y::ys,hl=>
    have hy:DataW.trod enc P w base spare held m f.type ((cs.drop f.offset).take (P.cellsOf f.type))=some y:=hf 0 f rfl;rw[h'.1,h'.2.1]at hy;obtain⟨x1,b1,r1,k1⟩:=ih a f.type _ y h'.2.2.1 hy;obtain⟨x2,l,b2,bl,r2,k2⟩:=q6z B n m cs t ih ihk (g::k::fs) b (o+a.sz) ys h'.2.2.2 (by simpa using hl) (fun i f' hf'=>hf (i+1) f' hf')
    refine⟨(x1,x2),l,⟨b1,b2⟩,bl,?_,?_⟩
    ·show aj ((a.enc x1++b.enc x2)++[.sl (.tree z4r) l]) (Gw w) ((cs.drop o).take ((a.sz+b.sz)+1));rw[qS,Nat.add_assoc,List.take_add,List.drop_drop];exact aj.app r1 r2
    ·show(a.bk x1+b.bk x2)+_<=_;rw[List.map_cons,B.cons];omega
  |_=>simp[vy]at h
def zgu(B:pb H):∀(m n:Nat)(τ:Ty)(t:TypeId)(cs:List Value)(y:DataW H×List MemPlace),ch P n τ t=true->DataW.trod enc P w base spare held m t cs=some y->∃x:τ.den,τ.bd x/\aj (τ.enc x) (Gw w) cs/\τ.bk x<=B.b y.1:=by
 intro m
 induction m with
 |zero=>intro n τ t cs y _ h;simp[DataW.trod]at h|succ m ih=>
  intro n τ t cs y ht h
  cases n with
  |zero=>simp[ch]at ht|succ n=>
   cases τ with
   |int k=>
    obtain⟨n,rfl,rfl,hw⟩:=DataW.trod_int (q64 ht) h;exact⟨n,hw,⟨rfl,trivial⟩,B.lit _⟩
   |byte=>
    obtain⟨n,rfl,rfl,hw⟩:=DataW.trod_int (q63 ht) h;have hb:0<=n/\n<=255:=by simp only[Lit.wf,qA,decide_eq_true_eq]at hw;exact hw
    refine⟨UInt8.ofNat n.toNat,trivial,⟨?_,trivial⟩,B.lit _⟩;show Value.int .u8 n = .int .u8 ((UInt8.ofNat n.toNat).toNat:Int);rw[UInt8.toNat_ofNat',Nat.mod_eq_of_lt (by omega)]
    congr 1;omega
   |bool=>
    obtain⟨b,rfl,rfl⟩:=DataW.trod_bool (q62 ht) h;exact⟨b,trivial,⟨rfl,trivial⟩,B.lit _⟩
   |str=>
    obtain⟨s,rfl,rfl,hs⟩:=DataW.trod_string (q65 ht) h;refine⟨s.data.toList,?_,⟨?_,trivial⟩,Nat.le_of_eq (B.str _).symm⟩
    ·show s.data.toList.length<=maxLen;rw[Array.length_toList];exact hs
    ·show Value.string s = .string ⟨s.data.toList.toArray⟩;simp
   |unit=>simp[ch]at ht|tree a=>
    have ht0:=ht;unfold ch at ht;split at ht
    ·rename_i fs hu;simp only[qA,beq_iff_eq]at ht;obtain⟨xs,n',e1,rfl,ac,hxl,hg⟩:=DataW.trod_struct hu h;cases e1
     obtain⟨x,l,hb,hbl,hr,hk⟩:=q6z B n m cs t (fun τ t cs y=>ih n τ t cs y) (fun g cs y hg hy=>by
      have hg':ch P (n+2) (.list (.tree a)) g=true:=by
       unfold qju at hg;unfold ch;split at hg
       ·rename_i e he;have:e=t:=by simpa using hg
        subst this;simp only[qA,beq_iff_eq,decide_eq_true_eq];exact⟨ht.1,by simp[Ty.sz],ht0⟩
       ·cases hg
      exact ih (n+2) (.list (.tree a)) g cs y hg' hy) fs.toList a 0 xs ht.2 (by rw[hxl,Array.length_toList]) (fun i f hf=>hg i f (by rw[← Array.getElem?_toList];exact hf))
     refine⟨.node x l,.mk x l hb hbl.1 hbl.2,?_,?_⟩
     ·rw[List.drop_zero,List.take_of_length_le (by rw[ac,ht.1];exact wF _)]at hr
      exact hr
     ·rw[B.agg];have e:(Ty.tree a).bk (.node x l)=a.bk x+(l.map (Ty.tree a).bk).sum+2:=q6x a.bk x l;omega
    ·cases ht
   |prod a b=>
    unfold ch at ht;split at ht
    ·rename_i fs hu;simp only[qA,beq_iff_eq]at ht;obtain⟨xs,n',e1,rfl,ac,hxl,hg⟩:=DataW.trod_struct hu h;cases e1
     obtain⟨x,hb,hr,hk⟩:=q2k B n m cs (fun τ t cs y=>ih n τ t cs y) fs.toList (.prod a b) 0 xs ht.2 (by rw[hxl,Array.length_toList]) (fun i f hf=>hg i f (by rw[← Array.getElem?_toList];exact hf))
     refine⟨x,hb,?_,by rw[B.agg];omega⟩
     rw[List.drop_zero,List.take_of_length_le (by rw[ac,ht.1];exact wF _)]at hr
     exact hr
    ·cases ht
   |list a=>
    unfold ch at ht;split at ht
    ·rename_i e hu;simp only[qA,beq_iff_eq,decide_eq_true_eq]at ht;obtain⟨hsz,hpos,hte⟩:=ht;rcases DataW.trod_slice hu h with⟨rfl,rfl⟩|⟨ad,len,cap,elems,rest,n',e1,rfl,rfl,_,hlc,hcm,hel,hget,_⟩
     ·exact⟨[],⟨Nat.zero_le _,fun x hx=>by cases hx⟩,⟨⟨none,0,rfl,wF _,.inl rfl⟩,trivial⟩,Nat.le_of_eq (show 0+1=_ by rw[B.nilb])⟩
     ·cases e1
      have each:∀i,i<len->∃(x:a.den)(h:i<elems.length),a.bd x/\ad.spot=none/\a.At (Gw w).imm x ad.block (ad.off+i*a.sz)/\a.bk x<=B.b elems[i].1:=by
       intro i hi;have h1:=hget i hi;rw[List.getElem?_eq_getElem (by omega)]at h1
       obtain⟨cs,hc,hc2⟩:=Option.bind_eq_some_iff.1 h1;obtain⟨x,hb,hr,hk⟩:=ih n a e cs _ hte hc2;unfold World.cells? at hc;split at hc
       ·have hl:=mapM_some_length hc;rw[List.length_range,hsz]at hl;have hcell:∀(j:Nat)(v:Value),cs[j]? = some v->w.cell? ((ad.add (i*P.cellsOf e)).add j)=some v:=by
         intro j v hj;have hj':j<cs.length:=by
          by_cases q:j<cs.length
          ·exact q
          ·rw[List.getElem?_eq_none (by omega)]at hj;cases hj
         have:=mapM_some_get hc j j (by rw[List.getElem?_range (by omega)])
         rw[this,hj]
        have hspot:ad.spot=none:=by
         have g0:=hget 0 (by omega)
         rw[List.getElem?_eq_getElem (by omega)]at g0
         obtain⟨cs0,hc0,_⟩:=Option.bind_eq_some_iff.1 g0;unfold World.cells? at hc0;split at hc0
         ·have lj:=mapM_some_length hc0;rw[List.length_range,hsz]at lj;have:=mapM_some_get hc0 0 0 (by rw[List.getElem?_range (by omega)])
          rw[List.getElem?_eq_getElem (by omega)]at this
          simp only[Nat.zero_mul,Addr.add,if_true]at this;unfold World.cell? at this
          cases hs:ad.spot with
          |none=>rfl|some q=>
           rw[hs]at this;split at this
           ·simp at this
           ·cases this
         ·cases hc0
        refine⟨x,by omega,hb,hspot,?_,hk⟩
        refine pa.1 (aj.cells _ cs _ hr (qh4 a x cs hr) (fun j v hj => ?_))
        have:=hcell j v hj;rw[hsz]at this;have ea:(ad.add (i*a.sz)).add j=⟨ad.block,ad.off+i*a.sz+j,none⟩:=by
         obtain⟨b,o,s⟩:=ad;simp only[]at hspot;subst hspot;unfold Addr.add;by_cases q1:i*a.sz=0
         ·by_cases q2:j=0
          ·simp[q1,q2]
          ·simp[q1,q2]
         ·by_cases q2:j=0
          ·simp[q1,q2]
          ·simp[q1,q2]
        rw[ea]at this;exact this
       ·cases hc
      have lst:∀k,k<=len->∃l:List a.den,l.length=k/\(∀x∈l,a.bd x)/\(∀(j:Nat)(x:a.den),l[j]? = some x->a.At (Gw w).imm x ad.block (ad.off+j*a.sz))/\(l.map a.bk).sum<=B.ba ((elems.take k).map (·.1)):=by
       intro k
       induction k with
       |zero=>intro _;exact⟨[],rfl,fun x hx=>(by cases hx),fun j x hj=>(by simp at hj),by simp⟩
       |succ k ihk=>
        intro hk;obtain⟨l,l1,l2,l3,l4⟩:=ihk (by omega)
        obtain⟨x,hx,x1,_,x2,x3⟩:=each k (by omega)
        refine⟨l++[x],by simp[l1],fun y hy => ?_,fun j y hj => ?_,?_⟩
        ·rcases List.mem_append.1 hy with q|q
         ·exact l2 y q
         ·rw[List.mem_singleton]at q;subst q;exact x1
        ·by_cases q:j<l.length
         ·rw[List.getElem?_append_left q]at hj;exact l3 j y hj
         ·rw[List.getElem?_append_right (by omega)]at hj
          have:j=k:=by
           by_cases q2:j-l.length=0
           ·omega
           ·rw[List.getElem?_eq_none (by simp;omega)]at hj;cases hj
          subst this;rw[l1,Nat.sub_self]at hj;cases hj
          exact x2
        ·rw[List.take_succ_eq_append_getElem hx,List.map_append,List.map_append,B.app,List.sum_append];simp only[List.map_cons,List.map_nil,B.cons,B.nil,List.sum_cons,List.sum_nil];omega
      obtain⟨l,l1,l2,l3,l4⟩:=lst len (wF _);refine⟨l,⟨by show l.length<=maxLen;omega,l2⟩,⟨⟨some ad,cap,by rw[← l1],by omega,?_⟩,trivial⟩,?_⟩
      rotate_left
      ·rw[List.take_of_length_le (by omega)]at l4
       rw[B.sl];show(l.map a.bk).sum+1<=_;omega
      by_cases q:l=[]
      ·exact .inl q
      ·obtain⟨_,_,_,hs,_⟩:=each 0 (by have:=List.length_pos_iff.2 q;omega)
       refine .inr ⟨ad.block,ad.off,?_,l3⟩;cases ad;simp only[]at hs;subst hs;rfl
    ·cases ht
def zgt(B:pb H){r:Reach}{bb n:Nat}{τ:Ty}{t:TypeId}{v:Value}{d:DataW H}{ps:List MemPlace}(ht:ch P n τ t=true)(hv:Value.okWide P w r bb t v)(h:DataW.Trod enc P w base spare held t v d ps) :
  ∃x:τ.den,τ.bd x/\ah (τ.av x) (Gw w) v/\τ.bk x<=B.b d:=by
 obtain⟨m,hm⟩:=h;obtain⟨x,hb,hr,hk⟩:=zgu B m n τ t _ _ ht hm;refine⟨x,hb,?_,hk⟩
 cases n with
 |zero=>simp[ch]at ht|succ n=>
  cases τ with
  |int k=>obtain⟨_,rfl⟩:=okWide_int (q64 ht) hv;exact hr.1
  |byte=>obtain⟨_,rfl⟩:=okWide_int (q63 ht) hv;exact hr.1
  |bool=>obtain⟨_,rfl⟩:=okWide_bool (q62 ht) hv;exact hr.1
  |str=>obtain⟨_,rfl⟩:=okWide_string (q65 ht) hv;exact hr.1
  |unit=>simp[ch]at ht|tree a=>
   unfold ch at ht;split at ht
   ·rename_i fs hu;obtain⟨cs,rfl,_⟩:=okWide_struct hu hv;exact⟨cs,rfl,hr⟩
   ·cases ht
  |prod a b=>
   unfold ch at ht;split at ht
   ·rename_i fs hu;obtain⟨cs,rfl,_⟩:=okWide_struct hu hv;exact⟨cs,rfl,hr⟩
   ·cases ht
  |list a=>
   unfold ch at ht;split at ht
   ·rename_i e hu;obtain⟨_,_,_,rfl⟩:=okWide_slice hu hv;exact hr.1
   ·cases ht
end
end Go.Sym
namespace Go.Sym
open Go.ChangeShapes Go.WideShapes Go.ChangeAt Go.RowKit
variable[LC]
def vz(P:Program)(n:Nat):List Ty->List TypeId->Bool|[],[]=>true|τ::τs,t::ts=>ch P n τ t&&vz P n τs ts|_,_=>false
def bds:(τs:List Ty)->Pts.den (τs.map .h)->Prop|[],_=>True|τ::τs,x=>τ.bd x.1/\bds τs x.2
section
variable{H:Type}{enc:TypeId×Value->H}{P:Program}{w:World}{base:Nat}{spare:Nat->Bool}{held:Bool}
def bks:(τs:List Ty)->Pts.den (τs.map .h)->Nat|[],_=>0|τ::τs,x=>τ.bk x.1+bks τs x.2
def q4k(B:pb H){r:Reach}{bb n:Nat}:∀(τs:List Ty)(ts:List TypeId)(vs:List Value)(ds:List (DataW H))(ps:List MemPlace),vz P n τs ts=true ->
  (∀(j:Nat) t v,ts[j]? = some t->vs[j]? = some v->Value.okWide P w r bb t v)->DataW.TrodAll enc P w base spare held ts vs ds ps ->
  ∃x:Pts.den (τs.map .h),bds τs x/\aj (Pts.put (τs.map .h) x) (Gw w) vs/\bks τs x<=B.ba ds
 |[],[],vs,ds,ps,_,_,h=>by
  obtain⟨rfl,rfl,_⟩:=trodAll_nil h;exact⟨(),trivial,trivial,Nat.zero_le _⟩
 |τ::τs,t::ts,vs,ds,ps,h1,h2,h=>by
  obtain⟨v,vs',d,ds',p,q,rfl,rfl,rfl,hd,hr⟩:=trodAll_cons h;simp only[vz,qA]at h1;obtain⟨x,xb,xr,xk⟩:=zgt B h1.1 (h2 0 t v rfl rfl) hd;obtain⟨y,yb,yr,yk⟩:=q4k B τs ts vs' ds' q h1.2 (fun j t v ht hv=>h2 (j+1) t v ht hv) hr
  exact⟨(x,y),⟨xb,yb⟩,⟨xr,yr⟩,by rw[B.cons];show τ.bk x+bks τs y<=_;omega⟩
 |[],_::_,_,_,_,h,_,_=>by simp[vz]at h|_::_,[],_,_,_,h,_,_=>by simp[vz]at h
def q6f{W W':World}(laid:laidOutB P=true)(hb:Below W.heap.size W W'):∀(ts:List TypeId)(vs:List Value)(ds:List (DataW H))(ps:List MemPlace),
  ts.all (fun t=>P.readableRec t&&decide (t<P.types.size))=true->DataW.TrodAll enc P W 0 (fun _=>true) true ts vs ds ps->DataW.TrodAll enc P W' 0 (fun b=>decide (b<W.heap.size)) true ts vs ds ps
 |[],vs,ds,ps,_,h=>by
  obtain⟨rfl,rfl,rfl⟩:=trodAll_nil h;exact trodAll_mk0
 |t::ts,vs,ds,ps,h1,h=>by
  obtain⟨v,vs',d,ds',p,q,rfl,rfl,rfl,hd,hr⟩:=trodAll_cons h;simp only[List.all_cons,qA,decide_eq_true_eq]at h1;have lt:∀x∈p,x.block<W.heap.size:=by obtain⟨m,hm⟩:=hd;exact DataW.trod_lt m _ _ _ hm
  exact trodAll_cons_mk (Below.trod laid h1.1.1 h1.1.2 hd hb lt) (q6f laid hb ts vs' ds' q h1.2 hr)
end
def zkv{P:Program}{f:FuncId}{xs:List AV}(h:db P f xs [] (.bool true) [])(vs:List Value)(w:World)(ht:LC.tab (Gw w).imm w)(hr:aj xs (Gw w) vs) :
  Calls P f vs.toArray w fun e w'=>e = .returned (.bool true)/\Below w.heap.size w w':=by
 refine(h w (Gw w) vs (q94 w ht) hr).mono ?_;rintro e w' ⟨v,G,rfl,hfin,hrep⟩
 have hv:v = .bool true:=hrep;subst hv;refine⟨rfl,hfin.bel.os,hfin.bel.tape,hfin.bel.output,hfin.bel.size,fun k hk=>hfin.bel.block k hk ?_⟩
 rintro⟨n,bx,hl,_⟩
 cases hl
def zfw{H:Type}{enc:TypeId×Value->H}{C:Checked}{os:Os}{f:FuncId}{fn:Func}{s:ChangeSpec}{so:OpenSpec}{F:Stop.Interp}{conds:List PathCond}{t:TypeId}{n:Nat}(τs:List Ty)(l:List (String×DataW Unit))(B:pb H)(M:Nat)
  (vp:(H:Type)->List (DataW H)->Bool) (hso:so={ OpenSpec.ofChange s with cond:=some vp }) (hsm:∀ds:List (DataW H),vp H ds=true->B.ba ds<=M)
  (own:ownKnob C.prog.godebug=none) (laid:laidOutB C.prog=true) (started:os.Started) (noInit:C.prog.inits.idxOf? f=none) (hfn:C.prog.funcs[f]? = some fn)
  (witness:∃(w:World)(tape:Tape)(i:Input),w.os=os/\(w.forCall tape i).Shaped C.prog/\i.vars=[]/\Input.okWide C.prog (w.forCall tape i) .any w.heap.size f i /\
   so.preRow enc C.prog fn conds false l (w.forCall tape i).memory i.args/\({}:Assume).holds C.prog (lone (Frame.enter C.prog f i.args .normal) [] (w.forCall tape i)))
  (hvars:s.vars=[]) (hspec:∀ds:List (DataW H),ds.length=fn.params.size->s.fn H ds={ results:=[.lit (.bool true)],args:=ds })
  (htys:vz C.prog n τs fn.params.toList=true) (hread:fn.params.toList.all (fun t=>C.prog.readableRec t&&decide (t<C.prog.types.size))=true)
  (hres:fn.resultTypes=#[t]) (hbool:C.prog.underlying t=some .bool)
  (htab:∀W:World,laidMetH C.prog l W->W.ShapedOpen C.prog->LC.tab (Gw W).imm W)
  (hcall:∀x:Pts.den (τs.map .h),bds τs x->bks τs x<=M->db C.prog f (Pts.put (τs.map .h) x) [] (.bool true) []) :
  ReturnsInHanded {} C os f .any (so.preRow enc C.prog fn conds false l) ((so.at F).post enc C.prog fn false true false false):=by
 subst hso;refine returnsInHanded_of_row own started noInit hfn witness ?_;intro W base args ds gs before hval hW _ hcond _ hlaid hsh _;have hW':=hW;obtain⟨p,q,hA,hV,rfl,_,_⟩:=hW;rw[show({ OpenSpec.ofChange s with cond:=some vp }:OpenSpec).vars=[] from hvars]at hV
 obtain⟨rfl,rfl⟩:=trodVars_none hV;have hk:=hsm _ (hcond vp rfl);rw[List.append_nil]at hk;have hl:ds.length=fn.params.size:=by
  have key:∀(ts:List TypeId)(vs:List Value)(ds:List (DataW H))(ps:List MemPlace),DataW.TrodAll enc C.prog W 0 (fun _=>true) true ts vs ds ps->ds.length=ts.length:=by
   intro ts
   induction ts with
   |nil=>intro vs ds ps h;obtain⟨_,rfl,_⟩:=trodAll_nil h;rfl
   |cons t ts ih=>
    intro vs ds ps h;obtain⟨v,vs',d,ds',p,q,_,rfl,_,_,hr⟩:=trodAll_cons h;rw[qL,qL,ih _ _ _ hr]
  rw[key _ _ _ _ hA,Array.length_toList]
 obtain⟨x,xb,xr,xk⟩:=q4k B τs fn.params.toList args.toList ds p htys (fun j t v ht hv=>hval j t v (by rw[← Array.getElem?_toList];exact ht) (by rw[← Array.getElem?_toList];exact hv)) hA
 have hc:=zkv (hcall x xb (Nat.le_trans xk hk)) args.toList W (htab W hlaid hsh) xr;rw[Array.toArray_toList]at hc;refine hc.mono fun e W'⟨he,bel⟩ => ?_
 subst he;refine⟨_,rfl,ds,[],p++[],[],p,[],hW',?_⟩;show DataW.TrodAll _ _ _ _ _ _ _ _ _ _/\_;rw[List.append_nil,show((OpenSpec.at { OpenSpec.ofChange s with cond:=some vp } F).fn H ds)=s.fn H ds from rfl,hspec ds hl,hres]
 exact⟨trodAll_mk1 (shut_bool hbool _),q6f laid bel _ _ _ _ hread hA,(by rw[show((OpenSpec.at { OpenSpec.ofChange s with cond:=some vp } F).vars)=[] from hvars];rfl),bel.frame _,fun h=>by cases h⟩
def u7(a b:Int):Bool:=decide (a=b)
def yl:(τ:Ty)->τ.den->DataW Unit->Bool|.int k,x,.lit (.int k' n)=>decide (k'=k)&&u7 n x|.byte,x,.lit (.int k' n)=>decide (k' = .u8)&&u7 n x.toNat|.prod .byte .byte,x,.agg [.lit (.int _ a),.lit (.int _ b)]=>u7 a x.1.toNat&&u7 b x.2.toNat|_,_,_=>false
def ym(τ:Ty):List τ.den->List (DataW Unit)->Bool|[],[]=>true|x::l,d::ds=>yl τ x d&&ym τ l ds|_,_=>false
def qiv(P:Program)(t:TypeId):Bool:=match P.underlying t with|some (.int .u8)=>Nat.beq (P.cellsOf t) 1|_=>false
def qh2(P:Program)(t:TypeId):Ty->Bool
 |.int k=>match P.underlying t with|some (.int k')=>decide (k'=k)|_=>false
 |.byte=>match P.underlying t with|some (.int .u8)=>true|_=>false
 |.prod .byte .byte=>match P.underlying t with
  |some (.struct fs)=>match fs.toList with|[f,g]=>Nat.beq f.offset 0&&Nat.beq g.offset 1&&qiv P f.type&&qiv P g.type&&Nat.beq (P.cellsOf t) 2|_=>false
  |_=>false
 |_=>false
section
variable{P:Program}{w:World}{base:Nat}{sp:Nat->Bool}
def zd4{m:Nat}{τ:Ty}{t:TypeId}{cs:List Value}{y:DataW Unit×List MemPlace}{x:τ.den}(ht:qh2 P t τ=true)(h:DataW.trod (fun _=>()) P w base sp false m t cs=some y)(hx:yl τ x y.1=true):aj (τ.enc x) (Gw w) cs/\∀v∈cs,v.oneCell'=true:=by
 unfold qh2 at ht;split at ht
 ·rename_i k;split at ht
  ·rename_i k' hu;have hk:k'=k:=of_decide_eq_true ht;subst hk;obtain⟨n,rfl,rfl,_⟩:=DataW.trod_int hu h;simp only[yl,u7,qA,decide_eq_true_eq]at hx;obtain⟨_,rfl⟩:=hx;exact⟨⟨rfl,trivial⟩,fun v hv=>by rw[List.mem_singleton]at hv;subst hv;rfl⟩
  ·cases ht
 ·split at ht
  ·rename_i hu;obtain⟨n,rfl,rfl,_⟩:=DataW.trod_int hu h;simp only[yl,u7,qA,decide_eq_true_eq]at hx;obtain⟨_,rfl⟩:=hx;exact⟨⟨rfl,trivial⟩,fun v hv=>by rw[List.mem_singleton]at hv;subst hv;rfl⟩
  ·cases ht
 ·split at ht
  ·rename_i fs hu;split at ht
   ·rename_i f g hfs;simp only[qA]at ht;obtain⟨⟨⟨⟨o1,o2⟩,u1⟩,u2⟩,c2⟩:=ht;have o1:=qN o1;have o2:=qN o2;have c2:=qN c2;have key:∀t,qiv P t=true->P.underlying t=some (.int .u8)/\P.cellsOf t=1:=fun t h=>by
     unfold qiv at h;split at h
     ·rename_i hu;exact⟨hu,qN h⟩
     ·cases h
    obtain⟨k1,s1⟩:=key _ u1;obtain⟨k2,s2⟩:=key _ u2;obtain⟨xs,n,rfl,rfl,hl,hxl,hg⟩:=DataW.trod_struct hu h;have g0:=hg 0 f (by rw[← Array.getElem?_toList,hfs];rfl)
    have g1:=hg 1 g (by rw[← Array.getElem?_toList,hfs];rfl)
    have hsz:fs.size=2:=by rw[← Array.length_toList,hfs];rfl
    rw[hsz]at hxl;rw[c2]at hl
    match cs,hl with
    |[a,b],_=>
     match xs,hxl with
     |[p,q],_=>
      rw[o1,s1]at g0;rw[o2,s2]at g1;obtain⟨n1,e1,rfl,_⟩:=DataW.trod_int k1 g0;obtain⟨n2,e2,rfl,_⟩:=DataW.trod_int k2 g1;simp only[List.drop_zero,List.take_succ_cons,List.take_zero,List.cons.injEq,and_true]at e1;simp only[List.drop_succ_cons,List.drop_zero,List.take_succ_cons,List.take_zero,List.cons.injEq,and_true]at e2;subst e1 e2;simp only[List.map_cons,List.map_nil,yl,u7,qA,decide_eq_true_eq]at hx;obtain⟨rfl,rfl⟩:=hx;exact⟨⟨rfl,rfl,trivial⟩,fun v hv=>by
       rcases List.mem_cons.1 hv with rfl|hv
       ·rfl
       ·rw[List.mem_singleton]at hv;subst hv;rfl⟩
   ·cases ht
  ·cases ht
 ·cases ht
def q1q{τ:Ty}:∀{l:List τ.den}{ds:List (DataW Unit)},ym τ l ds=true->l.length=ds.length/\∀(j:Nat)(x:τ.den),l[j]? = some x->∃d,ds[j]? = some d/\yl τ x d=true
 |[],[],_=>⟨rfl,fun j x h=>by simp at h⟩
 |[],_::_,h=>by simp[ym]at h|_::_,[],h=>by simp[ym]at h|y::l,d::ds,h=>by
  simp only[ym,qA]at h;obtain⟨i1,i2⟩:=q1q h.2;refine⟨by simp[i1],fun j x hx => ?_⟩
  match j with|0=>simp only[List.getElem?_cons_zero,qI]at hx;subst hx;exact⟨d,rfl,h.1⟩|j+1=>exact i2 j x hx
def qjp(P:Program)(g:Nat)(τ:Ty)(l:List τ.den)(n:Nat)(d:DataW Unit):Bool:=match(P.globals[g]?).map (·.type) with
 |some t=>match P.underlying t,d with|some (.array _m E),.agg ds=>qh2 P E τ&&(Nat.beq (P.cellsOf E) τ.sz&&(Nat.beq (P.cellsOf t) n&&ym τ l ds))|_,_=>false
 |none=>false
def zie{g:Nat}{τ:Ty}{l:List τ.den}{n:Nat}{d:DataW Unit}(h:qjp P g τ l n d=true){t:TypeId}{cs:Array Value}{fuel:Nat}{p:List MemPlace}(ht:(P.globals[g]?).map (·.type)=some t)
  (hc:∃u fr,w.heap[g]? = some (.cells cs u fr)) (hd:DataW.trod (fun _=>()) P w base sp false fuel t cs.toList=some (d,p)) :
  cs.size=n/\∀(j:Nat)(x:τ.den),l[j]? = some x->τ.At (Gw w).imm x g (j*τ.sz):=by
 unfold qjp at h;rw[ht]at h;simp only at h;split at h
 ·rename_i m E ds hu;simp only[qA]at h;obtain⟨h1,h2,h3,h4⟩:=h;have h2:=qN h2;have h3:=qN h3;obtain⟨xs,m',rfl,e,hl,hxl,hg⟩:=DataW.trod_array hu hd;simp only[qP,DataW.agg.injEq]at e;obtain⟨rfl,rfl⟩:=e;obtain⟨dl,dg⟩:=q1q h4;refine⟨by rw[← Array.length_toList,hl,h3],fun j x hx => ?_⟩
  obtain⟨d,hd1,hd2⟩:=dg j x hx;rw[List.getElem?_map]at hd1;obtain⟨y,hy,rfl⟩:=Option.map_eq_some_iff.1 hd1;have hj:j<m:=by rw[← hxl];exact(List.getElem?_eq_some_iff.1 hy).1
  have:=hg j hj;rw[hy]at this;obtain⟨r1,r2⟩:=zd4 h1 this hd2;refine pa.1 (aj.cells _ _ _ r1 r2 fun i v hv => ?_)
  rw[h2,List.getElem?_take]at hv;split at hv
  ·rw[List.getElem?_drop]at hv;obtain⟨u,fr,hh⟩:=hc;simp only[World.cell?,hh];rw[← Array.getElem?_toList];exact hv
  ·cases hv
 ·cases h
def qr4{laid:List (String×DataW Unit)}{n:String}{d:DataW Unit}:∀{l:List (String×DataW Unit)}{ps:List MemPlace},DataW.LaidVars P w l ps->(n,d)∈l ->
  ∃g t cs fuel p,P.globalNamed n=some g/\(P.globals[g]?).map (·.type)=some t/\(∃u fr,w.heap[g]? = some (.cells cs u fr))/\DataW.trod (fun _=>()) P w 0 (fun _=>true) false fuel t cs.toList=some (d,p)
 |[],_,_,h=>by cases h
 |(n',d')::r,ps,hl,h=>by
  obtain⟨g,t,cs,fuel,p,q,h1,h2,h3,h4,h5,_⟩:=hl;rcases List.mem_cons.1 h with e|h
  ·simp only[qP]at e;obtain⟨rfl,rfl⟩:=e;refine⟨g,t,cs,fuel,p,h1,h2,?_,h4⟩;unfold World.var? at h3;rw[h1,qB]at h3;split at h3
   ·rename_i c u fr hh;have:=qJ h3;subst this;exact⟨u,fr,hh⟩
   ·cases h3
  ·exact qr4 (laid:=laid) h5 h
end
def qtq(P:Program)(laid:List (String×DataW Unit))(e:Nat×Nat):Bool:=match LC.glob e.1 with
 |some ⟨τ,l⟩=>Nat.blt 0 l.length&&laid.any fun x=>match P.globalNamed x.1 with|some g=>Nat.beq g e.1&&qjp P e.1 τ l e.2 x.2|none=>false
 |none=>false
def ze3(P:Program)(laid:List (String×DataW Unit))(g:Nat):Bool:=laid.any fun x=>match P.globalNamed x.1 with
 | some g'=>Nat.beq g' g&&(match(P.globals[g]?).map (·.type) with
  |some t=>match P.underlying t,x.2 with|some (.interface _),.iface _ _=>true|_,_=>false
  | none=>false)
 |none=>false
def zew{P:Program}{laid:List (String×DataW Unit)}{W:World}(h:laidMetH P laid W)(hh:(laid.all fun x=>x.2.handleName?.isNone)=true)
  (hg:∀g τ l,LC.glob g=some ⟨τ,l⟩->∃n,(g,n)∈LC.sizes) (hs:LC.sizes.all (qtq P laid)=true) (hi:LC.ifs.all (ze3 P laid)=true) (hn:∀g∈LC.ints,∃k,W.cell? ⟨g,0,none⟩=some (.int .i64 k)):LC.tab (Gw W).imm W:=by
 rw[MakeChecks.laidMetH_plain _ _ _ hh]at h;obtain⟨ps,hl,_⟩:=h;have key:∀e∈LC.sizes,∃τ l,LC.glob e.1=some ⟨τ,l⟩/\0<l.length/\∃(cs:Array Value)(u:TypeId)(fr:Nat×Nat),W.heap[e.1]? = some (.cells cs u fr)/\cs.size=e.2/\∀(j:Nat)(x:τ.den),l[j]? = some x->τ.At (Gw W).imm x e.1 (j*τ.sz):=fun e he=>by
  have h1:=List.all_eq_true.1 hs e he;unfold qtq at h1;split at h1
  ·rename_i τ l hgl;rw[qA]at h1;obtain⟨x,hx,h2⟩:=List.any_eq_true.1 h1.2;split at h2
   ·rename_i g hgn;rw[qA]at h2;have:=qN h2.1;subst this;obtain⟨g',t,cs,fuel,p,k1,k2,⟨u,fr,k3⟩,k4⟩:=qr4 (laid:=laid) hl (n:=x.1) (d:=x.2) hx;rw[hgn]at k1;have:=qJ k1;subst this;obtain⟨r1,r2⟩:=zie h2.2 k2 ⟨u,fr,k3⟩ k4;exact⟨τ,l,hgl,Nat.le_of_ble_eq_true h1.1,cs,u,fr,k3,r1,r2⟩
   ·cases h2
  ·cases h1
 refine⟨fun g τ l hgl j x hx => ?_,fun g hgi => ?_,fun g hgi => ?_,fun e he => ?_⟩
 ·obtain⟨n,hn⟩:=hg g τ l hgl;obtain⟨τ',l',h1,_,cs,u,fr,_,_,h5⟩:=key _ hn;rw[hgl]at h1;cases h1
  exact h5 j x hx
 ·obtain⟨k,hk⟩:=hn g hgi;exact⟨k,qpp hk rfl⟩
 ·have h1:=List.all_eq_true.1 hi g hgi;obtain⟨x,hx,h2⟩:=List.any_eq_true.1 h1;split at h2
  ·rename_i g' hgn;rw[qA]at h2;have:=qN h2.1;subst this;obtain⟨g2,t,cs,fuel,p,k1,k2,⟨u,fr,k3⟩,k4⟩:=qr4 (laid:=laid) hl (n:=x.1) (d:=x.2) hx;rw[hgn]at k1;have:=qJ k1;subst this;have h3:=h2.2;rw[k2]at h3;simp only at h3;split at h3
   ·rename_i ms nm d hu hd;rw[hd]at k4;obtain⟨_,u',v,hcs,_,_⟩:=iface_of_trod hu k4;refine⟨u',v,qpp ?_ rfl⟩;simp only[World.cell?,k3];rw[← Array.getElem?_toList,hcs];rfl
   ·cases h3
  ·cases h2
 ·obtain⟨τ,l,h1,h2,cs,u,fr,h3,h4,h5⟩:=key e he;refine⟨?_,cs,u,fr,h3,h4⟩;have h6:=h5 0 l[0] (by simp[h2])
  have:∃o v,(Gw W).imm e.1 o=some v:=by
   have hx:=List.all_eq_true.1 hs e he;unfold qtq at hx;rw[h1]at hx;simp only[qA]at hx;obtain⟨x,_,hx⟩:=List.any_eq_true.1 hx.2;split at hx
   ·rw[qA]at hx;have hx:=hx.2;unfold qjp at hx;split at hx
    ·split at hx
     ·simp only[qA]at hx;have hx:=hx.1;unfold qh2 at hx;split at hx
      ·exact⟨_,_,h6⟩
      ·exact⟨_,_,h6⟩
      ·exact⟨_,_,h6.1⟩
      ·cases hx
     ·cases hx
    ·cases hx
   ·cases hx
  exact this
section
variable{H:Type}{enc:TypeId×Value->H}
def zky{C:Checked}{os:Os}{f:FuncId}{fn:Func}{s:OpenSpec}{conds:List PathCond}{apart:Bool}{laid:List (String×DataW Unit)}(modest:Bool)(w0:World)(args:Array Value)(hos:w0.os=os)
  (hsh:(w0.forCall (fun _ _=>0) ⟨#[],args,[]⟩).Shaped C.prog) (hok:Input.okWideB C.prog (w0.forCall (fun _ _=>0) ⟨#[],args,[]⟩) f ⟨#[],args,[]⟩=true)
  (hrow:s.preRow enc C.prog fn conds apart laid (w0.forCall (fun _ _=>0) ⟨#[],args,[]⟩).memory args) :
  ∃(w:World)(tape:Tape)(i:Input),w.os=os/\(w.forCall tape i).Shaped C.prog/\i.vars=[]/\Input.okWide C.prog (w.forCall tape i) .any w.heap.size f i /\
   s.preRow enc C.prog fn conds apart laid (w.forCall tape i).memory i.args/\({ modest:=modest }:Assume).holds C.prog (lone (Frame.enter C.prog f i.args .normal) [] (w.forCall tape i)):=
 ⟨w0,fun _ _=>0,⟨#[],args,[]⟩,hos,hsh,(Input.okWide_of_okWideB (base:=0) hok).1,(Input.okWide_of_okWideB hok).2,hrow,by
  simp only[Assume.holds];exact⟨by simp,by simp,fun _=>Modest.zero,by simp,by simp⟩⟩
end
end Go.Sym
namespace Go.Sym
set_option linter.unusedVariables false
abbrev wU : Type := Tree (List (Bs × Bs) × Bs)
abbrev wV : Type := List (Bs × Bs)
section
variable(fu:Nat)
def qed:List UInt8:=[240,240,240,240,240,240,240,240,240,240,240,240,240,240,240,240,240,240,240,240,240,240,240,240,240,240,240,240,240,240,240,240,240,240,240,240,240,240,240,240,240,240,240,240,240,240,240,240,240,240,240,240,240,240,240,240,240,240,240,240,240,240,240,240,240,240,240,240,240,240,240,240,240,240,240,240,240,240,240,240,240,240,240,240,240,240,240,240,240,240,240,240,240,240,240,240,240,240,240,240,240,240,240,240,240,240,240,240,240,240,240,240,240,240,240,240,240,240,240,240,240,240,240,240,240,240,240,240,241,241,241,241,241,241,241,241,241,241,241,241,241,241,241,241,241,241,241,241,241,241,241,241,241,241,241,241,241,241,241,241,241,241,241,241,241,241,241,241,241,241,241,241,241,241,241,241,241,241,241,241,241,241,241,241,241,241,241,241,241,241,241,241,241,241,2,2,2,2,2,2,2,2,2,2,2,2,2,2,2,2,2,2,2,2,2,2,2,2,2,2,2,2,2,2,19,3,3,3,3,3,3,3,3,3,3,3,3,35,3,3,52,4,4,4,68,241,241,241,241,241,241,241,241,241,241,241]
def qee:List (UInt8×UInt8):=[(128,191),(160,191),(128,159),(144,191),(128,143),(0,0),(0,0),(0,0),(0,0),(0,0),(0,0),(0,0),(0,0),(0,0),(0,0),(0,0)]
def zjr:List Int:=[1,10,100,1000,10000,100000,1000000,10000000,100000000,1000000000,10000000000,100000000000,1000000000000,10000000000000,100000000000000,1000000000000000,10000000000000000,100000000000000000,1000000000000000000,10000000000000000000]
abbrev zad:=wU
def w9(a:Tree (wV×Bs)):Option zad:=some (Tree.node a.val a.kids)
def bt(b:Int)(a:Int):Option ((Int×Int)):=some (b,a)
abbrev qzl:=((Int×Int)×Bool) ⊕ ((Int×Int)×Bool)
def qnu(e:Int)(g:List (Bs×Bs))(h:Bs)(f:List wU)(c:Int)(b:Int×Int)(a:Bool):Option qzl:=bif decide (40<=e) then(bt 2 (-1)).bind fun d=>some (.inl (d,a)) else bif a then some (.inr (b,true)) else some (.inr (b,decide (8<c)))
abbrev qg3:=(Int×(Int×Int)×Bool) ⊕ (Int×(Int×Int)×Bool)
abbrev x3T:=wU->Int->Int->(Int×Int)->Bool->Option qg3
abbrev qvs:=Int->(List wU)->Int->Int->Int->(Int×Int)->Bool->Option qg3
def qnx(e:x3T)(fu:Nat)(k:qvs):qvs:=fun g b c a j i f=>bif decide (a<c) then(ap b a).bind fun h=>(e (Tree.node h.val h.kids) (af (g+1)) j i f).bind fun l=>a7 l (fun m=>some (.inl m)) (fun d=>k g b c (af (a+1)) d.1 d.2.1 d.2.2) else some (.inr (j,(i,f)))
def qbo(a:x3T)(fu:Nat):Nat->qvs|0=>fun _ _ _ _ _ _ _=>none|n+1=>qnx a fu (qbo a fu n)
def qf7(b:x3T)(fu:Nat)(a:Tree (wV×Bs))(e:Int)(c:Int)(h:Int×Int)(f:Bool):Option qg3:=(qnu c a.val.1 a.val.2 a.kids e h f).bind fun i=>a7 i (fun g=>some (.inl (c,g))) (fun d=>qbo b fu fu e a.kids (a.kids.length:Int) 0 (af (c+1)) d.1 d.2)
def xa(fu:Nat):Nat->x3T|0=>fun _ _ _ _ _=>none|n+1=>qf7 (xa fu n) fu
def qyk(e:Tree (wV×Bs))(c:Int)(d:Int)(b:Int×Int)(a:Bool):Option qg3:=xa fu fu e c d b a
abbrev zae:=(wU×(Int×Int)×Bool) ⊕ (wU×(Int×Int)×Bool)
def qf6(a:Tree (wV×Bs))(e:Int×Int)(f:Bool):Option zae:=(qyk fu (Tree.node a.val a.kids) 0 0 e f).bind fun d=>a7 d (fun c=>some (.inl ((Tree.node a.val a.kids),c.2))) (fun b=>some (.inr ((Tree.node a.val a.kids),b.2)))
def qfm(a:UInt8):Option Bool:=bif decide (33<=a) then bif decide (a<=126) then some (a != 58) else some false else some false
abbrev qv4:=Bs->Int->Int->Option Bool
def qmg(fu:Nat)(d:qv4):qv4:=fun c b a=>bif decide (a<b) then(ap c a).bind fun f=>(qfm f).bind fun e=>bif !e then some false else d c b (af (a+1)) else some true
def qao(fu:Nat):Nat->qv4|0=>fun _ _ _=>none|n+1=>qmg fu (qao fu n)
def qmf(a:Bs):Option Bool:=qao fu fu a (a.length:Int) 0
def qfl(a:Bs):Option Bool:=bif !(a==([]:Bs)) then bif decide ((a.length:Int)<=60) then(qmf fu a).bind fun b=>some b else some false else some false
def qot(a:Int):Option Bool:=some (decide (8<a))
abbrev qwi:=Bs->Int->(List Bool)->Option ((List Bool)×Bool)
def qys(fu:Nat)(e:qwi):qwi:=fun d b a=>bif decide (b<(d.length:Int)) then(ap d b).bind fun c=>bif decide (128<=c) then bif decide (a.length=256) then bif decide (a.length=a.length)&&decide (a.length=256) then bif decide (a.length=256)&&(true&&true) then some (a,false) else none else none else none else(a[c.toNat]?).bind fun f=>e d (af (b+1)) (List.set a c.toNat true) else bif decide (a.length=256) then bif decide (a.length=a.length)&&decide (a.length=256) then bif decide (a.length=256)&&(true&&true) then some (a,true) else none else none else none
def qos(fu:Nat):Nat->qwi|0=>fun _ _ _=>none|n+1=>qys fu (qos fu n)
def qb2(a:Bs):Option ((List Bool)×Bool):=qos fu fu a 0 (List.replicate 256 false)
def qna(b:Bs)(a:UInt8):Option Int:=(qp b a).bind fun c=>some c
def ud(b:Bs)(a:UInt8):Option Int:=(qna b a).bind fun c=>some c
def qgx(a:Int):Option Bool:=bif decide (0<=a) then bif decide (a<55296) then some true else bif decide (57343<a) then bif decide (a<=1114111) then some true else some false else some false else bif decide (57343<a) then bif decide (a<=1114111) then some true else some false else some false
abbrev quv:=Bs->Nat->Option Int
abbrev quw:=Bs->Bs->Int->Int->Int->Option Int
abbrev zpg:=Bs->Bs->Int->Int->Option Int
abbrev z6:=Bs->Bs->Int->Int->Option Int
abbrev zpf:=Bs->Int->Bool->Option Int
def qoj(fu:Nat)(c:quv):quv:=fun b a=>bif Nat.blt a (b.length) then bif(((dt b a).1:Nat):Int)==65533 then some ((a:Nat):Int) else c b (a+(dt b a).2) else some (-1)
def qb0(fu:Nat):Nat->quv|0=>fun _ _=>none|n+1=>qoj fu (qb0 fu n)
def qyr(fu:Nat)(i:z6)(g:quw):quw:=fun e d b c a=>bif decide (a<(d.length:Int)) then(ap e (af (c-a))).bind fun f=>(ap d (af (b-a))).bind fun h=>bif f != h then none else g e d b c (af (a+1)) else some (af (c-b))
def qom(fu:Nat)(a:z6):Nat->quw|0=>fun _ _ _ _ _=>none|n+1=>qyr fu a (qom fu a n)
def qol(d:z6):zpg:=fun c b e a=>qom fu d fu c b e a 1
def qok(f:z6):z6:=fun b c d a=>bif decide (a<(b.length:Int)) then(ap b a).bind fun g=>(ap c d).bind fun i=>bif g != i then bif decide (0<=af (a+1)/\af (a+1)<=(b.length:Int)) then(ap c d).bind fun h=>(ud (List.drop (af (a+1)).toNat b) h).bind fun e=>bif decide (e<0) then some (-1) else qol fu f b c d (af (a+(af (e+1)))) else none else qol fu f b c d a else some (-1)
def qgo(fu:Nat):Nat->z6|0=>fun _ _ _ _=>none|n+1=>qok fu (qgo fu n)
def qbz:zpf:=fun c a b=>bif b then(ud c (du a)).bind fun e=>some e else bif a==65533 then qb0 fu fu c 0 else(qgx a).bind fun d=>bif !d then some (-1) else qgo fu fu c (gy a) (af ((List.length (gy a):Int)-1)) (af ((List.length (gy a):Int)-1))
def qy(b:Bs)(a:Int):Option Int:=bif decide (0<=a) then qbz fu b a (decide (a<128)) else qbz fu b a false
def xe(b:UInt8)(a:List Bool):Option (Bool×(List Bool)):=(a[b.toNat]?).bind fun c=>some (c,a)
abbrev zrc:=Bs->Int->Option Int
abbrev qu2:=Bs->Int->(List Bool)->Option Int
abbrev qu3:=Bs->Bs->Nat->Option Int
abbrev zrd:=Bs->Bs->Option Int
def qoi:zrc:=fun a b=>(qy fu a b).bind fun c=>some c
def qog(fu:Nat)(e:qu2):qu2:=fun c a b=>bif decide (a<(c.length:Int)) then(ap c a).bind fun f=>(xe f b).bind fun d=>bif d.1 then some a else e c (af (a+1)) d.2 else some (-1)
def qbx(fu:Nat):Nat->qu2|0=>fun _ _ _=>none|n+1=>qog fu (qbx fu n)
def qoh(e:qu3):qu3:=fun c b a=>bif Nat.blt a (b.length) then(qy fu c (((dt b a).1:Nat):Int)).bind fun d=>bif decide (0<=d) then some ((a:Nat):Int) else e c b (a+(dt b a).2) else some (-1)
def qby(fu:Nat):Nat->qu3|0=>fun _ _ _=>none|n+1=>qoh fu (qby fu n)
def qgn:zrd:=fun a b=>qby fu fu b a 0
def qgm(b:Bs)(a:Bs):Option Int:=bif a==([]:Bs) then some (-1) else bif(a.length:Int)==1 then(ap a 0).bind fun d=>bif decide (128<=(d.toNat:Int)) then qoi fu b 65533 else qoi fu b (d.toNat:Int) else(qot (b.length:Int)).bind fun e=>bif e then(qb2 fu a).bind fun c=>bif decide (c.1.length=List.length (List.replicate 256 false))&&decide (c.1.length=256) then bif c.2 then qbx fu fu b 0 c.1 else qgn fu b a else none else qgn fu b a
def qgh(b:Bs)(a:Bs):Option Bool:=(qgm fu b a).bind fun c=>some (decide (0<=c))
def qm5(a:Bs):Option Bool:=(qgh fu a ([13,10,0]:Bs)).bind fun b=>some b
def tm(a:UInt8):Option Bool:=bif a==32 then some true else some (a==9)
def qfp(a:Bs):Option Bool:=(qm5 fu a).bind fun c=>bif !c then bif a==([]:Bs) then some true else(ap a 0).bind fun e=>(tm e).bind fun f=>bif !f then(ap a (af ((a.length:Int)-1))).bind fun b=>(tm b).bind fun d=>some (!d) else some false else some false
abbrev zvt:=Bs->Int->Int->Bool->Option Int
abbrev qkk:=Bs->Int->Int->Option Int
def qfo(fu:Nat)(b:qkk):zvt:=fun e c a d=>bif d then b e c (af (a+1)) else bif decide (0<c) then bif decide (78<a) then some c else b e a (af (a+1)) else b e a (af (a+1))
def qm6(d:qkk):qkk:=fun b c a=>bif decide (a<(b.length:Int)) then(ap b a).bind fun g=>(tm g).bind fun f=>bif !f then qfo fu d b c a true else(ap b (af (a-1))).bind fun h=>(tm h).bind fun e=>qfo fu d b c a e else some c
def qa0(fu:Nat):Nat->qkk|0=>fun _ _ _=>none|n+1=>qm6 fu (qa0 fu n)
def qfn(b:Bs)(a:Int):Option Int:=qa0 fu fu b 0 (if 1>a then 1 else a)
def cq:Option ((Int×Int)):=some (0,0)
abbrev qvl:=Int->Int->(Int×Int)->(List Bs)->Option ((Int×Int)×(List Bs))
abbrev zv3:=Bs->(Int×Int)->(List Bs)->Option ((Int×Int)×(List Bs))
abbrev qvk:=Bs->Int->(Int×Int)->(List Bs)->Option ((Int×Int)×(List Bs))
def qm4(fu:Nat)(g:qvl):qvl:=fun c a d b=>bif decide (a<c) then bif decide (0<=a/\a.toNat<b.length) then(b[a.toNat]?).bind fun e=>bif decide (998<(e.length:Int)) then(bt 1 a).bind fun f=>some (f,[]) else g c (af (a+1)) d b else none else(cq).bind fun h=>some (h,b)
def qaz(fu:Nat):Nat->qvl|0=>fun _ _ _ _=>none|n+1=>qm4 fu (qaz fu n)
def qay:zv3:=fun b c a=>bif decide (List.length (a++([b]:List Bs))<=bg) then qaz fu fu (List.length (a++([b]:List Bs)):Int) 0 c (a++([b]:List Bs)) else none
def qm3(e:qvk):qvk:=fun b f d a=>bif decide (78<(b.length:Int)) then(qfn fu b f).bind fun c=>bif c==0 then qay fu b d a else bif decide (0<=c/\c<=(b.length:Int)) then bif decide (List.length (a++([List.take c.toNat b]:List Bs))<=bg) then bif decide (0<=c/\c<=(b.length:Int)) then e (List.drop c.toNat b) 0 d (a++([List.take c.toNat b]:List Bs)) else none else none else none else qay fu b d a
def qax(fu:Nat):Nat->qvk|0=>fun _ _ _ _=>none|n+1=>qm3 fu (qax fu n)
def qfk(a:Bs)(b:Bs):Option ((Int×Int)×(List Bs)):=(qfl fu a).bind fun e=>bif !e then(bt 10 (-1)).bind fun d=>some (d,[]) else bif decide (4000<(b.length:Int)) then(bt 1 (-1)).bind fun g=>some (g,[]) else(qfp fu b).bind fun c=>bif !c then(bt 11 (-1)).bind fun f=>some (f,[]) else bif decide (a.length+List.length ([58,32]:Bs)<=bf) then bif decide (List.length (a++([58,32]:Bs))+b.length<=bf) then qax fu fu ((a++([58,32]:Bs))++b) (af ((a.length:Int)+2)) (0,0) [] else none else none
def ef(a:Int×Int):Option Bool:=some (a.1 != 0)
abbrev qvm:=wV->Int->Int->(Int×Int)->Option ((Int×Int))
def qm7(h:qvm):qvm:=fun b c a d=>bif decide (a<c) then(ap b a).bind fun e=>(qfk fu e.1 e.2).bind fun f=>(ef f.1).bind fun j=>bif j then(bt f.1.1 a).bind fun g=>some g else h b c (af (a+1)) d else(cq).bind fun i=>some i
def qa1(fu:Nat):Nat->qvm|0=>fun _ _ _ _=>none|n+1=>qm7 fu (qa1 fu n)
def qfq(a:List (Bs×Bs)):Option ((Int×Int)):=bif decide (60<(a.length:Int)) then(bt 2 (-1)).bind fun b=>some b else qa1 fu fu a (a.length:Int) 0 (0,0)
abbrev qvn:=Int->Int->Bs->Option (Bs)
def wl(fu:Nat)(d:qvn):qvn:=fun c a b=>bif decide (a<c) then bif decide (0<=a/\a.toNat<b.length) then(b[a.toNat]?).bind fun e=>bif decide (65<=e) then bif decide (e<=90) then bif decide (0<=a/\a.toNat<b.length) then(b[a.toNat]?).bind fun f=>d c (af (a+1)) (List.set b a.toNat ((e+97)-65)) else none else d c (af (a+1)) b else d c (af (a+1)) b else none else some b
def pf(fu:Nat):Nat->qvn|0=>fun _ _ _=>none|n+1=>wl fu (pf fu n)
def qo(a:Bs):Option (Bs):=bif decide (a.length<=maxLen) then pf fu fu (a.length:Int) 0 a else none
def di(a:Bs)(b:Bs):Option Bool:=bif(a.length:Int)==(b.length:Int) then(qo fu a).bind fun d=>(qo fu b).bind fun c=>some (d==c) else some false
abbrev qvo:=Bs->UInt8->Option (Bs)
def qyu(fu:Nat)(c:qvo):qvo:=fun a b=>bif decide (0<(a.length:Int)) then(ap a 0).bind fun d=>bif d==b then bif decide (0<=(1:Int)/\1<=(a.length:Int)) then c (List.drop (1:Int).toNat a) b else none else some a else some a
def qow(fu:Nat):Nat->qvo|0=>fun _ _=>none|n+1=>qyu fu (qow fu n)
def qyt(b:Bs)(a:UInt8):Option (Bs):=qow fu fu b a
abbrev qvp:=Bs->(List Bool)->Option (Bs×(List Bool))
def qov(fu:Nat)(d:qvp):qvp:=fun a c=>bif decide (0<(a.length:Int)) then(ap a 0).bind fun e=>(xe e c).bind fun b=>bif !b.1 then some (a,b.2) else bif decide (0<=(1:Int)/\1<=(a.length:Int)) then d (List.drop (1:Int).toNat a) b.2 else none else some (a,c)
def qb3(fu:Nat):Nat->qvp|0=>fun _ _=>none|n+1=>qov fu (qb3 fu n)
def qou(b:Bs)(a:List Bool):Option (Bs×(List Bool)):=qb3 fu fu b a
abbrev zww:=UInt8->UInt8->UInt8->UInt8->Option (Int×Int)
abbrev zwv:=UInt8->UInt8->UInt8->UInt8->Bool->Option (Int×Int)
abbrev zwu:=Bs->UInt8->Int->UInt8->UInt8->Option (Int×Int)
abbrev zwt:=Bs->UInt8->Int->UInt8->UInt8->Bool->Option (Int×Int)
abbrev zws:=Bs->UInt8->Int->UInt8->Option (Int×Int)
abbrev zwr:=Bs->UInt8->Int->UInt8->Bool->Option (Int×Int)
def qy9:zww:=fun d b a c=>some (IntKind.i32.wrap (((BitVec.ofInt 32 (IntKind.i32.wrap (((BitVec.ofInt 32 (IntKind.i32.wrap (((BitVec.ofInt 32 (IntKind.i32.wrap (((d&&&7).toNat:Int)*2 ^ min (18:Int).toNat 32))|||BitVec.ofInt 32 (IntKind.i32.wrap (((b&&&63).toNat:Int)*2 ^ min (12:Int).toNat 32))).toNat:Int)))|||BitVec.ofInt 32 (IntKind.i32.wrap (((a&&&63).toNat:Int)*2 ^ min (6:Int).toNat 32))).toNat:Int)))|||BitVec.ofInt 32 ((c&&&63).toNat:Int)).toNat:Int)),4)
def qpf:zwv:=fun e b a d c=>bif c then some (65533,1) else qy9 e b a d
def qy8:zwu:=fun e d f b a=>bif decide (f<=3) then some (IntKind.i32.wrap (((BitVec.ofInt 32 (IntKind.i32.wrap (((BitVec.ofInt 32 (IntKind.i32.wrap (((d&&&15).toNat:Int)*2 ^ min (12:Int).toNat 32))|||BitVec.ofInt 32 (IntKind.i32.wrap (((b&&&63).toNat:Int)*2 ^ min (6:Int).toNat 32))).toNat:Int)))|||BitVec.ofInt 32 ((a&&&63).toNat:Int)).toNat:Int)),3) else(ap e 3).bind fun c=>bif decide (c<128) then qpf d b a c true else qpf d b a c (decide (191<c))
def qpe:zwt:=fun e d f b a c=>bif c then some (65533,1) else qy8 e d f b a
def qy7:zws:=fun d c e a=>bif decide (e<=2) then some (IntKind.i32.wrap (((BitVec.ofInt 32 (IntKind.i32.wrap (((c&&&31).toNat:Int)*2 ^ min (6:Int).toNat 32))|||BitVec.ofInt 32 ((a&&&63).toNat:Int)).toNat:Int)),2) else(ap d 2).bind fun b=>bif decide (b<128) then qpe d c e a b true else qpe d c e a b (decide (191<b))
def qpd:zwr:=fun d c e a b=>bif b then some (65533,1) else qy7 d c e a
def qpc(b:Bs):Option (Int×Int):=bif decide ((b.length:Int)<1) then some (65533,0) else(ap b 0).bind fun d=>(qed[d.toNat]?).bind fun a=>bif decide (240<=a) then(ap b 0).bind fun f=>some (IntKind.i32.wrap (((BitVec.ofInt 32 (IntKind.i32.wrap (((BitVec.ofInt 32 (f.toNat:Int) &&& ~~~ BitVec.ofInt 32 (Int.fdiv (IntKind.i32.wrap ((a.toNat:Int)*2 ^ min (31:Int).toNat 32)) (2 ^ min (31:Int).toNat 32))).toNat:Int)))|||BitVec.ofInt 32 (IntKind.i32.wrap (((BitVec.ofInt 32 65533&&&BitVec.ofInt 32 (Int.fdiv (IntKind.i32.wrap ((a.toNat:Int)*2 ^ min (31:Int).toNat 32)) (2 ^ min (31:Int).toNat 32))).toNat:Int)))).toNat:Int)),1) else(qee[(ne a (min (4:Int).toNat 8)).toNat]?).bind fun e=>bif decide ((b.length:Int)<((a&&&7).toNat:Int)) then some (65533,1) else(ap b 1).bind fun c=>bif decide (c<e.1) then qpd b d ((a&&&7).toNat:Int) c true else qpd b d ((a&&&7).toNat:Int) c (decide (e.2<c))
def qo9(a:Bs):Option (Int×Int):=bif !(a==([]:Bs)) then(ap a 0).bind fun d=>bif decide (d<128) then(ap a 0).bind fun c=>some ((c.toNat:Int),1) else(qpc a).bind fun e=>some e else(qpc a).bind fun b=>some b
def qgi(b:Bs)(a:Int):Option Bool:=(qy fu b a).bind fun c=>some (decide (0<=c))
abbrev qvq:=Bs->Bs->Option (Bs)
def qyw(d:qvq):qvq:=fun a c=>bif decide (0<(a.length:Int)) then(qo9 a).bind fun b=>(qgi fu c b.1).bind fun e=>bif !e then some a else bif decide (0<=b.2/\b.2<=(a.length:Int)) then d (List.drop b.2.toNat a) c else none else some a
def qox(fu:Nat):Nat->qvq|0=>fun _ _=>none|n+1=>qyw fu (qox fu n)
def qyv(b:Bs)(a:Bs):Option (Bs):=qox fu fu b a
abbrev zxe:=Bs->Bs->Option (Bs)
abbrev zxd:=Bs->Bs->Bool->Option (Bs)
abbrev zxc:=Bs->Bs->Option (Bs)
abbrev zxb:=Bs->Bs->Bool->Option (Bs)
def qop:zxe:=fun c b=>(qb2 fu b).bind fun a=>bif decide (a.1.length=List.length (List.replicate 256 false))&&decide (a.1.length=256) then bif a.2 then(qou fu c a.1).bind fun d=>some d.1 else(qyv fu c b).bind fun e=>some e else none
def qgr:zxd:=fun c b a=>bif a then(ap b 0).bind fun e=>(qyt fu c e).bind fun d=>some d else qop fu c b
def qoo:zxc:=fun b a=>bif(a.length:Int)==1 then(ap a 0).bind fun c=>qgr fu b a (decide (c<128)) else qgr fu b a false
def qgq:zxb:=fun b c a=>bif a then some b else qoo fu b c
def qgp(b:Bs)(a:Bs):Option (Bs):=bif b==([]:Bs) then qgq fu b a true else qgq fu b a (a==([]:Bs))
def qu(a:Bs):Option (Bs):=(qgp fu a ([32,9]:Bs)).bind fun b=>some b
def l5(a:UInt8):Option Bool:=bif decide (33<=a) then bif decide (a<=126) then(ud ([40,41,60,62,64,44,59,58,92,34,47,91,93,63,61,42,37,39]:Bs) a).bind fun b=>some (decide (b<0)) else some false else some false
abbrev zxp:=Int->Bs->Option (Bs×Bs)
abbrev zxo:=Int->Bool->Bs->Option (Bs×Bs)
abbrev qev:=Int->Bs->Option (Bs×Bs)
def qyb(fu:Nat)(a:qev):zxp:=fun b c=>a (af (b+1)) c
def qnp(d:qev):zxo:=fun a c b=>bif c then qyb fu d a b else bif decide (0<=a/\a<=(b.length:Int)) then bif decide (0<=a/\a<=(b.length:Int)) then some (List.take a.toNat b,List.drop a.toNat b) else none else none
def qya(c:qev):qev:=fun a b=>bif decide (a<(b.length:Int)) then(ap b a).bind fun e=>(l5 e).bind fun d=>qnp fu c a d b else qnp fu c a false b
def qbh(fu:Nat):Nat->qev|0=>fun _ _=>none|n+1=>qya fu (qbh fu n)
def qbg(a:Bs):Option (Bs×Bs):=(qu fu a).bind fun b=>qbh fu fu 0 b
def tx(d:UInt8)(c:Bs):Option (Bool×Bs):=(qu fu c).bind fun a=>bif a==([]:Bs) then some (false,a) else(ap a 0).bind fun b=>bif b != d then some (false,a) else bif decide (0<=(1:Int)/\1<=(a.length:Int)) then some (true,List.drop (1:Int).toNat a) else none
def qbf(a:UInt8):Option Bool:=(l5 a).bind fun b=>bif b then some true else some (a==42)
abbrev zx1:=Int->Bs->Option (Bs×Bs)
abbrev zx0:=Int->Bool->Bs->Option (Bs×Bs)
abbrev qew:=Int->Bs->Option (Bs×Bs)
def qyd(fu:Nat)(a:qew):zx1:=fun b c=>a (af (b+1)) c
def qnq(d:qew):zx0:=fun a c b=>bif c then qyd fu d a b else bif decide (0<=a/\a<=(b.length:Int)) then bif decide (0<=a/\a<=(b.length:Int)) then some (List.take a.toNat b,List.drop a.toNat b) else none else none
def qyc(c:qew):qew:=fun a b=>bif decide (a<(b.length:Int)) then(ap b a).bind fun e=>(qbf e).bind fun d=>qnq fu c a d b else qnq fu c a false b
def qbi(fu:Nat):Nat->qew|0=>fun _ _=>none|n+1=>qyc fu (qbi fu n)
def qfz(a:Bs):Option (Bs×Bs):=(qu fu a).bind fun b=>qbi fu fu 0 b
def qbk(a:UInt8):Option Bool:=(l5 a).bind fun b=>bif b then some true else bif a==37 then some true else bif a==39 then some true else some (a==42)
abbrev zye:=Int->Bs->Option (Bs×Bs)
abbrev zyd:=Int->Bool->Bs->Option (Bs×Bs)
abbrev qex:=Int->Bs->Option (Bs×Bs)
def qyf(fu:Nat)(a:qex):zye:=fun b c=>a (af (b+1)) c
def qnr(d:qex):zyd:=fun a c b=>bif c then qyf fu d a b else bif decide (0<=a/\a<=(b.length:Int)) then bif decide (0<=a/\a<=(b.length:Int)) then some (List.take a.toNat b,List.drop a.toNat b) else none else none
def qye(c:qex):qex:=fun a b=>bif decide (a<(b.length:Int)) then(ap b a).bind fun e=>(qbk e).bind fun d=>qnr fu c a d b else qnr fu c a false b
def qbj(fu:Nat):Nat->qex|0=>fun _ _=>none|n+1=>qye fu (qbj fu n)
def qf0(a:Bs):Option (Bs×Bs):=(qu fu a).bind fun b=>qbj fu fu 0 b
abbrev qvt:=Int->Bs->Bs->Option (Bs×Bool×Bs)
def qns(fu:Nat)(e:qvt):qvt:=fun c b a=>bif decide (c<(b.length:Int)) then(ap b c).bind fun d=>bif d==34 then bif decide (0<=af (c+1)/\af (c+1)<=(b.length:Int)) then some (a,(true,List.drop (af (c+1)).toNat b)) else none else bif d==92 then bif(af (c+1))==(b.length:Int) then some (([]:Bs),(false,b)) else(ap b (af (c+1))).bind fun f=>bif decide (List.length (a++([f]:Bs))<=bg) then e (af ((af (c+1))+1)) b (a++([f]:Bs)) else none else bif decide (List.length (a++([d]:Bs))<=bg) then e (af (c+1)) b (a++([d]:Bs)) else none else some (([]:Bs),(false,b))
def qbl(fu:Nat):Nat->qvt|0=>fun _ _ _=>none|n+1=>qns fu (qbl fu n)
def qf1(c:Bs):Option (Bs×Bool×Bs):=(tx fu 34 c).bind fun a=>bif !a.1 then(qf0 fu a.2).bind fun b=>some (b.1,(true,b.2)) else qbl fu fu 0 a.2 []
abbrev zyl:=Bs->Bs->Int->Bool->Option Int
def qfs:zyl:=fun c f b a=>bif a then some 0 else bif b==1 then(ap f 0).bind fun e=>(qna c e).bind fun d=>some d else bif decide ((c.length:Int)<=b) then some (-1) else none
def qfr(b:Bs)(a:Bs):Option Int:=bif(a.length:Int)==0 then qfs b a (a.length:Int) true else qfs b a (a.length:Int) (a==b)
def qm8(b:Bs)(c:Bs):Option (Bs×Bs×Bool):=(qfr b c).bind fun a=>bif decide (0<=a) then bif decide (0<=a/\a<=(b.length:Int)) then bif decide (0<=af (a+(c.length:Int))/\af (a+(c.length:Int))<=(b.length:Int)) then some (List.take a.toNat b,(List.drop (af (a+(c.length:Int))).toNat b,true)) else none else none else some (b,(([]:Bs),false))
def qgj(b:Bs)(a:Bs):Option (Bs×Bs×Bool):=(qm8 b a).bind fun c=>some c
def qa2(a:Bs)(b:Bs):Option Bool:=bif decide ((b.length:Int)<=(a.length:Int)) then bif decide (0<=af ((a.length:Int)-(b.length:Int))/\af ((a.length:Int)-(b.length:Int))<=(a.length:Int)) then some ((List.drop (af ((a.length:Int)-(b.length:Int))).toNat a)==b) else none else some false
def qm9(a:Bs)(b:Bs):Option (Bs×Bool):=(qa2 a b).bind fun c=>bif !c then some (a,false) else bif decide (0<=af ((a.length:Int)-(b.length:Int))/\af ((a.length:Int)-(b.length:Int))<=(a.length:Int)) then some (List.take (af ((a.length:Int)-(b.length:Int))).toNat a,true) else none
def qgk(b:Bs)(a:Bs):Option (Bs×Bool):=(qm9 b a).bind fun c=>some c
abbrev q97:=(Bs×Int×Bool×Bs)×Bool×Bs
def qfy(g:Bs):Option q97:=(qfz fu g).bind fun f=>(tx fu 61 f.2).bind fun e=>bif !e.1 then some ((([]:Bs),(0,(false,([]:Bs)))),(false,e.2)) else(qf1 fu e.2).bind fun a=>(qgj f.1 ([42]:Bs)).bind fun b=>bif b.2.2 then(qgk b.2.1 ([42]:Bs)).bind fun d=>(tn d.1 1099511627776).bind fun c=>bif a.2.1 then bif c.2 then some ((b.1,(c.1,(d.2,a.1))),(!(b.1==([]:Bs)),a.2.2)) else some ((b.1,(c.1,(d.2,a.1))),(false,a.2.2)) else some ((b.1,(c.1,(d.2,a.1))),(false,a.2.2)) else bif a.2.1 then some ((b.1,((-1),(false,a.1))),(!(b.1==([]:Bs)),a.2.2)) else some ((b.1,((-1),(false,a.1))),(false,a.2.2))
abbrev q96:=Bool×(Bs×Int×Bool×Bs)
def qa9(b:Bs×Int×Bool×Bs)(a:Bs×Int×Bool×Bs):Option q96:=(di fu b.1 a.1).bind fun c=>some (c,a)
abbrev qzm:=Int×(Bs×Int×Bool×Bs)
abbrev qvu:=(List (Bs×Int×Bool×Bs))->Int->Int->(Bs×Int×Bool×Bs)->Option qzm
def qoe(f:qvu):qvu:=fun e d a c=>bif decide (a<d) then(ap e a).bind fun g=>(qa9 fu g c).bind fun b=>bif b.1 then some (a,b.2) else f e d (af (a+1)) b.2 else some ((-1),c)
def qbu(fu:Nat):Nat->qvu|0=>fun _ _ _ _=>none|n+1=>qoe fu (qbu fu n)
def qod(a:List (Bs×Int×Bool×Bs))(b:Bs×Int×Bool×Bs):Option qzm:=qbu fu fu a (a.length:Int) 0 b
abbrev zai:=Bool×(Bs×Int×Bool×Bs)
def qgg(c:List (Bs×Int×Bool×Bs))(b:Bs×Int×Bool×Bs):Option zai:=(qod fu c b).bind fun a=>some (decide (0<=a.1),a.2)
abbrev zzi:=UInt8->Bool->Option (UInt8×Bool)
abbrev zzh:=UInt8->Bool->Option (UInt8×Bool)
def qml:zzi:=fun a b=>bif b then some ((a-65)+10,true) else bif decide (97<=a) then bif decide (a<=102) then some ((a-97)+10,true) else some (0,false) else some (0,false)
def qmk:zzh:=fun a b=>bif b then some (a-48,true) else bif decide (65<=a) then qml a (decide (a<=70)) else qml a false
def pd(a:UInt8):Option (UInt8×Bool):=bif decide (48<=a) then qmk a (decide (a<=57)) else qmk a false
def pg(c:Bs):Option (UInt8×Bool):=bif decide ((c.length:Int)<2) then some (0,false) else(ap c 0).bind fun d=>(pd d).bind fun b=>(ap c 1).bind fun e=>(pd e).bind fun a=>bif b.2 then some ((jj b.1 (min (4:Int).toNat 8))|||a.1,a.2) else some ((jj b.1 (min (4:Int).toNat 8))|||a.1,false)
abbrev qvw:=Bs->Int->Bs->Option (Bs)
abbrev zzr:=Bs->Option (Bs)
abbrev zzq:=Bs->Bool->Option (Bs)
def qnn(fu:Nat)(e:qvw):qvw:=fun c b a=>bif decide (b<(c.length:Int)) then(ap c b).bind fun h=>bif h==37 then bif decide (0<=af (b+1)/\af (b+1)<=(c.length:Int)) then(pg (List.drop (af (b+1)).toNat c)).bind fun d=>bif d.2 then bif decide (List.length (a++([d.1]:Bs))<=bg) then e c (af ((af (b+2))+1)) (a++([d.1]:Bs)) else none else(ap c b).bind fun g=>bif decide (List.length (a++([g]:Bs))<=bg) then e c (af (b+1)) (a++([g]:Bs)) else none else none else(ap c b).bind fun f=>bif decide (List.length (a++([f]:Bs))<=bg) then e c (af (b+1)) (a++([f]:Bs)) else none else some a
def qbd(fu:Nat):Nat->qvw|0=>fun _ _ _=>none|n+1=>qnn fu (qbd fu n)
def wz:zzr:=fun a=>qbd fu fu a 0 []
def qt:zzq:=fun b a=>bif a then bif decide (0<=(6:Int)/\6<=(b.length:Int)) then wz fu (List.drop (6:Int).toNat b) else none else wz fu b
def qfw(a:Bs×Int×Bool×Bs):Option (Bs):=bif !a.2.2.1 then some a.2.2.2 else bif a.2.1==0 then bif decide (6<=(a.2.2.2.length:Int)) then bif decide (0<=(6:Int)/\6<=(a.2.2.2.length:Int)) then(di fu (List.take (6:Int).toNat a.2.2.2) ([117,116,102,56,39,39]:Bs)).bind fun b=>qt fu a.2.2.2 b else none else qt fu a.2.2.2 false else qt fu a.2.2.2 false
abbrev qvx:=Int->Int->(Bs×Bs)->(Bs×Bs)->(List (Bs×Int×Bool×Bs))->Option ((Bs×Bs)×Bool)
def qng(h:qvx):qvx:=fun d a e b c=>bif decide (a<d) then bif decide (0<=a/\a.toNat<c.length) then(c[a.toNat]?).bind fun f=>bif f.2.1 != a then some (b,false) else(qfw fu f).bind fun g=>bif decide (b.2.length+g.length<=bf) then h d (af (a+1)) e (b.1,b.2++g) c else none else none else(ue b.2 ([239,191,189]:Bs)).bind fun i=>some ((b.1,i),true)
def qa6(fu:Nat):Nat->qvx|0=>fun _ _ _ _ _=>none|n+1=>qng fu (qa6 fu n)
def qa5(a:List (Bs×Int×Bool×Bs)):Option ((Bs×Bs)×Bool):=bif decide (0<=(0:Int)/\(0:Int).toNat<a.length) then(a[(0:Int).toNat]?).bind fun c=>bif decide (0<=(0:Int)/\(0:Int).toNat<a.length) then(a[(0:Int).toNat]?).bind fun e=>bif decide (0<=(0:Int)/\(0:Int).toNat<a.length) then(a[(0:Int).toNat]?).bind fun d=>bif decide (d.2.1<0) then some ((c.1,e.2.2.2),(a.length:Int)==1) else(ub a).bind fun b=>qa6 fu fu (b.length:Int) 0 (([]:Bs),([]:Bs)) (c.1,([]:Bs)) b else none else none else none
abbrev uj:=Bool×wV
abbrev zz0:=(List (Bs×Int×Bool×Bs))->(List (Bs×Int×Bool×Bs))->Int->Int->(List (Bs×Int×Bool×Bs))->Int->Int->(Bs×Int×Bool×Bs)->(List (Bs×Int×Bool×Bs))->wV->Option uj
abbrev qko:=(List (Bs×Int×Bool×Bs))->(List (Bs×Int×Bool×Bs))->Int->Int->(List (Bs×Int×Bool×Bs))->Int->Int->(Bs×Int×Bool×Bs)->wV->(List (Bs×Int×Bool×Bs))->Option uj
abbrev qaf:=(List (Bs×Int×Bool×Bs))->(List (Bs×Int×Bool×Bs))->Int->Int->wV->Option uj
def qbb(fu:Nat)(l:qaf)(j:qko):zz0:=fun k f g a c i h b d e=>j k f g a c i (af (h+1)) b e d
def qnk(j:qaf)(p:qko):qko:=fun m g h d f i c e a b=>bif decide (c<i) then(ap f c).bind fun k=>(qa9 fu k e).bind fun l=>bif l.1 then bif decide (List.length (b++([k]:List (Bs×Int×Bool×Bs)))<=bg) then qbb fu j p m g h d f i c l.2 (b++([k]:List (Bs×Int×Bool×Bs))) a else none else qbb fu j p m g h d f i c l.2 b a else(qa5 fu b).bind fun o=>bif !o.2 then some (false,[]) else bif decide (List.length (a++([(e.1,o.1.2)]:List (Bs×Bs)))<=bg) then j m g h (af (d+1)) (a++([(e.1,o.1.2)]:List (Bs×Bs))) else none
def qba(fu:Nat)(a:qaf):Nat->qko|0=>fun _ _ _ _ _ _ _ _ _ _=>none|n+1=>qnk fu a (qba fu a n)
def qnj(f:qaf):qaf:=fun e c d a b=>bif decide (a<d) then(ap c a).bind fun h=>bif decide (0<=a/\a<=(e.length:Int)) then(qgg fu (List.take a.toNat e) h).bind fun g=>bif g.1 then f e c d (af (a+1)) b else qba fu f fu e c d a e (e.length:Int) 0 g.2 b [] else none else some (true,b)
def wy(fu:Nat):Nat->qaf|0=>fun _ _ _ _ _=>none|n+1=>qnj fu (wy fu n)
def ww(a:List (Bs×Int×Bool×Bs)):Option uj:=wy fu fu a a (a.length:Int) 0 []
abbrev qb9:=(Bs×Bs×Bool) ⊕ (Bs×Bs×Bool×wV)
abbrev qvy:=Bs->Bs->Bs->Bs->Bs->(List (Bs×Int×Bool×Bs))->Option qb9
abbrev zz7:=Bs->Bs->Bs->Bs->Bs->Option qb9
abbrev zz6:=Bool->Bs->Bs->Bs->Bs->Bs->Option qb9
def qnl(j:qvy):qvy:=fun e c h a b d=>(tx fu 59 h).bind fun i=>bif i.1 then(qfy fu i.2).bind fun f=>bif !f.2.1 then some (.inl (a,(b,false))) else bif decide (List.length (d++([f.1]:List (Bs×Int×Bool×Bs)))<=bg) then j e c f.2.2 a b (d++([f.1]:List (Bs×Int×Bool×Bs))) else none else(qu fu i.2).bind fun k=>(ww fu d).bind fun g=>bif g.1 then some (.inr (a,(b,(k==([]:Bs),g.2)))) else some (.inr (a,(b,(false,g.2))))
def qbc(fu:Nat):Nat->qvy|0=>fun _ _ _ _ _ _=>none|n+1=>qnl fu (qbc fu n)
def qnm:zz7:=fun c a e b d=>qbc fu fu c a e b d []
def qr:zz6:=fun f d c e a b=>bif f then some (.inl (a,(b,false))) else qnm fu d c e a b
def qfv(d:Bs):Option qb9:=(qbg fu d).bind fun b=>(tx fu 47 b.2).bind fun c=>(qbg fu c.2).bind fun a=>bif b.1==([]:Bs) then qr fu true ([]:Bs) ([]:Bs) a.2 b.1 a.1 else bif !c.1 then qr fu true ([]:Bs) ([]:Bs) a.2 b.1 a.1 else qr fu (a.1==([]:Bs)) ([]:Bs) ([]:Bs) a.2 b.1 a.1
abbrev qvz:=Bs->Int->Int->Option Bool
def qxx(fu:Nat)(d:qvz):qvz:=fun c b a=>bif decide (a<b) then(ap c a).bind fun f=>(l5 f).bind fun e=>bif !e then some false else d c b (af (a+1)) else some true
def qap(fu:Nat):Nat->qvz|0=>fun _ _ _=>none|n+1=>qxx fu (qap fu n)
def qfa(a:Bs):Option Bool:=qap fu fu a (a.length:Int) 0
def tz(a:Bs):Option Bool:=bif !(a==([]:Bs)) then bif decide ((a.length:Int)<=60) then(qfa fu a).bind fun b=>some b else some false else some false
def qnd(b:Bs×Bs)(a:Bs×Bs):Option (Bool×(Bs×Bs)):=(di fu b.1 a.1).bind fun c=>some (c,a)
abbrev qv0:=wV->Int->Int->(Bs×Bs)->Option (Int×(Bs×Bs))
def qoc(f:qv0):qv0:=fun e d a c=>bif decide (a<d) then(ap e a).bind fun g=>(qnd fu g c).bind fun b=>bif b.1 then some (a,b.2) else f e d (af (a+1)) b.2 else some ((-1),c)
def qbt(fu:Nat):Nat->qv0|0=>fun _ _ _ _=>none|n+1=>qoc fu (qbt fu n)
def qob(a:List (Bs×Bs))(b:Bs×Bs):Option (Int×(Bs×Bs)):=qbt fu fu a (a.length:Int) 0 b
def qgf(c:List (Bs×Bs))(b:Bs×Bs):Option (Bool×(Bs×Bs)):=(qob fu c b).bind fun a=>some (decide (0<=a.1),a.2)
abbrev z0v:=Int->wV->Int->Int->Bool->(Bs×Bs×wV)->(Int×Int)->(Bs×Bs)->Option ((Int×Int))
abbrev qkq:=wV->Int->Int->(Bs×Bs×wV)->(Int×Int)->Option ((Int×Int))
abbrev z0u:=(Bs×Bs×wV)->(Int×Int)->Option ((Int×Int))
abbrev z0t:=Bool->(Bs×Bs×wV)->(Int×Int)->Option ((Int×Int))
def tw(p:qkq):z0v:=fun a f e c h b g i=>bif h then(bt 10 a).bind fun j=>some j else bif decide (0<=a/\a<=(b.2.2.length:Int)) then(qgf fu (List.take a.toNat b.2.2) i).bind fun d=>bif d.1 then(bt 7 a).bind fun k=>some k else bif decide (500<(d.2.2.length:Int)) then(bt 1 a).bind fun l=>some l else(uf d.2.2).bind fun o=>bif !o then(bt 5 a).bind fun m=>some m else p f e (af (c+1)) b g else none
def qne(g:qkq):qkq:=fun b c a d e=>bif decide (a<c) then(ap b a).bind fun f=>(tz fu f.1).bind fun h=>bif !h then tw fu g a b c a true d e f else tw fu g a b c a (decide (20<(f.1.length:Int))) d e f else(cq).bind fun i=>some i
def wu(fu:Nat):Nat->qkq|0=>fun _ _ _ _ _=>none|n+1=>qne fu (wu fu n)
def qnf:z0u:=fun a b=>bif decide (60<(a.2.2.length:Int)) then(bt 2 (-3)).bind fun c=>some c else wu fu fu a.2.2 (a.2.2.length:Int) 0 a b
def wt:z0t:=fun c a b=>bif c then(bt 10 (-2)).bind fun d=>some d else qnf fu a b
def ph(a:Bs×Bs×wV):Option ((Int×Int)):=(tz fu a.1).bind fun c=>bif !c then wt fu true a (0,0) else(tz fu a.2.1).bind fun b=>wt fu (!b) a (0,0)
abbrev qzk:=(Bs×Bs×Int×Int) ⊕ (Bs×Bs×Int×Int×wV)
def ws(i:Bs):Option qzk:=bif decide (4000<(i.length:Int)) then(bt 1 (-1)).bind fun m=>some (.inl (([]:Bs),(([]:Bs),m))) else(qfv fu i).bind fun k=>a7 k (fun d=>bif !d.2.2 then(bt 11 (-5)).bind fun o=>some (.inl (([]:Bs),(([]:Bs),o))) else(ph fu (d.1,(d.2.1,[]))).bind fun h=>(ef h).bind fun l=>bif l then(bt h.1 (-6)).bind fun p=>some (.inl (([]:Bs),(([]:Bs),p))) else(cq).bind fun j=>some (.inl (d.1,(d.2.1,j)))) (fun a=>bif !a.2.2.1 then(bt 11 (-5)).bind fun e=>some (.inl (([]:Bs),(([]:Bs),e))) else(ph fu (a.1,(a.2.1,a.2.2.2))).bind fun b=>(ef b).bind fun f=>bif f then(bt b.1 (-6)).bind fun g=>some (.inl (([]:Bs),(([]:Bs),g))) else(cq).bind fun c=>some (.inr (a.1,(a.2.1,(c.1,(c.2,a.2.2.2))))))
abbrev qg2:=(Bs×Bs×Int×Bool) ⊕ (Bs×Bs×Int×Bool×wV)
abbrev z01:=wV->Int->wV->Int->Int->Bs->Bs->Option qg2
abbrev qks:=wV->Int->wV->Int->Int->Bs->Bs->Option qg2
def w7(fu:Nat)(f:qks):z01:=fun h g d c e b a=>f h g d c (af (e+1)) b a
def qf2(j:qks):qks:=fun h f e d c b a=>bif decide (c<d) then(ap e c).bind fun l=>(di fu l.1 ([67,111,110,116,101,110,116,45,84,121,112,101]:Bs)).bind fun m=>bif m then bif decide (0<=f) then some (.inl (([]:Bs),(([]:Bs),(0,false)))) else w7 fu j h c e d c b a else w7 fu j h f e d c b a else bif decide (f<0) then some (.inl (([]:Bs),(([]:Bs),(0,false)))) else(ap h f).bind fun o=>(ws fu o.2).bind fun k=>a7 k (fun i=>(ef i.2.2).bind fun p=>some (.inl (i.1,(i.2.1,(f,!p))))) (fun g=>(ef (g.2.2.1,g.2.2.2.1)).bind fun q=>some (.inr (g.1,(g.2.1,(f,(!q,g.2.2.2.2))))))
def qw(fu:Nat):Nat->qks|0=>fun _ _ _ _ _ _ _=>none|n+1=>qf2 fu (qw fu n)
def w6(a:List (Bs×Bs)):Option qg2:=qw fu fu a (-1) a (a.length:Int) 0 ([]:Bs) ([]:Bs)
abbrev qv3:=Bs->wV->Int->Int->(Int×Int)->Option (Bs×Bool×(Int×Int))
def qnb(h:qv3):qv3:=fun f c b a d=>bif decide (a<b) then(ap c a).bind fun e=>(di fu e.1 f).bind fun i=>bif i then(cq).bind fun j=>some (e.2,(true,j)) else h f c b (af (a+1)) d else(cq).bind fun g=>some (([]:Bs),(false,g))
def qa3(fu:Nat):Nat->qv3|0=>fun _ _ _ _ _=>none|n+1=>qnb fu (qa3 fu n)
def nj(a:Bs×Bs×wV)(d:Bs):Option (Bs×Bool×(Int×Int)):=(ph fu a).bind fun b=>(ef b).bind fun c=>bif c then some (([]:Bs),(false,b)) else qa3 fu fu d a.2.2 (a.2.2.length:Int) 0 (0,0)
def qa7(a:UInt8):Option Bool:=bif decide (32<=a) then some (decide (a<=126)) else some false
abbrev qv5:=Bs->Int->Int->Option Bool
def qxy(fu:Nat)(d:qv5):qv5:=fun c b a=>bif decide (a<b) then(ap c a).bind fun f=>(qa7 f).bind fun e=>bif !e then some false else d c b (af (a+1)) else some true
def qaq(fu:Nat):Nat->qv5|0=>fun _ _ _=>none|n+1=>qxy fu (qaq fu n)
def qfb(a:Bs):Option Bool:=qaq fu fu a (a.length:Int) 0
def qon(a:List Bs):Option (Int×Int×Int×(List Bs)):=bif(Int.tmod (a.length:Int) 2)==1 then none else bif decide (a.length<=bg) then some (0,(0,(0,a))) else none
def lz(b:UInt8):Option UInt8:=(([48,49,50,51,52,53,54,55,56,57,65,66,67,68,69,70]:Bs)[(b&&&15).toNat]?).bind fun a=>some a
abbrev z1n:=Bs->Bs->Int->Int->(List Bs)->Option ((List Bs))
abbrev qkv:=Bs->Int->Int->(List Bs)->Option ((List Bs))
def qbe(fu:Nat)(d:qkv):z1n:=fun g b f c a=>bif decide (0<=af ((a.length:Int)-1)/\(af ((a.length:Int)-1)).toNat<a.length) then(a[(af ((a.length:Int)-1)).toNat]?).bind fun h=>bif decide ((af ((h.length:Int)+(b.length:Int)))<=60) then bif decide (0<=af ((a.length:Int)-1)/\(af ((a.length:Int)-1)).toNat<a.length) then(a[(af ((a.length:Int)-1)).toNat]?).bind fun e=>bif decide (e.length+b.length<=bf) then bif decide (0<=af ((a.length:Int)-1)/\(af ((a.length:Int)-1)).toNat<a.length) then(a[(af ((a.length:Int)-1)).toNat]?).bind fun i=>d g f (af (c+1)) (List.set a ((af ((a.length:Int)-1)).toNat) (e++b)) else none else none else none else bif decide (List.length (a++([b]:List Bs))<=bg) then d g f (af (c+1)) (a++([b]:List Bs)) else none else none
def qno(e:qkv):qkv:=fun c d a b=>bif decide (a<d) then bif decide (0<=a/\a<=af (a+1)/\af (a+1)<=(c.length:Int)) then(ap c a).bind fun i=>(l5 i).bind fun g=>bif !g then(ap c a).bind fun k=>(lz (ne k (min (4:Int).toNat 8))).bind fun f=>(ap c a).bind fun j=>(lz j).bind fun h=>qbe fu e c ([37,f,h]:Bs) d a b else qbe fu e c (List.take ((af (a+1)).toNat-a.toNat) (List.drop a.toNat c)) d a b else none else some b
def w3(fu:Nat):Nat->qkv|0=>fun _ _ _ _=>none|n+1=>qno fu (w3 fu n)
def qfx(a:Bs):Option ((List Bs)):=w3 fu fu a (a.length:Int) 0 ([([117,116,102,56,39,39]:Bs)]:List Bs)
abbrev qv6:=Bs->Int->Int->(Bs×Bs)->(List Bs)->Option (Bs)
abbrev z1u:=(Bs×Bs)->Option (Bs)
abbrev z1t:=Bool->(Bs×Bs)->Option (Bs)
def qnh(fu:Nat)(h:qv6):qv6:=fun f e b a c=>bif decide (b<e) then bif decide (0<=b/\b.toNat<c.length) then(c[b.toNat]?).bind fun g=>bif decide (List.length ([59,32]:Bs)+a.1.length<=bf) then bif decide (List.length (([59,32]:Bs)++a.1)+List.length ([42]:Bs)<=bf) then(uc b).bind fun d=>bif decide (List.length ((([59,32]:Bs)++a.1)++([42]:Bs))+d.length<=bf) then bif decide (List.length (((([59,32]:Bs)++a.1)++([42]:Bs))++d)+List.length ([42,61]:Bs)<=bf) then bif decide (List.length ((((([59,32]:Bs)++a.1)++([42]:Bs))++d)++([42,61]:Bs))+g.length<=bf) then bif decide (f.length+List.length (((((([59,32]:Bs)++a.1)++([42]:Bs))++d)++([42,61]:Bs))++g)<=bf) then h (f++(((((([59,32]:Bs)++a.1)++([42]:Bs))++d)++([42,61]:Bs))++g)) e (af (b+1)) a c else none else none else none else none else none else none else none else some f
def qa8(fu:Nat):Nat->qv6|0=>fun _ _ _ _ _=>none|n+1=>qnh fu (qa8 fu n)
def qni:z1u:=fun a=>(qfx fu a.2).bind fun b=>qa8 fu fu ([]:Bs) (b.length:Int) 0 a b
def wv:z1t:=fun d a=>bif d then bif decide (List.length ([59,32]:Bs)+a.1.length<=bf) then bif decide (List.length (([59,32]:Bs)++a.1)+List.length ([61,34]:Bs)<=bf) then(qon ([([92]:Bs),([92,92]:Bs),([34]:Bs),([92,34]:Bs)]:List Bs)).bind fun b=>(qx a.2 b.1 b.2.1 b.2.2.1 b.2.2.2).bind fun c=>bif decide (List.length ((([59,32]:Bs)++a.1)++([61,34]:Bs))+c.length<=bf) then bif decide (List.length (((([59,32]:Bs)++a.1)++([61,34]:Bs))++c)+List.length ([34]:Bs)<=bf) then some ((((([59,32]:Bs)++a.1)++([61,34]:Bs))++c)++([34]:Bs)) else none else none else none else none else qni fu a
def qfu(a:Bs×Bs):Option (Bs):=(tz fu a.2).bind fun c=>bif c then bif decide (List.length ([59,32]:Bs)+a.1.length<=bf) then bif decide (List.length (([59,32]:Bs)++a.1)+List.length ([61]:Bs)<=bf) then bif decide (List.length ((([59,32]:Bs)++a.1)++([61]:Bs))+a.2.length<=bf) then some (((([59,32]:Bs)++a.1)++([61]:Bs))++a.2) else none else none else none else bif decide ((a.2.length:Int)<=60) then(qfb fu a.2).bind fun b=>wv fu b a else wv fu false a
abbrev qv7:=Bs->wV->Int->Int->(Int×Int)->Option (Bs×(Int×Int))
def qnc(i:qv7):qv7:=fun d b c a e=>bif decide (a<c) then(ap b a).bind fun h=>(qfu fu h).bind fun f=>bif decide (d.length+f.length<=bf) then i (d++f) b c (af (a+1)) e else none else bif decide (4000<(d.length:Int)) then(bt 1 (-4)).bind fun j=>some (([]:Bs),j) else(cq).bind fun g=>some (d,g)
def qa4(fu:Nat):Nat->qv7|0=>fun _ _ _ _ _=>none|n+1=>qnc fu (qa4 fu n)
def qft(a:Bs×Bs×wV):Option (Bs×(Int×Int)):=(ph fu a).bind fun b=>(ef b).bind fun c=>bif c then some (([]:Bs),b) else bif decide (a.1.length+List.length ([47]:Bs)<=bf) then bif decide (List.length (a.1++([47]:Bs))+a.2.1.length<=bf) then qa4 fu fu ((a.1++([47]:Bs))++a.2.1) a.2.2 (a.2.2.length:Int) 0 (0,0) else none else none
abbrev z14:=Int->wU->Bs->Bs->wV->Option Int
abbrev z13:=Int->Bool->wU->Bs->Bs->wV->Option Int
def qn8:z14:=fun f d b a c=>(nj fu (b,(a,c)) ([98,111,117,110,100,97,114,121]:Bs)).bind fun h=>(qft fu (b,(a,c))).bind fun e=>bif h.2.1 then some 5 else bif decide (60<=(c.length:Int)) then some 5 else(ef e.2).bind fun i=>bif i then some 5 else(ap d.val.1 f).bind fun g=>bif !(e.1==g.2) then some 5 else bif decide (2000<(e.1.length:Int)) then some 5 else some 0
def l7:z13:=fun f d c b a e=>bif d then some 5 else qn8 fu f (Tree.node c.val c.kids) b a e
def qgc(a:Tree (wV×Bs)):Option Int:=(w6 fu a.val.1).bind fun e=>a7 e (fun c=>bif decide (0<(a.val.2.length:Int)) then l7 fu c.2.2.1 true (Tree.node a.val a.kids) c.1 c.2.1 [] else bif !c.2.2.2 then l7 fu c.2.2.1 true (Tree.node a.val a.kids) c.1 c.2.1 [] else(di fu c.1 ([109,117,108,116,105,112,97,114,116]:Bs)).bind fun d=>l7 fu c.2.2.1 (!d) (Tree.node a.val a.kids) c.1 c.2.1 []) (fun b=>bif decide (0<(a.val.2.length:Int)) then l7 fu b.2.2.1 true (Tree.node a.val a.kids) b.1 b.2.1 b.2.2.2.2 else bif !b.2.2.2.1 then l7 fu b.2.2.1 true (Tree.node a.val a.kids) b.1 b.2.1 b.2.2.2.2 else(di fu b.1 ([109,117,108,116,105,112,97,114,116]:Bs)).bind fun f=>l7 fu b.2.2.1 (!f) (Tree.node a.val a.kids) b.1 b.2.1 b.2.2.2.2)
abbrev z2d:=Bs->Int->Int->UInt8->Option Int
abbrev z2c:=Bs->Int->Int->UInt8->Bool->Option Int
abbrev qey:=Bs->Int->Int->Option Int
def qmi(fu:Nat)(c:qey):z2d:=fun e b d a=>bif a==13 then some 11 else bif a==10 then some 11 else bif decide (998<(af (b+1))) then some 1 else c e (af (b+1)) (af (d+1))
def wk(b:qey):z2c:=fun d f c e a=>bif a then b d 0 (af ((af (c+1))+1)) else qmi fu b d f c e
def qmh(d:qey):qey:=fun b e a=>bif decide (a<(b.length:Int)) then(ap b a).bind fun c=>bif c==13 then bif decide ((af (a+1))<(b.length:Int)) then(ap b (af (a+1))).bind fun f=>wk fu d b e a c (f==10) else wk fu d b e a c false else wk fu d b e a c false else some 0
def wj(fu:Nat):Nat->qey|0=>fun _ _ _=>none|n+1=>qmh fu (wj fu n)
def qfd(a:Bs):Option Int:=wj fu fu a 0 0
def qbn(a:UInt8):Option Bool:=bif decide (32<=a) then some (decide (a<=126)) else some false
abbrev qv9:=Bs->Int->Int->Option Bool
def qxz(fu:Nat)(d:qv9):qv9:=fun c b a=>bif decide (a<b) then(ap c a).bind fun f=>(qbn f).bind fun e=>bif !e then some false else d c b (af (a+1)) else some true
def qar(fu:Nat):Nat->qv9|0=>fun _ _ _=>none|n+1=>qxz fu (qar fu n)
def qfc(a:Bs):Option Bool:=qar fu fu a (a.length:Int) 0
def qgl(b:Bs)(a:Bs):Option Bool:=(qa2 b a).bind fun c=>some c
abbrev z2s:=Bs->Bs->wV->Option (Bs×Bool)
abbrev z2r:=Bool->Bs->Bs->wV->Option (Bs×Bool)
def qnw:z2s:=fun c b d=>(nj fu (c,(b,d)) ([98,111,117,110,100,97,114,121]:Bs)).bind fun a=>bif !(a.1==([]:Bs)) then bif decide ((a.1.length:Int)<=60) then(qfc fu a.1).bind fun e=>bif e then(qgl a.1 ([32]:Bs)).bind fun f=>bif a.2.1 then some (a.1,!f) else some (a.1,false) else bif a.2.1 then some (a.1,false) else some (a.1,false) else bif a.2.1 then some (a.1,false) else some (a.1,false) else bif a.2.1 then some (a.1,false) else some (a.1,false)
def t6:z2r:=fun d b a c=>bif d then some (([]:Bs),false) else qnw fu b a c
def qf3(f:List (Bs×Bs)):Option (Bs×Bool):=(w6 fu f).bind fun d=>a7 d (fun b=>bif !b.2.2.2 then t6 fu true b.1 b.2.1 [] else(di fu b.1 ([109,117,108,116,105,112,97,114,116]:Bs)).bind fun c=>t6 fu (!c) b.1 b.2.1 []) (fun a=>bif !a.2.2.2.1 then t6 fu true a.1 a.2.1 a.2.2.2.2 else(di fu a.1 ([109,117,108,116,105,112,97,114,116]:Bs)).bind fun e=>t6 fu (!e) a.1 a.2.1 a.2.2.2.2)
def qn5(a:Bs):Option (Bs):=some a
abbrev qwb:=Bs->UInt8->Option (Bs)
def qyy(fu:Nat)(c:qwb):qwb:=fun a b=>bif decide (0<(a.length:Int)) then(ap a (af ((a.length:Int)-1))).bind fun d=>bif d==b then bif decide (0<=af ((a.length:Int)-1)/\af ((a.length:Int)-1)<=(a.length:Int)) then c (List.take (af ((a.length:Int)-1)).toNat a) b else none else some a else some a
def qo0(fu:Nat):Nat->qwb|0=>fun _ _=>none|n+1=>qyy fu (qo0 fu n)
def qyx(b:Bs)(a:UInt8):Option (Bs):=qo0 fu fu b a
abbrev qwc:=Bs->(List Bool)->Option (Bs×(List Bool))
def qoz(fu:Nat)(d:qwc):qwc:=fun a c=>bif decide (0<(a.length:Int)) then(ap a (af ((a.length:Int)-1))).bind fun e=>(xe e c).bind fun b=>bif !b.1 then some (a,b.2) else bif decide (0<=af ((a.length:Int)-1)/\af ((a.length:Int)-1)<=(a.length:Int)) then d (List.take (af ((a.length:Int)-1)).toNat a) b.2 else none else some (a,c)
def qb4(fu:Nat):Nat->qwc|0=>fun _ _=>none|n+1=>qoz fu (qb4 fu n)
def qoy(b:Bs)(a:List Bool):Option (Bs×(List Bool)):=qb4 fu fu b a
def qpb(a:UInt8):Option Bool:=some ((a&&&192) != 128)
abbrev z3e:=Bs->Int->Int->Option (Int×Int)
abbrev z3d:=Bs->Int->Int->Option (Int×Int)
abbrev qwd:=Bs->Int->Int->Int->Option (Int×Int)
def qo5(fu:Nat):z3e:=fun d b a=>bif decide (0<=a/\a<=b/\b<=(d.length:Int)) then(qo9 (List.take (b.toNat-a.toNat) (List.drop a.toNat d))).bind fun c=>bif(af (a+c.2)) != b then some (65533,1) else some c else none
def qo4:z3d:=fun a c b=>bif decide (b<0) then qo5 fu a c 0 else qo5 fu a c b
def qy3(e:qwd):qwd:=fun b c a d=>bif decide (d<=a) then(ap b a).bind fun g=>(qpb g).bind fun f=>bif f then qo4 fu b c a else e b c (af (a-1)) d else qo4 fu b c a
def qo3(fu:Nat):Nat->qwd|0=>fun _ _ _ _=>none|n+1=>qy3 fu (qo3 fu n)
def qy2(a:Bs):Option (Int×Int):=bif(a.length:Int)==0 then some (65533,0) else(ap a (af ((a.length:Int)-1))).bind fun b=>bif decide ((b.toNat:Int)<128) then some ((b.toNat:Int),1) else qo3 fu fu a (a.length:Int) (af ((af ((a.length:Int)-1))-1)) (if 0>af ((a.length:Int)-4) then 0 else af ((a.length:Int)-4))
abbrev qwe:=Bs->Bs->Option (Bs)
def qy0(d:qwe):qwe:=fun a c=>bif decide (0<(a.length:Int)) then(ap a (af ((a.length:Int)-1))).bind fun e=>bif decide (128<=(e.toNat:Int)) then(qy2 fu a).bind fun b=>(qgi fu c b.1).bind fun g=>bif !g then some a else bif decide (0<=af ((a.length:Int)-b.2)/\af ((a.length:Int)-b.2)<=(a.length:Int)) then d (List.take (af ((a.length:Int)-b.2)).toNat a) c else none else(qgi fu c (e.toNat:Int)).bind fun f=>bif !f then some a else bif decide (0<=af ((a.length:Int)-1)/\af ((a.length:Int)-1)<=(a.length:Int)) then d (List.take (af ((a.length:Int)-1)).toNat a) c else none else some a
def qo1(fu:Nat):Nat->qwe|0=>fun _ _=>none|n+1=>qy0 fu (qo1 fu n)
def qyz(b:Bs)(a:Bs):Option (Bs):=qo1 fu fu b a
abbrev z3s:=Bs->Bs->Option (Bs)
abbrev z3r:=Bs->Bs->Bool->Option (Bs)
abbrev z3q:=Bs->Bs->Option (Bs)
abbrev z3p:=Bs->Bs->Bool->Option (Bs)
def qor:z3s:=fun c b=>(qb2 fu b).bind fun a=>bif decide (a.1.length=List.length (List.replicate 256 false))&&decide (a.1.length=256) then bif a.2 then(qoy fu c a.1).bind fun d=>some d.1 else(qyz fu c b).bind fun e=>some e else none
def qgt:z3r:=fun c b a=>bif a then(ap b 0).bind fun e=>(qyx fu c e).bind fun d=>some d else qor fu c b
def qoq:z3q:=fun b a=>bif(a.length:Int)==1 then(ap a 0).bind fun c=>qgt fu b a (decide (c<128)) else qgt fu b a false
def qgs:z3p:=fun b c a=>bif a then some b else qoq fu b c
def qb1(b:Bs)(a:Bs):Option (Bs):=bif b==([]:Bs) then qgs fu b a true else qgs fu b a (a==([]:Bs))
def qgb(c:Bs)(a:Bs):Option Int:=(qb1 fu c ([32,9]:Bs)).bind fun b=>bif decide (List.length ([45,45]:Bs)+a.length<=bf) then bif b==(([45,45]:Bs)++a) then some 1 else bif decide (List.length ([45,45]:Bs)+a.length<=bf) then bif decide (List.length (([45,45]:Bs)++a)+List.length ([45,45]:Bs)<=bf) then bif b==((([45,45]:Bs)++a)++([45,45]:Bs)) then some 2 else some 0 else none else none else none
abbrev zac:=(Bs×Bs×Int×(List Bs)×(List Bs)) ⊕ (Bs×Bs×Int×(List Bs))
def w8(b:Int)(f:Bs)(c:Bs)(d:Bs)(a:Int)(h:List Bs)(e:List Bs):Option zac:=(qgb fu f d).bind fun g=>bif g==0 then some (.inl (c,(d,(a,(h,e))))) else bif decide (0<=a) then bif decide (0<=a/\a<=(if af (b-2)>a then af (b-2) else a)/\(if af (b-2)>a then af (b-2) else a)<=(c.length:Int)) then bif decide (List.length (e++([List.take ((if af (b-2)>a then af (b-2) else a).toNat-a.toNat) (List.drop a.toNat c)]:List Bs))<=bg) then bif g==2 then some (.inr (c,(d,(a,e++([List.take ((if af (b-2)>a then af (b-2) else a).toNat-a.toNat) (List.drop a.toNat c)]:List Bs))))) else some (.inl (c,(d,(if(c.length:Int)<af ((af (b+(f.length:Int)))+2) then(c.length:Int) else af ((af (b+(f.length:Int)))+2),(h,e++([List.take ((if af (b-2)>a then af (b-2) else a).toNat-a.toNat) (List.drop a.toNat c)]:List Bs)))))) else none else none else bif g==2 then some (.inr (c,(d,(a,e)))) else some (.inl (c,(d,(if(c.length:Int)<af ((af (b+(f.length:Int)))+2) then(c.length:Int) else af ((af (b+(f.length:Int)))+2),(h,e)))))
abbrev qpu:=(Bs×Bs×Bs×Int×(List Bs)) ⊕ (Bs×Bs×Bs×Int×(List Bs)×(List Bs))
abbrev qwf:=Int->Bs->Bs->Bs->Int->(List Bs)->(List Bs)->Option qpu
def qn7(k:qwf):qwf:=fun a b i j h c d=>bif decide (a<(b.length:Int)) then bif decide (0<=a/\a<=(b.length:Int)) then bif decide (0<List.length ([13,10]:Bs)) then(tp (List.drop a.toNat b) ([13,10]:Bs)).bind fun e=>bif decide (0<=e) then bif decide (0<=a/\a<=af (a+e)/\af (a+e)<=(b.length:Int)) then(w8 fu a (List.take ((af (a+e)).toNat-a.toNat) (List.drop a.toNat b)) i j h c d).bind fun l=>a7 l (fun f=>k (af ((af (a+e))+2)) b f.1 f.2.1 f.2.2.1 f.2.2.2.1 f.2.2.2.2) (fun m=>some (.inl (b,m))) else none else bif decide (0<=a/\a<=(b.length:Int)/\(b.length:Int)<=(b.length:Int)) then(w8 fu a (List.take ((b.length:Int).toNat-a.toNat) (List.drop a.toNat b)) i j h c d).bind fun p=>a7 p (fun g=>k (b.length:Int) b g.1 g.2.1 g.2.2.1 g.2.2.2.1 g.2.2.2.2) (fun o=>some (.inl (b,o))) else none else none else none else some (.inr (b,(i,(j,(h,(c,d))))))
def t7(fu:Nat):Nat->qwf|0=>fun _ _ _ _ _ _ _=>none|n+1=>qn7 fu (t7 fu n)
def qn6(f:Bs)(d:Bs)(e:Bs)(b:Int)(a:List Bs)(c:List Bs):Option qpu:=t7 fu fu 0 f d e b a c
def qf5(b:Bs)(e:Bs):Option ((List Bs)):=(qn5 b).bind fun d=>(qn6 fu d b e (-1) [] []).bind fun c=>a7 c (fun f=>some f.2.2.2.2) (fun a=>bif decide (0<=a.2.2.2.1) then bif decide (0<=a.2.2.2.1/\a.2.2.2.1<=(a.2.1.length:Int)) then bif decide (List.length (a.2.2.2.2.2++([List.drop a.2.2.2.1.toNat a.2.1]:List Bs))<=bg) then some (a.2.2.2.2.2++([List.drop a.2.2.2.1.toNat a.2.1]:List Bs)) else none else none else some a.2.2.2.2.2)
def qga(e:List (Bs×Bs))(c:Bs)(d:Int):Option ((List Bs)):=(qf3 fu e).bind fun a=>bif !a.2 then some [] else bif decide (8<=d) then some [] else(qf5 fu c a.1).bind fun b=>some b
def qf4(a:wU×Int):Option Int:=(qfq fu a.1.val.1).bind fun c=>(ef c).bind fun d=>bif d then some c.1 else bif decide (0<(a.1.kids.length:Int)) then(qgc fu (Tree.node a.1.val a.1.kids)).bind fun f=>some f else bif decide (12000<(a.1.val.2.length:Int)) then some 1 else(qfd fu a.1.val.2).bind fun b=>bif b != 0 then some b else(qga fu a.1.val.1 a.1.val.2 a.2).bind fun e=>bif decide (0<(e.length:Int)) then some 5 else some 0
def qnv(h:Int)(f:List (Bs×Bs))(g:Bs)(d:List wU)(b:Int)(e:Int×Int):Option (((Int×Int)) ⊕ ((Int×Int))):=(qf4 fu ((Tree.node (f,g) d),b)).bind fun a=>bif a != 0 then(bt a h).bind fun c=>some (.inl c) else some (.inr e)
abbrev qg4:=(Int×(Int×Int)) ⊕ (Int×(Int×Int))
abbrev qky:=wU->Int->Int->(Int×Int)->Option qg4
abbrev qwg:=Int->(List wU)->Int->Int->Int->(Int×Int)->Option qg4
def qny(b:qky)(fu:Nat)(j:qwg):qwg:=fun e c d a i h=>bif decide (a<d) then(ap c a).bind fun f=>(b (Tree.node f.val f.kids) (af (e+1)) i h).bind fun k=>a7 k (fun l=>some (.inl l)) (fun g=>j e c d (af (a+1)) g.1 g.2) else some (.inr (i,h))
def qbp(a:qky)(fu:Nat):Nat->qwg|0=>fun _ _ _ _ _ _=>none|n+1=>qny a fu (qbp a fu n)
def qf8(a:qky)(fu:Nat)(b:Tree (wV×Bs))(d:Int)(c:Int)(g:Int×Int):Option qg4:=(qnv fu c b.val.1 b.val.2 b.kids d g).bind fun h=>a7 h (fun f=>some (.inl (c,f))) (fun e=>qbp a fu fu d b.kids (b.kids.length:Int) 0 (af (c+1)) e)
def xc(fu:Nat):Nat->qky|0=>fun _ _ _ _=>none|n+1=>qf8 (xc fu n) fu
def qyl(c:Tree (wV×Bs))(a:Int)(b:Int)(d:Int×Int):Option qg4:=xc fu fu c a b d
abbrev zaf:=(wU×(Int×Int)) ⊕ (wU×(Int×Int))
def qf9(a:Tree (wV×Bs))(e:Int×Int):Option zaf:=(qyl fu (Tree.node a.val a.kids) 0 0 e).bind fun d=>a7 d (fun c=>some (.inl ((Tree.node a.val a.kids),c.2))) (fun b=>some (.inr ((Tree.node a.val a.kids),b.2)))
def qbm(a:Tree (wV×Bs)):Option ((Int×Int)):=(w9 (Tree.node a.val a.kids)).bind fun d=>(qf6 fu (Tree.node d.val d.kids) (0,0) false).bind fun f=>a7 f (fun j=>some j.2.1) (fun c=>bif c.2.2 then(bt 2 (-2)).bind fun i=>some i else(w9 (Tree.node a.val a.kids)).bind fun e=>(qf9 fu (Tree.node e.val e.kids) c.2.1).bind fun h=>a7 h (fun g=>some g.2) (fun k=>(cq).bind fun b=>some b))
abbrev q98:=wU
def qnt(a:Tree (wV×Bs)):Option q98:=some (Tree.node a.val a.kids)
abbrev zan:=(Bs×Bs×wV)
def xg(c:Tree (wV×Bs)):Option zan:=(w6 fu c.val.1).bind fun d=>a7 d (fun b=>bif b.2.2.2 then some (b.1,(b.2.1,[])) else some (([116,101,120,116]:Bs),(([112,108,97,105,110]:Bs),[]))) (fun a=>bif a.2.2.2.1 then some (a.1,(a.2.1,a.2.2.2.2)) else some (([116,101,120,116]:Bs),(([112,108,97,105,110]:Bs),[])))
abbrev zam:=(Bs×Bs×wU×Bool) ⊕ (Bs×Bs×wU×Bool)
def qzg(k:Int)(h:List (Bs×Bs))(g:Bs)(e:List wU)(b:Bs)(c:Bs)(a:Tree (wV×Bs))(d:Bool):Option zam:=(xg fu (Tree.node (h,g) e)).bind fun f=>bif(e.length:Int)==0 then(di fu f.1 b).bind fun i=>bif i then(di fu f.2.1 c).bind fun j=>bif j then some (.inl (b,(c,((Tree.node (h,g) e),true)))) else some (.inr (b,(c,((Tree.node a.val a.kids),d)))) else some (.inr (b,(c,((Tree.node a.val a.kids),d)))) else some (.inr (b,(c,((Tree.node a.val a.kids),d))))
abbrev zaa:=(Bs×Bs×wU×Bool) ⊕ (Bs×Bs×wU×Bool)
def qyh(k:Int)(i:List (Bs×Bs))(j:Bs)(e:List wU)(l:Int)(h:Bs)(f:Bs)(c:Tree (wV×Bs))(d:Bool):Option zaa:=(qzg fu k i j e h f (Tree.node c.val c.kids) d).bind fun g=>a7 g (fun b=>some (.inl (b.1,(b.2.1,((Tree.node b.2.2.1.val b.2.2.1.kids),b.2.2.2))))) (fun a=>some (.inr (a.1,(a.2.1,((Tree.node a.2.2.1.val a.2.2.1.kids),a.2.2.2)))))
abbrev qg5:=(Int×Bs×Bs×wU×Bool) ⊕ (Int×Bs×Bs×wU×Bool)
abbrev qj7:=wU->Int->Int->Bs->Bs->wU->Bool->Option qg5
abbrev qug:=Int->(List wU)->Int->Int->Int->Bs->Bs->wU->Bool->Option qg5
def qym(b:qj7)(fu:Nat)(o:qug):qug:=fun i f g a l m k h e=>bif decide (a<g) then(ap f a).bind fun j=>(b (Tree.node j.val j.kids) (af (i+1)) l m k (Tree.node h.val h.kids) e).bind fun p=>a7 p (fun d=>some (.inl (d.1,(d.2.1,(d.2.2.1,((Tree.node d.2.2.2.1.val d.2.2.2.1.kids),d.2.2.2.2)))))) (fun c=>o i f g (af (a+1)) c.1 c.2.1 c.2.2.1 (Tree.node c.2.2.2.1.val c.2.2.2.1.kids) c.2.2.2.2) else some (.inr (l,(m,(k,((Tree.node h.val h.kids),e)))))
def qn1(a:qj7)(fu:Nat):Nat->qug|0=>fun _ _ _ _ _ _ _ _ _=>none|n+1=>qym a fu (qn1 a fu n)
def qnz(a:qj7)(fu:Nat)(d:Tree (wV×Bs))(g:Int)(e:Int)(i:Bs)(h:Bs)(f:Tree (wV×Bs))(j:Bool):Option qg5:=(qyh fu e d.val.1 d.val.2 d.kids g i h (Tree.node f.val f.kids) j).bind fun k=>a7 k (fun c=>some (.inl (e,(c.1,(c.2.1,((Tree.node c.2.2.1.val c.2.2.1.kids),c.2.2.2)))))) (fun b=>qn1 a fu fu g d.kids (d.kids.length:Int) 0 (af (e+1)) b.1 b.2.1 (Tree.node b.2.2.1.val b.2.2.1.kids) b.2.2.2)
def qn0(fu:Nat):Nat->qj7|0=>fun _ _ _ _ _ _ _=>none|n+1=>qnz (qn0 fu n) fu
def q92(g:Tree (wV×Bs))(e:Int)(f:Int)(b:Bs)(a:Bs)(d:Tree (wV×Bs))(c:Bool):Option qg5:=qn0 fu fu g e f b a d c
abbrev zag:=(wU×Bs×Bs×wU×Bool) ⊕ (wU×Bs×Bs×wU×Bool)
def qyo(a:Tree (wV×Bs))(g:Bs)(h:Bs)(d:Tree (wV×Bs))(e:Bool):Option zag:=(q92 fu (Tree.node a.val a.kids) 0 0 g h (Tree.node d.val d.kids) e).bind fun f=>a7 f (fun c=>some (.inl ((Tree.node a.val a.kids),(c.2.1,(c.2.2.1,((Tree.node c.2.2.2.1.val c.2.2.2.1.kids),c.2.2.2.2)))))) (fun b=>some (.inr ((Tree.node a.val a.kids),(b.2.1,(b.2.2.1,((Tree.node b.2.2.2.1.val b.2.2.2.1.kids),b.2.2.2.2))))))
abbrev q99:=(wU×Bs×Bs×wU×Bool) ⊕ (wU×Bs×Bs×wU×Bool)
def qyg(a:Tree (wV×Bs))(h:Bs)(i:Bs)(d:Tree (wV×Bs))(f:Bool):Option q99:=(w9 (Tree.node a.val a.kids)).bind fun e=>(qyo fu (Tree.node e.val e.kids) h i (Tree.node d.val d.kids) f).bind fun g=>a7 g (fun c=>some (.inl ((Tree.node a.val a.kids),(c.2.1,(c.2.2.1,((Tree.node c.2.2.2.1.val c.2.2.2.1.kids),c.2.2.2.2)))))) (fun b=>some (.inr ((Tree.node a.val a.kids),(b.2.1,(b.2.2.1,((Tree.node b.2.2.2.1.val b.2.2.2.1.kids),b.2.2.2.2))))))
abbrev zal:=wU×Bool
def qpm(c:Tree (wV×Bs))(e:Bs)(f:Bs):Option zal:=(qnt (Tree.node c.val c.kids)).bind fun b=>(qyg fu (Tree.node b.val b.kids) e f (Tree.node ([],[]) []) false).bind fun d=>a7 d (fun a=>some ((Tree.node a.2.2.2.1.val a.2.2.2.1.kids),a.2.2.2.2)) (fun g=>some ((Tree.node ([],[]) []),false))
def qgw(b:Bs)(a:UInt8):Option (Bs×UInt8):=some (b,a)
abbrev zaj:=(Bs×Bool×UInt8) ⊕ ((Bs×Bool) ⊕ ((Bs×Bool) ⊕ (Bs×Bool)))
def qgv(a:Bs):Option zaj:=(qgw ([55,98,105,116]:Bs) 127).bind fun c=>(qgw ([56,98,105,116]:Bs) 255).bind fun b=>(di fu c.1 a).bind fun g=>bif g then some (.inl (c.1,(true,c.2))) else(di fu b.1 a).bind fun d=>bif d then some (.inl (b.1,(true,b.2))) else(di fu ([98,97,115,101,54,52]:Bs) a).bind fun f=>bif f then some (.inr (.inl (([98,97,115,101,54,52]:Bs),true))) else(di fu ([113,117,111,116,101,100,45,112,114,105,110,116,97,98,108,101]:Bs) a).bind fun e=>bif e then some (.inr (.inr (.inl (([113,117,111,116,101,100,45,112,114,105,110,116,97,98,108,101]:Bs),true)))) else some (.inr (.inr (.inr (([]:Bs),false))))
abbrev zak:=(Bs×(Int×Int)×UInt8) ⊕ ((Bs×(Int×Int)) ⊕ ((Bs×(Int×Int)) ⊕ (Bs×(Int×Int))))
def qo2(b:Bs)(u:Bs):Option zak:=(qgv fu u).bind fun r=>a7 r (fun a=>bif !a.2.1 then(bt 18 (-3)).bind fun s=>some (.inl (a.1,(s,a.2.2))) else bif decide (12000<(b.length:Int)) then(bt 1 (-1)).bind fun q=>some (.inl (a.1,(q,a.2.2))) else(cq).bind fun j=>some (.inl (a.1,(j,a.2.2)))) (fun t=>a7 t (fun c=>bif !c.2 then(bt 18 (-3)).bind fun p=>some (.inr (.inl (c.1,p))) else bif decide (12000<(b.length:Int)) then(bt 1 (-1)).bind fun f=>some (.inr (.inl (c.1,f))) else(cq).bind fun k=>some (.inr (.inl (c.1,k)))) (fun v=>a7 v (fun e=>bif !e.2 then(bt 18 (-3)).bind fun l=>some (.inr (.inr (.inl (e.1,l)))) else bif decide (12000<(b.length:Int)) then(bt 1 (-1)).bind fun h=>some (.inr (.inr (.inl (e.1,h)))) else(cq).bind fun o=>some (.inr (.inr (.inl (e.1,o))))) (fun d=>bif !d.2 then(bt 18 (-3)).bind fun i=>some (.inr (.inr (.inr (d.1,i)))) else bif decide (12000<(b.length:Int)) then(bt 1 (-1)).bind fun g=>some (.inr (.inr (.inr (d.1,g)))) else(cq).bind fun m=>some (.inr (.inr (.inr (d.1,m)))))))
def qgu(a:Bs):Option ((Int×Int)×Bs):=bif decide (a.length<=bg) then(cq).bind fun b=>some (b,a) else none
def wn(b:Bs)(a:UInt8):Option Int:=(qp b a).bind fun c=>some c
abbrev quh:=Int->Int->Bs->Int->Int->(Int×Int)->Bs->Option ((Int×Int)×Bs)
def qe9(fu:Nat)(i:quh):quh:=fun g e d c b f a=>bif decide (b<c) then(ap d b).bind fun j=>bif j==61 then(cq).bind fun k=>some (k,a) else bif decide (0<List.length ([65,66,67,68,69,70,71,72,73,74,75,76,77,78,79,80,81,82,83,84,85,86,87,88,89,90,97,98,99,100,101,102,103,104,105,106,107,108,109,110,111,112,113,114,115,116,117,118,119,120,121,122,48,49,50,51,52,53,54,55,56,57,43,47]:Bs)) then(wn ([65,66,67,68,69,70,71,72,73,74,75,76,77,78,79,80,81,82,83,84,85,86,87,88,89,90,97,98,99,100,101,102,103,104,105,106,107,108,109,110,111,112,113,114,115,116,117,118,119,120,121,122,48,49,50,51,52,53,54,55,56,57,43,47]:Bs) j).bind fun h=>bif decide (h<0) then i g e d c (af (b+1)) f a else bif decide (8<=(af (e+6))) then bif decide (0<=af ((af (e+6))-8)) then bif decide (List.length (a++([du (Int.fdiv (af (((BitVec.ofInt 64 (af (g*2 ^ min (6:Int).toNat 64))|||BitVec.ofInt 64 h).toNat:Int))) (2 ^ min (af ((af (e+6))-8)).toNat 64))]:Bs))<=bg) then bif decide (0<=af ((af (e+6))-8)) then i (af (((BitVec.ofInt 64 (af (((BitVec.ofInt 64 (af (g*2 ^ min (6:Int).toNat 64))|||BitVec.ofInt 64 h).toNat:Int)))&&&BitVec.ofInt 64 (af ((af (1*2 ^ min (af ((af (e+6))-8)).toNat 64))-1))).toNat:Int))) (af ((af (e+6))-8)) d c (af (b+1)) f (a++([du (Int.fdiv (af (((BitVec.ofInt 64 (af (g*2 ^ min (6:Int).toNat 64))|||BitVec.ofInt 64 h).toNat:Int))) (2 ^ min (af ((af (e+6))-8)).toNat 64))]:Bs)) else none else none else none else i (af (((BitVec.ofInt 64 (af (g*2 ^ min (6:Int).toNat 64))|||BitVec.ofInt 64 h).toNat:Int))) (af (e+6)) d c (af (b+1)) f a else none else(cq).bind fun l=>some (l,a)
def tl(fu:Nat):Nat->quh|0=>fun _ _ _ _ _ _ _=>none|n+1=>qe9 fu (tl fu n)
def qe8(a:Bs):Option ((Int×Int)×Bs):=bif decide (24000<(a.length:Int)) then(bt 1 (-1)).bind fun b=>some (b,[]) else tl fu fu 0 0 a (a.length:Int) 0 (0,0) []
def qfe(b:Bs)(a:Bs):Option Bool:=some (b==a)
def wm(a:Bs)(b:Bs):Option Bool:=bif decide ((b.length:Int)<=(a.length:Int)) then bif decide (0<=af ((a.length:Int)-(b.length:Int))/\af ((a.length:Int)-(b.length:Int))<=(a.length:Int)) then(qfe (List.drop (af ((a.length:Int)-(b.length:Int))).toNat a) b).bind fun c=>some c else none else some false
def tr(a:Bs)(b:Bs):Option (Bs):=(wm a b).bind fun c=>bif c then bif decide (0<=af ((a.length:Int)-(b.length:Int))/\af ((a.length:Int)-(b.length:Int))<=(a.length:Int)) then some (List.take (af ((a.length:Int)-(b.length:Int))).toNat a) else none else some a
abbrev qui:=Bs->UInt8->Option (Bs)
def qx5(fu:Nat)(c:qui):qui:=fun a b=>bif decide (0<(a.length:Int)) then(ap a (af ((a.length:Int)-1))).bind fun d=>bif d==b then bif decide (0<=af ((a.length:Int)-1)/\af ((a.length:Int)-1)<=(a.length:Int)) then c (List.take (af ((a.length:Int)-1)).toNat a) b else none else some a else some a
def qmw(fu:Nat):Nat->qui|0=>fun _ _=>none|n+1=>qx5 fu (qmw fu n)
def qx4(b:Bs)(a:UInt8):Option (Bs):=qmw fu fu b a
abbrev qul:=Bs->Int->(List Bool)->Option ((List Bool)×Bool)
def qx3(fu:Nat)(e:qul):qul:=fun d b a=>bif decide (b<(d.length:Int)) then(ap d b).bind fun c=>bif decide (128<=c) then bif decide (a.length=256) then bif decide (a.length=a.length)&&decide (a.length=256) then bif decide (a.length=256)&&(true&&true) then some (a,false) else none else none else none else(a[c.toNat]?).bind fun f=>e d (af (b+1)) (List.set a c.toNat true) else bif decide (a.length=256) then bif decide (a.length=a.length)&&decide (a.length=256) then bif decide (a.length=256)&&(true&&true) then some (a,true) else none else none else none
def qmt(fu:Nat):Nat->qul|0=>fun _ _ _=>none|n+1=>qx3 fu (qmt fu n)
def qms(a:Bs):Option ((List Bool)×Bool):=qmt fu fu a 0 (List.replicate 256 false)
def qfi(b:UInt8)(a:List Bool):Option (Bool×(List Bool)):=(a[b.toNat]?).bind fun c=>some (c,a)
abbrev qum:=Bs->(List Bool)->Option (Bs×(List Bool))
def qmv(fu:Nat)(d:qum):qum:=fun a c=>bif decide (0<(a.length:Int)) then(ap a (af ((a.length:Int)-1))).bind fun e=>(qfi e c).bind fun b=>bif !b.1 then some (a,b.2) else bif decide (0<=af ((a.length:Int)-1)/\af ((a.length:Int)-1)<=(a.length:Int)) then d (List.take (af ((a.length:Int)-1)).toNat a) b.2 else none else some (a,c)
def qas(fu:Nat):Nat->qum|0=>fun _ _=>none|n+1=>qmv fu (qas fu n)
def qmu(b:Bs)(a:List Bool):Option (Bs×(List Bool)):=qas fu fu b a
abbrev zm8:=UInt8->UInt8->UInt8->UInt8->Option (Int×Int)
abbrev zm7:=UInt8->UInt8->UInt8->UInt8->Bool->Option (Int×Int)
abbrev zm6:=Bs->UInt8->Int->UInt8->UInt8->Option (Int×Int)
abbrev zm5:=Bs->UInt8->Int->UInt8->UInt8->Bool->Option (Int×Int)
abbrev zm4:=Bs->UInt8->Int->UInt8->Option (Int×Int)
abbrev zm3:=Bs->UInt8->Int->UInt8->Bool->Option (Int×Int)
def qzc:zm8:=fun d b a c=>some (IntKind.i32.wrap (((BitVec.ofInt 32 (IntKind.i32.wrap (((BitVec.ofInt 32 (IntKind.i32.wrap (((BitVec.ofInt 32 (IntKind.i32.wrap (((d&&&7).toNat:Int)*2 ^ min (18:Int).toNat 32))|||BitVec.ofInt 32 (IntKind.i32.wrap (((b&&&63).toNat:Int)*2 ^ min (12:Int).toNat 32))).toNat:Int)))|||BitVec.ofInt 32 (IntKind.i32.wrap (((a&&&63).toNat:Int)*2 ^ min (6:Int).toNat 32))).toNat:Int)))|||BitVec.ofInt 32 ((c&&&63).toNat:Int)).toNat:Int)),4)
def qpj:zm7:=fun e c b d a=>bif a then some (65533,1) else qzc e c b d
def qzb:zm6:=fun e d f b a=>bif decide (f<=3) then some (IntKind.i32.wrap (((BitVec.ofInt 32 (IntKind.i32.wrap (((BitVec.ofInt 32 (IntKind.i32.wrap (((d&&&15).toNat:Int)*2 ^ min (12:Int).toNat 32))|||BitVec.ofInt 32 (IntKind.i32.wrap (((b&&&63).toNat:Int)*2 ^ min (6:Int).toNat 32))).toNat:Int)))|||BitVec.ofInt 32 ((a&&&63).toNat:Int)).toNat:Int)),3) else(ap e 3).bind fun c=>bif decide (c<128) then qpj d b a c true else qpj d b a c (decide (191<c))
def qpi:zm5:=fun e d f b a c=>bif c then some (65533,1) else qzb e d f b a
def qza:zm4:=fun d c e a=>bif decide (e<=2) then some (IntKind.i32.wrap (((BitVec.ofInt 32 (IntKind.i32.wrap (((c&&&31).toNat:Int)*2 ^ min (6:Int).toNat 32))|||BitVec.ofInt 32 ((a&&&63).toNat:Int)).toNat:Int)),2) else(ap d 2).bind fun b=>bif decide (b<128) then qpi d c e a b true else qpi d c e a b (decide (191<b))
def qph:zm3:=fun d c e a b=>bif b then some (65533,1) else qza d c e a
def qpg(b:Bs):Option (Int×Int):=bif decide ((b.length:Int)<1) then some (65533,0) else(ap b 0).bind fun d=>(qed[d.toNat]?).bind fun a=>bif decide (240<=a) then(ap b 0).bind fun f=>some (IntKind.i32.wrap (((BitVec.ofInt 32 (IntKind.i32.wrap (((BitVec.ofInt 32 (f.toNat:Int) &&& ~~~ BitVec.ofInt 32 (Int.fdiv (IntKind.i32.wrap ((a.toNat:Int)*2 ^ min (31:Int).toNat 32)) (2 ^ min (31:Int).toNat 32))).toNat:Int)))|||BitVec.ofInt 32 (IntKind.i32.wrap (((BitVec.ofInt 32 65533&&&BitVec.ofInt 32 (Int.fdiv (IntKind.i32.wrap ((a.toNat:Int)*2 ^ min (31:Int).toNat 32)) (2 ^ min (31:Int).toNat 32))).toNat:Int)))).toNat:Int)),1) else(qee[(ne a (min (4:Int).toNat 8)).toNat]?).bind fun e=>bif decide ((b.length:Int)<((a&&&7).toNat:Int)) then some (65533,1) else(ap b 1).bind fun c=>bif decide (c<e.1) then qph b d ((a&&&7).toNat:Int) c true else qph b d ((a&&&7).toNat:Int) c (decide (e.2<c))
abbrev qun:=Bs->Bs->Int->Option (Int×Int)
def qy6(fu:Nat)(g:qun):qun:=fun b d e=>bif decide (0<e) then(ap d 0).bind fun a=>bif decide (a<128) then some ((a.toNat:Int),1) else(qpg b).bind fun c=>some c else(qpg b).bind fun f=>some f
def qpa(fu:Nat):Nat->qun|0=>fun _ _ _=>none|n+1=>qy6 fu (qpa fu n)
def qy5(a:Bs):Option (Int×Int):=qpa fu fu a a (a.length:Int)
abbrev zni:=Bs->Int->Int->Option (Int×Int)
abbrev znh:=Bs->Int->Int->Option (Int×Int)
abbrev qup:=Bs->Int->Int->Int->Option (Int×Int)
def qo8:zni:=fun d b a=>bif decide (0<=a/\a<=b/\b<=(d.length:Int)) then(qy5 fu (List.take (b.toNat-a.toNat) (List.drop a.toNat d))).bind fun c=>bif(af (a+c.2)) != b then some (65533,1) else some c else none
def qo7:znh:=fun a c b=>bif decide (b<0) then qo8 fu a c 0 else qo8 fu a c b
def qy4(e:qup):qup:=fun b c a d=>bif decide (d<=a) then(ap b a).bind fun f=>(qpb f).bind fun g=>bif g then qo7 fu b c a else e b c (af (a-1)) d else qo7 fu b c a
def qo6(fu:Nat):Nat->qup|0=>fun _ _ _ _=>none|n+1=>qy4 fu (qo6 fu n)
def qy1(a:Bs):Option (Int×Int):=bif(a.length:Int)==0 then some (65533,0) else(ap a (af ((a.length:Int)-1))).bind fun b=>bif decide ((b.toNat:Int)<128) then some ((b.toNat:Int),1) else qo6 fu fu a (a.length:Int) (af ((af ((a.length:Int)-1))-1)) (if 0>af ((a.length:Int)-4) then 0 else af ((a.length:Int)-4))
abbrev quq:=Int->Bs->Nat->Option Bool
def qx2(fu:Nat)(d:quq):quq:=fun c b a=>bif Nat.blt a (b.length) then bif(((dt b a).1:Nat):Int)==c then some true else d c b (a+(dt b a).2) else some false
def qmr(fu:Nat):Nat->quq|0=>fun _ _ _=>none|n+1=>qx2 fu (qmr fu n)
def qmq(b:Bs)(a:Int):Option Bool:=qmr fu fu a b 0
abbrev qur:=Bs->Bs->Option (Bs)
def qx7(d:qur):qur:=fun a c=>bif decide (0<(a.length:Int)) then(ap a (af ((a.length:Int)-1))).bind fun e=>bif decide (128<=(e.toNat:Int)) then(qy1 fu a).bind fun b=>(qmq fu c b.1).bind fun g=>bif !g then some a else bif decide (0<=af ((a.length:Int)-b.2)/\af ((a.length:Int)-b.2)<=(a.length:Int)) then d (List.take (af ((a.length:Int)-b.2)).toNat a) c else none else(qmq fu c (e.toNat:Int)).bind fun f=>bif !f then some a else bif decide (0<=af ((a.length:Int)-1)/\af ((a.length:Int)-1)<=(a.length:Int)) then d (List.take (af ((a.length:Int)-1)).toNat a) c else none else some a
def qmx(fu:Nat):Nat->qur|0=>fun _ _=>none|n+1=>qx7 fu (qmx fu n)
def qx6(b:Bs)(a:Bs):Option (Bs):=qmx fu fu b a
abbrev zny:=Bs->Bs->Option (Bs)
abbrev znx:=Bs->Bs->Bool->Option (Bs)
abbrev znw:=Bs->Bs->Option (Bs)
abbrev znv:=Bs->Bs->Bool->Option (Bs)
def qmp:zny:=fun c b=>(qms fu b).bind fun a=>bif decide (a.1.length=List.length (List.replicate 256 false))&&decide (a.1.length=256) then bif a.2 then(qmu fu c a.1).bind fun d=>some d.1 else(qx6 fu c b).bind fun e=>some e else none
def qfh:znx:=fun c b a=>bif a then(ap b 0).bind fun e=>(qx4 fu c e).bind fun d=>some d else qmp fu c b
def qmo:znw:=fun b a=>bif(a.length:Int)==1 then(ap a 0).bind fun c=>qfh fu b a (decide (c<128)) else qfh fu b a false
def qfg:znv:=fun b c a=>bif a then some b else qmo fu b c
def qff(b:Bs)(a:Bs):Option (Bs):=bif(b.length:Int)==0 then qfg fu b a true else qfg fu b a (a==([]:Bs))
abbrev qus:=Bs->Int->Bs->Option (Bs)
def qge(fu:Nat)(d:qus):qus:=fun c a b=>bif decide (a<(c.length:Int)) then(ap c a).bind fun h=>bif h==61 then bif decide (0<=af (a+1)/\af (a+1)<=(if(c.length:Int)<af (a+3) then(c.length:Int) else af (a+3))/\(if(c.length:Int)<af (a+3) then(c.length:Int) else af (a+3))<=(c.length:Int)) then(pg (List.take ((if(c.length:Int)<af (a+3) then(c.length:Int) else af (a+3)).toNat-(af (a+1)).toNat) (List.drop (af (a+1)).toNat c))).bind fun e=>bif e.2 then bif decide (List.length (b++([e.1]:Bs))<=bg) then d c (af ((af (a+2))+1)) (b++([e.1]:Bs)) else none else(ap c a).bind fun f=>bif decide (List.length (b++([f]:Bs))<=bg) then d c (af (a+1)) (b++([f]:Bs)) else none else none else(ap c a).bind fun g=>bif decide (List.length (b++([g]:Bs))<=bg) then d c (af (a+1)) (b++([g]:Bs)) else none else some b
def ua(fu:Nat):Nat->qus|0=>fun _ _ _=>none|n+1=>qge fu (ua fu n)
def qoa(a:Bs):Option (Bs):=ua fu fu a 0 []
abbrev zoc:=Bs->Int->Bs->Bs->(Int×Int)->Bs->Option ((Int×Int)×Bs)
abbrev zob:=Bs->Int->Bs->(Int×Int)->Bs->Option ((Int×Int)×Bs)
abbrev zoa:=Bs->Int->(Int×Int)->Bs->Option ((Int×Int)×Bs)
abbrev zy:=Bs->(Int×Int)->Bs->Option ((Int×Int)×Bs)
def qbs(g:zy):zoc:=fun f b h e c a=>(qoa fu h).bind fun d=>bif decide (List.length (a++d)<=bg) then bif decide (List.length ((a++d)++e)<=bg) then bif decide (0<=b/\b<=(f.length:Int)) then g (List.drop b.toNat f) c ((a++d)++e) else none else none else none
def qbr(g:zy):zob:=fun f b e c d=>bif decide (0<=(e.length:Int)/\(e.length:Int)<=b/\b<=(f.length:Int)) then(qff fu e ([32,9]:Bs)).bind fun a=>bif decide (0<List.length ([61]:Bs)) then(wm a ([61]:Bs)).bind fun h=>bif h then bif decide (0<=af ((a.length:Int)-1)/\af ((a.length:Int)-1)<=(a.length:Int)) then qbs fu g f b (List.take (af ((a.length:Int)-1)).toNat a) [] c d else none else qbs fu g f b a (List.take (b.toNat-(e.length:Int).toNat) (List.drop (e.length:Int).toNat f)) c d else none else none
def t8(f:zy):zoa:=fun d a b c=>bif decide (0<=a/\a<=(d.length:Int)) then bif decide (0<List.length ([10]:Bs)) then(tr (List.take a.toNat d) ([10]:Bs)).bind fun e=>bif decide ((e.length:Int)<a) then bif decide (0<List.length ([13]:Bs)) then(tr e ([13]:Bs)).bind fun g=>qbr fu f d a g b c else none else qbr fu f d a e b c else none else none
def qn9(d:zy):zy:=fun c b a=>bif decide (0<(c.length:Int)) then(wn c 10).bind fun e=>bif(af (e+1))==0 then t8 fu d c (c.length:Int) b a else t8 fu d c (af (e+1)) b a else(cq).bind fun f=>some (f,a)
def qbq(fu:Nat):Nat->zy|0=>fun _ _ _=>none|n+1=>qn9 fu (qbq fu n)
def qgd(a:Bs):Option ((Int×Int)×Bs):=bif decide (48000<(a.length:Int)) then(bt 1 (-1)).bind fun b=>some (b,[]) else qbq fu fu a (0,0) []
def qb5(a:Bs)(o:Bs):Option ((Int×Int)×Bs):=(qo2 fu a o).bind fun m=>a7 m (fun h=>(ef h.2.1).bind fun q=>bif q then some (h.2.1,[]) else(qgu a).bind fun k=>some k) (fun l=>a7 l (fun j=>(ef j.2).bind fun b=>bif b then some (j.2,[]) else(qe8 fu a).bind fun c=>some c) (fun p=>a7 p (fun i=>(ef i.2).bind fun e=>bif e then some (i.2,[]) else(qgd fu a).bind fun f=>some f) (fun g=>(ef g.2).bind fun d=>bif d then some (g.2,[]) else none)))
abbrev qut:=wV->Int->Int->wU->Option (Bs)
def qpk(e:qut):qut:=fun d c b a=>bif decide (b<c) then(ap d b).bind fun f=>(di fu f.1 ([67,111,110,116,101,110,116,45,84,114,97,110,115,102,101,114,45,69,110,99,111,100,105,110,103]:Bs)).bind fun i=>bif !i then e d c (af (b+1)) (Tree.node a.val a.kids) else(qb5 fu a.val.2 f.2).bind fun g=>bif g.1.1 != 18 then some g.2 else e d c (af (b+1)) (Tree.node a.val a.kids) else(qb5 fu a.val.2 ([55,98,105,116]:Bs)).bind fun h=>some h.2
def qb6(fu:Nat):Nat->qut|0=>fun _ _ _ _=>none|n+1=>qpk fu (qb6 fu n)
def qgy(a:Tree (wV×Bs)):Option (Bs):=qb6 fu fu a.val.1 (a.val.1.length:Int) 0 (Tree.node a.val a.kids)
def qfj(b:Bs)(a:Int):Option (Bs×Int):=some (b,a)
abbrev q95:=(Bs×Bool×Int) ⊕ ((Bs×Bool) ⊕ ((Bs×Bool) ⊕ (Bs×Bool)))
def tu(a:Bs):Option q95:=(qfj ([97,115,99,105,105]:Bs) 128).bind fun c=>(qfj ([108,97,116,105,110,49]:Bs) 256).bind fun b=>(di fu c.1 a).bind fun g=>bif g then some (.inl (c.1,(true,c.2))) else(di fu b.1 a).bind fun d=>bif d then some (.inl (b.1,(true,b.2))) else(di fu ([117,116,102,56]:Bs) a).bind fun f=>bif f then some (.inr (.inl (([117,116,102,56]:Bs),true))) else(di fu ([117,116,102,49,54,98,101]:Bs) a).bind fun e=>bif e then some (.inr (.inr (.inl (([117,116,102,49,54,98,101]:Bs),true)))) else some (.inr (.inr (.inr (([]:Bs),false))))
abbrev quu:=Bs->Int->Int->Int->(List Int)->Option (Int×(List Int))
def qm0(fu:Nat)(g:quu):quu:=fun f e b c a=>bif decide (b<e) then(ap f b).bind fun d=>bif decide (c<=(d.toNat:Int)) then bif decide (List.length (a++([65533]:List Int))<=bg) then g f e (af (b+1)) c (a++([65533]:List Int)) else none else bif decide (List.length (a++([(d.toNat:Int)]:List Int))<=bg) then g f e (af (b+1)) c (a++([(d.toNat:Int)]:List Int)) else none else some (c,a)
def qau(fu:Nat):Nat->quu|0=>fun _ _ _ _ _=>none|n+1=>qm0 fu (qau fu n)
def qmz(a:Bs)(b:Int):Option (Int×(List Int)):=qau fu fu a (a.length:Int) 0 b []
def qmy(a:Bs):Option ((List Int)):=bif decide (a.length<=4294967296) then some (ej a) else none
def qav(b:Int)(a:Bs):Option (Int×Bs):=(ap a b).bind fun c=>(ap a (af (b+1))).bind fun d=>some (IntKind.i32.wrap (((BitVec.ofInt 32 (IntKind.i32.wrap ((c.toNat:Int)*2 ^ min (8:Int).toNat 32))|||BitVec.ofInt 32 (d.toNat:Int)).toNat:Int)),a)
abbrev zo5:=Int->Int->Bs->(List Int)->Option ((List Int))
abbrev zo4:=Int->Int->Int->Bool->Bs->(List Int)->Option ((List Int))
abbrev zo3:=Int->Int->Bool->Bs->(List Int)->Option ((List Int))
abbrev zz:=Int->Bs->(List Int)->Option ((List Int))
def tv(fu:Nat)(d:zz):zo5:=fun e c b a=>bif decide (55296<=c) then bif decide (c<57344) then bif decide (List.length (a++([65533]:List Int))<=bg) then d (af (e+2)) b (a++([65533]:List Int)) else none else bif decide (List.length (a++([c]:List Int))<=bg) then d (af (e+2)) b (a++([c]:List Int)) else none else bif decide (List.length (a++([c]:List Int))<=bg) then d (af (e+2)) b (a++([c]:List Int)) else none
def qaw(d:zz):zo4:=fun e f g c a b=>bif c then tv fu d (af (e+2)) (IntKind.i32.wrap ((IntKind.i32.wrap ((IntKind.i32.wrap (65536+(IntKind.i32.wrap ((IntKind.i32.wrap (f-55296))*2 ^ min (10:Int).toNat 32))))+g))-56320)) a b else tv fu d e f a b
def wo(e:zz):zo3:=fun d f g c a=>bif g then(qav (af (d+2)) c).bind fun b=>bif decide (56320<=b.1) then qaw fu e d f b.1 (decide (b.1<57344)) b.2 a else qaw fu e d f b.1 false b.2 a else tv fu e d f c a
def qm2(e:zz):zz:=fun c d a=>bif decide (c<(d.length:Int)) then bif(af (c+1))==(d.length:Int) then bif decide (List.length (a++([65533]:List Int))<=bg) then some (a++([65533]:List Int)) else none else(qav c d).bind fun b=>bif decide (55296<=b.1) then bif decide (b.1<56320) then wo fu e c b.1 (decide ((af (c+3))<(b.2.length:Int))) b.2 a else wo fu e c b.1 false b.2 a else wo fu e c b.1 false b.2 a else some a
def qq(fu:Nat):Nat->zz|0=>fun _ _ _=>none|n+1=>qm2 fu (qq fu n)
def qm1(a:Bs):Option ((List Int)):=qq fu fu 0 a []
def qat(q:Bs)(a:Bs):Option (Bs×(Int×Int)):=bif decide (12000<(a.length:Int)) then(bt 1 (-1)).bind fun p=>some (([]:Bs),p) else(tu fu q).bind fun m=>a7 m (fun k=>bif !k.2.1 then(bt 18 (-2)).bind fun l=>some (([]:Bs),l) else(qmz fu a k.2.2).bind fun f=>(cq).bind fun j=>some (fh f.2,j)) (fun o=>a7 o (fun s=>bif !s.2 then(bt 18 (-2)).bind fun b=>some (([]:Bs),b) else(qmy a).bind fun g=>(cq).bind fun h=>some (fh g,h)) (fun u=>a7 u (fun t=>bif !t.2 then(bt 18 (-2)).bind fun d=>some (([]:Bs),d) else(qm1 fu a).bind fun i=>(cq).bind fun e=>some (fh i,e)) (fun r=>bif !r.2 then(bt 18 (-2)).bind fun c=>some (([]:Bs),c) else none)))
def qpo(a:Tree (wV×Bs)):Option (Bs):=(xg fu (Tree.node a.val a.kids)).bind fun f=>(nj fu f ([99,104,97,114,115,101,116]:Bs)).bind fun d=>(qgy fu (Tree.node a.val a.kids)).bind fun c=>(qat fu d.1 c).bind fun b=>bif b.2.1==18 then(qat fu ([117,116,102,56]:Bs) c).bind fun h=>(xd h.1 ([13,10]:Bs) ([10]:Bs)).bind fun g=>some g else(xd b.1 ([13,10]:Bs) ([10]:Bs)).bind fun e=>some e
def qzj(b:Bs):Option (Bs):=(qb1 fu b ([47,32]:Bs)).bind fun c=>(qo fu c).bind fun a=>bif a==([98,114]:Bs) then some ([10]:Bs) else bif a==([47,112]:Bs) then some ([10]:Bs) else bif a==([47,100,105,118]:Bs) then some ([10]:Bs) else bif a==([47,108,105]:Bs) then some ([10]:Bs) else some ([]:Bs)
def qof(a:Bs)(c:Bs):Option (Int×Bs):=(wq c).bind fun b=>bif decide (List.length (b++a)<=bg) then some ((a.length:Int),b++a) else none
def qbw(a:UInt8)(c:Bs):Option (Bs):=(wq c).bind fun b=>bif decide (List.length (b++([a]:Bs))<=bg) then some (b++([a]:Bs)) else none
def qx9(b:Bs)(a:Bs):Option Bool:=bif decide ((a.length:Int)<=(b.length:Int)) then bif decide (0<=(a.length:Int)/\(a.length:Int)<=(b.length:Int)) then some ((List.take (a.length:Int).toNat b)==a) else none else some false
def qx8(b:Bs)(a:Bs):Option (Bs×Bool):=(qx9 b a).bind fun c=>bif !c then some (b,false) else bif decide (0<=(a.length:Int)/\(a.length:Int)<=(b.length:Int)) then some (List.drop (a.length:Int).toNat b,true) else none
def qyq(b:Bs)(a:Bs):Option (Bs×Bool):=(qx8 b a).bind fun c=>some c
abbrev qux:=Bs->Int->Int->Option Bool
def qx1(fu:Nat)(d:qux):qux:=fun b c a=>bif decide (a<c) then(ap b a).bind fun e=>bif decide (e<48) then some false else(ap b a).bind fun f=>bif decide (57<f) then some false else d b c (af (a+1)) else some (!(b==([]:Bs)))
def qmj(fu:Nat):Nat->qux|0=>fun _ _ _=>none|n+1=>qx1 fu (qmj fu n)
def qx0(a:Bs):Option Bool:=qmj fu fu a (a.length:Int) 0
abbrev zp8:=Bs->Bool->Option (Bs×Bool)
def qg0(fu:Nat):zp8:=fun c a=>bif a then some (([]:Bs),false) else(qbv c).bind fun b=>some (gy (IntKind.i32.wrap (b)),decide (b<=1114111))
def qzf(a:Bs):Option (Bs×Bool):=bif a==([108,116]:Bs) then some (([60]:Bs),true) else bif a==([103,116]:Bs) then some (([62]:Bs),true) else bif a==([97,109,112]:Bs) then some (([38]:Bs),true) else bif a==([113,117,111,116]:Bs) then some (([34]:Bs),true) else bif a==([110,98,115,112]:Bs) then some (([32]:Bs),true) else(qyq a ([35]:Bs)).bind fun b=>bif !b.2 then qg0 fu b.1 true else(qx0 fu b.1).bind fun c=>bif !c then qg0 fu b.1 true else qg0 fu b.1 (decide (6<(b.1.length:Int)))
abbrev quy:=Bs->Int->Bs->Option (Bs)
def qzi(d:quy):quy:=fun b a c=>bif decide (a<(b.length:Int)) then(ap b a).bind fun p=>bif p==60 then bif decide (0<=a/\a<=(b.length:Int)) then(ud (List.drop a.toNat b) 62).bind fun e=>bif decide (0<e) then bif decide (0<=af (a+1)/\af (a+1)<=af (a+e)/\af (a+e)<=(b.length:Int)) then(qzj fu (List.take ((af (a+e)).toNat-(af (a+1)).toNat) (List.drop (af (a+1)).toNat b))).bind fun s=>(qof s c).bind fun t=>d b (af ((af (a+e))+1)) t.2 else none else(ap b a).bind fun r=>(qbw r c).bind fun u=>d b (af (a+1)) u else none else bif p==38 then bif decide (0<=a/\a<=(b.length:Int)) then(ud (List.drop a.toNat b) 59).bind fun f=>bif decide (0<f) then bif decide (0<=af (a+1)/\af (a+1)<=af (a+f)/\af (a+f)<=(b.length:Int)) then(qzf fu (List.take ((af (a+f)).toNat-(af (a+1)).toNat) (List.drop (af (a+1)).toNat b))).bind fun o=>bif o.2 then(qof o.1 c).bind fun q=>d b (af ((af (a+f))+1)) q.2 else(ap b a).bind fun k=>(qbw k c).bind fun m=>d b (af (a+1)) m else none else(ap b a).bind fun g=>(qbw g c).bind fun j=>d b (af (a+1)) j else none else(ap b a).bind fun h=>(qbw h c).bind fun i=>d b (af (a+1)) i else(qe7 c).bind fun l=>some l
def qpn(fu:Nat):Nat->quy|0=>fun _ _ _=>none|n+1=>qzi fu (qpn fu n)
def qzh(a:Bs):Option (Bs):=qpn fu fu a 0 []
def qgz(a:Tree (wV×Bs)):Option (Bs×(Int×Int)):=(qbm fu (Tree.node a.val a.kids)).bind fun e=>(ef e).bind fun h=>bif h then some (([]:Bs),e) else(qpm fu (Tree.node a.val a.kids) ([116,101,120,116]:Bs) ([112,108,97,105,110]:Bs)).bind fun d=>bif d.2 then(qpo fu (Tree.node d.1.val d.1.kids)).bind fun f=>(cq).bind fun j=>some (f,j) else(qpm fu (Tree.node a.val a.kids) ([116,101,120,116]:Bs) ([104,116,109,108]:Bs)).bind fun c=>bif c.2 then(qpo fu (Tree.node c.1.val c.1.kids)).bind fun i=>(qzh fu i).bind fun k=>(cq).bind fun g=>some (k,g) else(cq).bind fun b=>some (([]:Bs),b)
abbrev zqj:=wV->Int->Int->wU->Option (Bs×Bool)
abbrev qkc:=wV->Int->Int->wU->Option (Bs×Bool)
def qz(fu:Nat)(e:qkc):zqj:=fun b d c a=>e b d (af (c+1)) (Tree.node a.val a.kids)
def qpl(f:qkc):qkc:=fun c d b a=>bif decide (b<d) then(ap c b).bind fun h=>(di fu h.1 ([67,111,110,116,101,110,116,45,68,105,115,112,111,115,105,116,105,111,110]:Bs)).bind fun o=>bif !o then qz fu f c d b (Tree.node a.val a.kids) else bif decide (List.length ([120,47]:Bs)+h.2.length<=bf) then(ws fu (([120,47]:Bs)++h.2)).bind fun q=>a7 q (fun j=>(ef j.2.2).bind fun p=>bif p then qz fu f c d b (Tree.node a.val a.kids) else(nj fu (j.1,(j.2.1,[])) ([102,105,108,101,110,97,109,101]:Bs)).bind fun l=>bif l.2.1 then some (l.1,true) else qz fu f c d b (Tree.node a.val a.kids)) (fun e=>(ef (e.2.2.1,e.2.2.2.1)).bind fun m=>bif m then qz fu f c d b (Tree.node a.val a.kids) else(nj fu (e.1,(e.2.1,e.2.2.2.2)) ([102,105,108,101,110,97,109,101]:Bs)).bind fun k=>bif k.2.1 then some (k.1,true) else qz fu f c d b (Tree.node a.val a.kids)) else none else(xg fu (Tree.node a.val a.kids)).bind fun i=>(nj fu i ([110,97,109,101]:Bs)).bind fun g=>some (g.1,g.2.1)
def xf(fu:Nat):Nat->qkc|0=>fun _ _ _ _=>none|n+1=>qpl fu (xf fu n)
def qg1(a:Tree (wV×Bs)):Option (Bs×Bool):=xf fu fu a.val.1 (a.val.1.length:Int) 0 (Tree.node a.val a.kids)
def qze(f:Int)(d:List (Bs×Bs))(e:Bs)(c:List wU)(a:List Bs):Option ((List Bs)):=(qg1 fu (Tree.node (d,e) c)).bind fun b=>bif b.2 then bif(c.length:Int)==0 then bif decide (List.length (a++([b.1]:List Bs))<=bg) then some (a++([b.1]:List Bs)) else none else some a else some a
def qyi(f:Int)(d:List (Bs×Bs))(e:Bs)(a:List wU)(g:Int)(c:List Bs):Option ((List Bs)):=(qze fu f d e a c).bind fun b=>some b
abbrev qkd:=wU->Int->Int->(List Bs)->Option (Int×(List Bs))
abbrev qu0:=Int->(List wU)->Int->Int->Int->(List Bs)->Option (Int×(List Bs))
def qyn(b:qkd)(fu:Nat)(j:qu0):qu0:=fun f d e a i c=>bif decide (a<e) then(ap d a).bind fun g=>(b (Tree.node g.val g.kids) (af (f+1)) i c).bind fun h=>j f d e (af (a+1)) h.1 h.2 else some (i,c)
def qn4(a:qkd)(fu:Nat):Nat->qu0|0=>fun _ _ _ _ _ _=>none|n+1=>qyn a fu (qn4 a fu n)
def qn2(a:qkd)(fu:Nat)(b:Tree (wV×Bs))(c:Int)(d:Int)(e:List Bs):Option (Int×(List Bs)):=(qyi fu d b.val.1 b.val.2 b.kids c e).bind fun f=>qn4 a fu fu c b.kids (b.kids.length:Int) 0 (af (d+1)) f
def qn3(fu:Nat):Nat->qkd|0=>fun _ _ _ _=>none|n+1=>qn2 (qn3 fu n) fu
def q93(c:Tree (wV×Bs))(a:Int)(b:Int)(d:List Bs):Option (Int×(List Bs)):=qn3 fu fu c a b d
abbrev zah:=wU×(List Bs)
def qyp(a:Tree (wV×Bs))(b:List Bs):Option zah:=(q93 fu (Tree.node a.val a.kids) 0 0 b).bind fun c=>some ((Tree.node a.val a.kids),c.2)
abbrev zab:=wU×(List Bs)
def qyj(a:Tree (wV×Bs))(d:List Bs):Option zab:=(w9 (Tree.node a.val a.kids)).bind fun b=>(qyp fu (Tree.node b.val b.kids) d).bind fun c=>some ((Tree.node a.val a.kids),c.2)
def qzd(a:Tree (wV×Bs)):Option ((Int×Int)×(List Bs)):=(qbm fu (Tree.node a.val a.kids)).bind fun b=>(ef b).bind fun e=>bif e then some (b,[]) else(qnt (Tree.node a.val a.kids)).bind fun c=>(qyj fu (Tree.node c.val c.kids) []).bind fun d=>(cq).bind fun f=>some (f,d.2)
abbrev qu1:=(List Bs)->(List Bs)->Int->Option Bool
def qxb(fu:Nat)(d:qu1):qu1:=fun b c a=>bif decide (a<(b.length:Int)) then(ap b a).bind fun e=>(ap c a).bind fun f=>bif !(e==f) then some false else d b c (af (a+1)) else some true
def qlw(fu:Nat):Nat->qu1|0=>fun _ _ _=>none|n+1=>qxb fu (qlw fu n)
def qxa(b:List Bs)(a:List Bs):Option Bool:=bif(b.length:Int) != (a.length:Int) then some false else qlw fu fu b a 0
def qxw:Option Bool:=bif decide (0<List.length ([97]:Bs)) then(qgz fu (Tree.node ([],([97]:Bs)) [])).bind fun b=>(qzd fu (Tree.node (([(([67,111,110,116,101,110,116,45,68,105,115,112,111,115,105,116,105,111,110]:Bs),([97,116,116,97,99,104,109,101,110,116,59,32,102,105,108,101,110,97,109,101,61,97,46,116,120,116]:Bs))]:List (Bs×Bs)),[]) [])).bind fun a=>bif b.2.1==0 then bif a.1.1==0 then bif b.1==([97]:Bs) then(qxa fu a.2 ([([97,46,116,120,116]:Bs)]:List Bs)).bind fun c=>some c else some false else some false else some false else none
def tj(b:Int)(a:Int):Option ((Int×Int)):=some (b,a)
def jp(a:Int)(b:Int)(c:Int):Option Bool:=bif decide (b<=a) then some (decide (a<=c)) else some false
abbrev qu4:=UInt8->Bs->Int->Option Bool
def qw7(fu:Nat)(d:qu4):qu4:=fun c b a=>bif decide (a<(b.length:Int)) then(ap b a).bind fun e=>bif e==c then some true else d c b (af (a+1)) else some false
def qls(fu:Nat):Nat->qu4|0=>fun _ _ _=>none|n+1=>qw7 fu (qls fu n)
def qlr(b:UInt8)(a:Bs):Option Bool:=qls fu fu b a 0
def qwk(a:UInt8):Option Bool:=bif a==32 then some true else some (a==9)
abbrev qu6:=Int->Bs->Option (Bs)
def qwo(fu:Nat)(c:qu6):qu6:=fun b a=>bif decide (b<(a.length:Int)) then bif decide (0<=b/\b.toNat<a.length) then(a[b.toNat]?).bind fun e=>(jp (e.toNat:Int) 65 90).bind fun f=>bif f then bif decide (0<=b/\b.toNat<a.length) then(a[b.toNat]?).bind fun d=>bif decide (0<=b/\b.toNat<a.length) then(a[b.toNat]?).bind fun g=>c (af (b+1)) (List.set a b.toNat (d+32)) else none else none else c (af (b+1)) a else none else some a
def qk3(fu:Nat):Nat->qu6|0=>fun _ _=>none|n+1=>qwo fu (qk3 fu n)
def qak(a:Bs):Option (Bs):=bif decide (a.length<=maxLen) then qk3 fu fu 0 a else none
def qn(b:Bs)(c:Bs):Option Bool:=(qak fu b).bind fun d=>(qak fu c).bind fun a=>some (d==a)
abbrev qu7:=wV->Bs->Int->(List Bs)->Option ((List Bs))
def qxh(e:qu7):qu7:=fun c d b a=>bif decide (b<(c.length:Int)) then(ap c b).bind fun g=>(qn fu g.1 d).bind fun h=>bif h then(ap c b).bind fun f=>bif decide (List.length (a++([f.2]:List Bs))<=bg) then e c d (af (b+1)) (a++([f.2]:List Bs)) else none else e c d (af (b+1)) a else some a
def ql2(fu:Nat):Nat->qu7|0=>fun _ _ _ _=>none|n+1=>qxh fu (ql2 fu n)
def qxg(b:List (Bs×Bs))(a:Bs):Option ((List Bs)):=ql2 fu fu b a 0 []
abbrev qu8:=Bs->Int->Option Int
def qxq(fu:Nat)(c:qu8):qu8:=fun b a=>bif decide (a<(b.length:Int)) then(ap b a).bind fun e=>(qwk e).bind fun d=>bif d then c b (af (a+1)) else some a else some a
def qmb(fu:Nat):Nat->qu8|0=>fun _ _=>none|n+1=>qxq fu (qmb fu n)
def pc(b:Bs)(a:Int):Option Int:=qmb fu fu b a
def qlx(a:UInt8):Option Bool:=(jp (a.toNat:Int) 33 126).bind fun c=>bif c then(qlr fu a ([40,41,60,62,64,44,59,58,92,34,47,91,93,63,61,42,37,39]:Bs)).bind fun b=>some (!b) else some false
abbrev qu9:=Bs->Int->Bs->Option Int
def qxp(d:qu9):qu9:=fun b a c=>bif decide (a<(b.length:Int)) then(ap b a).bind fun g=>(qlx fu g).bind fun f=>bif f then d b (af (a+1)) c else(ap b a).bind fun h=>(qlr fu h c).bind fun e=>bif e then d b (af (a+1)) c else some a else some a
def qma(fu:Nat):Nat->qu9|0=>fun _ _ _=>none|n+1=>qxp fu (qma fu n)
def qam(c:Bs)(a:Int)(b:Bs):Option Int:=qma fu fu c a b
abbrev qva:=Bs->Bs->Int->Option Int
def qwm(fu:Nat)(d:qva):qva:=fun c b a=>bif decide ((af (a+(b.length:Int)))<=(c.length:Int)) then bif decide (0<=a/\a<=af (a+(b.length:Int))/\af (a+(b.length:Int))<=(c.length:Int)) then bif(List.take ((af (a+(b.length:Int))).toNat-a.toNat) (List.drop a.toNat c))==b then some a else d c b (af (a+1)) else none else some (-1)
def qk1(fu:Nat):Nat->qva|0=>fun _ _ _=>none|n+1=>qwm fu (qk1 fu n)
def qwl(c:Bs)(a:Bs)(b:Int):Option Int:=qk1 fu fu c a b
abbrev zsg:=Bs->Int->Int->Int->Int->Option Int
abbrev zsf:=Bs->Int->Int->Int->Int->Bool->Option Int
abbrev qeo:=Bs->Int->Int->Int->Int->Option Int
def qxl(fu:Nat)(d:qeo):zsg:=fun a g c f b=>(ap a b).bind fun e=>d a g c (af ((af (10*f))+((e-48).toNat:Int))) (af (b+1))
def ql6(c:qeo):zsf:=fun f e b d g a=>bif a then some (-1) else qxl fu c f e b d g
def qxk(f:qeo):qeo:=fun a e c d b=>bif decide (b<(a.length:Int)) then(ap a b).bind fun h=>(jp (h.toNat:Int) 48 57).bind fun g=>bif !g then ql6 fu f a e c d b true else ql6 fu f a e c d b (decide (9<=b)) else(jp (a.length:Int) e c).bind fun i=>bif !i then some (-1) else some d
def ql5(fu:Nat):Nat->qeo|0=>fun _ _ _ _ _=>none|n+1=>qxk fu (ql5 fu n)
def qxj(c:Bs)(a:Int)(b:Int):Option Int:=ql5 fu fu c a b 0 0
abbrev q8l:=Int->Option (Bs)
def ql3(b:q8l)(fu:Nat)(a:Int):Option (Bs):=bif decide (a<10) then bif decide (0<=a/\a<=IntKind.u64.wrap (a+1)/\IntKind.u64.wrap (a+1)<=(List.length ([48,49,50,51,52,53,54,55,56,57]:Bs):Int)) then some (List.take ((IntKind.u64.wrap (a+1)).toNat-a.toNat) (List.drop a.toNat ([48,49,50,51,52,53,54,55,56,57]:Bs))) else none else(b (IntKind.u64.wrap (Int.tdiv a 10))).bind fun c=>bif decide (0<=Int.tmod a 10/\Int.tmod a 10<=IntKind.u64.wrap ((Int.tmod a 10)+1)/\IntKind.u64.wrap ((Int.tmod a 10)+1)<=(List.length ([48,49,50,51,52,53,54,55,56,57]:Bs):Int)) then bif decide (c.length+List.length (List.take ((IntKind.u64.wrap ((Int.tmod a 10)+1)).toNat-(Int.tmod a 10).toNat) (List.drop (Int.tmod a 10).toNat ([48,49,50,51,52,53,54,55,56,57]:Bs)))<=bf) then some (c++(List.take ((IntKind.u64.wrap ((Int.tmod a 10)+1)).toNat-(Int.tmod a 10).toNat) (List.drop (Int.tmod a 10).toNat ([48,49,50,51,52,53,54,55,56,57]:Bs)))) else none else none
def ql4(fu:Nat):Nat->q8l|0=>fun _=>none|n+1=>ql3 (ql4 fu n) fu
def qxi(a:Int):Option (Bs):=ql4 fu fu a
def qw6(a:Int):Option (Bs):=bif decide (a<0) then(qxi fu (IntKind.u64.wrap ((IntKind.u64.wrap (af (0-(af (a+1)))))+1))).bind fun b=>bif decide (List.length ([45]:Bs)+b.length<=bf) then some (([45]:Bs)++b) else none else(qxi fu (IntKind.u64.wrap (a))).bind fun c=>some c
abbrev qps:=(Bs×Bs×Int×Bool)×Bool
abbrev zsv:=Bs->(Bs×Bs×Int×Bool)->(Bs×Bs×Int×Bool)->Option qps
abbrev zsu:=Bs->Bool->(Bs×Bs×Int×Bool)->(Bs×Bs×Int×Bool)->Option qps
def ql8:zsv:=fun c d a=>(qxj fu c 1 9).bind fun b=>bif !(a.1==([]:Bs)) then bif decide (0<=b) then(qw6 fu b).bind fun e=>some ((a.1,(a.2.1,(b,a.2.2.2))),e==c) else some ((a.1,(a.2.1,(b,a.2.2.2))),false) else some ((a.1,(a.2.1,(b,a.2.2.2))),false)
def ql7:zsu:=fun b d c a=>bif d then bif decide (0<=af ((b.length:Int)-1)/\af ((b.length:Int)-1)<=(b.length:Int)) then ql8 fu (List.take (af ((b.length:Int)-1)).toNat b) c (a.1,(a.2.1,(a.2.2.1,true))) else none else ql8 fu b c a
def qxm(b:Bs)(c:Bs):Option qps:=(qwl fu b ([42]:Bs) 0).bind fun a=>bif decide (a<0) then some ((b,(c,((-1),false))),!(b==([]:Bs))) else bif decide (0<=af (a+1)/\af (a+1)<=(b.length:Int)) then bif decide (0<=a/\a<=(b.length:Int)) then bif decide (0<(List.length (List.drop (af (a+1)).toNat b):Int)) then(ap (List.drop (af (a+1)).toNat b) (af ((List.length (List.drop (af (a+1)).toNat b):Int)-1))).bind fun d=>ql7 fu (List.drop (af (a+1)).toNat b) (d==42) (([]:Bs),(([]:Bs),(0,false))) (List.take a.toNat b,(c,((-1),false))) else ql7 fu (List.drop (af (a+1)).toNat b) false (([]:Bs),(([]:Bs),(0,false))) (List.take a.toNat b,(c,((-1),false))) else none else none
abbrev qvc:=Bs->Int->Int->Int->Int->Int->Option (Int×Int)
abbrev zs3:=Bs->Int->Int->Int->Int->Option (Int×Int)
abbrev zs2:=Bs->Int->Int->Int->Int->Bool->Option (Int×Int)
abbrev zs1:=Bs->Int->Int->Int->Int->Option (Int×Int)
def qw8(fu:Nat)(j:qvc):qvc:=fun g f c b d a=>bif decide (a<c) then(ap g (af (f+a))).bind fun e=>(jp (e.toNat:Int) 128 191).bind fun h=>bif !h then some ((-1),1) else j g f c (af ((af ((af (64*b))+(e.toNat:Int)))-128)) d (af (a+1)) else bif decide (b<d) then some ((-1),1) else bif decide (1114111<b) then some ((-1),1) else(jp b 55296 57343).bind fun i=>bif i then some ((-1),1) else some (b,c)
def qlv(fu:Nat):Nat->qvc|0=>fun _ _ _ _ _ _=>none|n+1=>qw8 fu (qlv fu n)
def qw9:zs3:=fun d c b e a=>qlv fu fu d c b e a 1
def qlu:zs2:=fun e d c f b a=>bif a then some ((-1),1) else qw9 fu e d c f b
def qal:zs1:=fun c b a e d=>bif a==0 then qlu fu c b a e d true else qlu fu c b a e d (decide ((c.length:Int)<(af (b+a))))
def qlt(b:Bs)(c:Int):Option (Int×Int):=(ap b c).bind fun a=>bif decide ((a.toNat:Int)<128) then some ((a.toNat:Int),1) else(jp (a.toNat:Int) 192 223).bind fun d=>bif d then qal fu b c 2 (af ((a.toNat:Int)-192)) 128 else(jp (a.toNat:Int) 224 239).bind fun e=>bif e then qal fu b c 3 (af ((a.toNat:Int)-224)) 2048 else(jp (a.toNat:Int) 240 247).bind fun f=>bif f then qal fu b c 4 (af ((a.toNat:Int)-240)) 65536 else qal fu b c 0 0 0
abbrev zs9:=Int->Option (Bs)
abbrev zs8:=Int->Bool->Option (Bs)
def ql0:zs9:=fun a=>bif decide (a<128) then some ([du a]:Bs) else bif decide (a<2048) then some ([du (af (192+(af (Int.tdiv a 64)))),du (af (128+(Int.tmod a 64)))]:Bs) else bif decide (a<65536) then some ([du (af (224+(af (Int.tdiv a 4096)))),du (af (128+(Int.tmod (af (Int.tdiv a 64)) 64))),du (af (128+(Int.tmod a 64)))]:Bs) else some ([du (af (240+(af (Int.tdiv a 262144)))),du (af (128+(Int.tmod (af (Int.tdiv a 4096)) 64))),du (af (128+(Int.tmod (af (Int.tdiv a 64)) 64))),du (af (128+(Int.tmod a 64)))]:Bs)
def qlz:zs8:=fun a b=>bif b then ql0 65533 else ql0 a
def qxd(a:Int):Option (Bs):=(jp a 0 1114111).bind fun c=>bif !c then qlz a true else(jp a 55296 57343).bind fun b=>qlz a b
abbrev qve:=Bs->Bs->Bool->Int->Option (Bs)
def qxo(e:qve):qve:=fun c d g a=>bif decide (a<(c.length:Int)) then(qlt fu c a).bind fun b=>bif decide (0<=b.1) then bif decide (0<=a/\a<=af (a+b.2)/\af (a+b.2)<=(c.length:Int)) then bif decide (d.length+List.length (List.take ((af (a+b.2)).toNat-a.toNat) (List.drop a.toNat c))<=bf) then e c (d++(List.take ((af (a+b.2)).toNat-a.toNat) (List.drop a.toNat c))) (decide (b.1<0)) (af (a+b.2)) else none else none else bif !g then(qxd (-1)).bind fun f=>bif decide (d.length+f.length<=bf) then e c (d++f) (decide (b.1<0)) (af (a+b.2)) else none else e c d (decide (b.1<0)) (af (a+b.2)) else some d
def ql9(fu:Nat):Nat->qve|0=>fun _ _ _ _=>none|n+1=>qxo fu (ql9 fu n)
def qxn(a:Bs):Option (Bs):=ql9 fu fu a ([]:Bs) false 0
abbrev qvf:=UInt8->Int->Option Int
def qwn(c:qvf):qvf:=fun b a=>bif decide (a<16) then(ap ([48,49,50,51,52,53,54,55,56,57,65,66,67,68,69,70]:Bs) a).bind fun e=>bif e==b then some a else(qak fu ([48,49,50,51,52,53,54,55,56,57,65,66,67,68,69,70]:Bs)).bind fun d=>(ap d a).bind fun f=>bif f==b then some a else c b (af (a+1)) else some (-1)
def qk2(fu:Nat):Nat->qvf|0=>fun _ _=>none|n+1=>qwn fu (qk2 fu n)
def qaj(a:UInt8):Option Int:=qk2 fu fu a 0
abbrev ztk:=Bs->Bs->Int->Bool->Option (Bs)
abbrev qkg:=Bs->Bs->Int->Option (Bs)
def qan(f:qkg):ztk:=fun b c a d=>bif d then(ap b (af (a+1))).bind fun h=>(qaj fu h).bind fun g=>(ap b (af (a+2))).bind fun i=>(qaj fu i).bind fun e=>bif decide (c.length+List.length ([du (af ((af (16*g))+e))]:Bs)<=bf) then f b (c++([du (af ((af (16*g))+e))]:Bs)) (af ((af (a+2))+1)) else none else bif decide (0<=a/\a<=af (a+1)/\af (a+1)<=(b.length:Int)) then bif decide (c.length+List.length (List.take ((af (a+1)).toNat-a.toNat) (List.drop a.toNat b))<=bf) then f b (c++(List.take ((af (a+1)).toNat-a.toNat) (List.drop a.toNat b))) (af (a+1)) else none else none
def qxs(d:qkg):qkg:=fun b c a=>bif decide (a<(b.length:Int)) then(ap b a).bind fun f=>bif f==37 then bif decide ((af (a+2))<(b.length:Int)) then(ap b (af (a+1))).bind fun i=>(qaj fu i).bind fun h=>bif decide (0<=h) then(ap b (af (a+2))).bind fun e=>(qaj fu e).bind fun g=>qan fu d b c a (decide (0<=g)) else qan fu d b c a false else qan fu d b c a false else qan fu d b c a false else some c
def qmc(fu:Nat):Nat->qkg|0=>fun _ _ _=>none|n+1=>qxs fu (qmc fu n)
def qxr(a:Bs):Option (Bs):=qmc fu fu a ([]:Bs) 0
abbrev dj:=(Bs×Bs×wV)×Bool
abbrev zui:=Bs->Int->Bs->Bs->Bs->Bs->Bs->Bs->(List (Bs×Bs×Int×Bool))->Option dj
abbrev zug:=Bs->Int->Bs->Bs->Bool->Bs->Bs->Bs->Bs->(List (Bs×Bs×Int×Bool))->Option dj
abbrev zuf:=Bs->Int->Bs->Bs->Bs->Bs->Bs->Bs->(List (Bs×Bs×Int×Bool))->Option dj
abbrev zuc:=Bs->Int->Bs->Bs->Bs->Bs->Bs->Bs->(List (Bs×Bs×Int×Bool))->Option dj
abbrev zud:=Bs->Int->Bs->Bs->Bool->Bs->Bs->Bs->Bs->(List (Bs×Bs×Int×Bool))->Option dj
abbrev we:=Bs->Int->Bs->Bs->Bs->Bs->Bs->Bs->(List (Bs×Bs×Int×Bool))->Option dj
abbrev zur:=Bs->Int->Bs->Bs->Bool->Bs->Bs->Bs->Bs->(List (Bs×Bs×Int×Bool))->Option dj
abbrev zuq:=Bs->Int->Bs->Bs->Bs->Bs->Bs->(List (Bs×Bs×Int×Bool))->Option dj
abbrev zup:=Bs->Int->Bs->Bool->Bs->Bs->Bs->Bs->(List (Bs×Bs×Int×Bool))->Option dj
abbrev zuh:=Int->Bool->Int->Bs->Bs->Bs->Bs->(List (Bs×Bs×Int×Bool))->wV->Option dj
abbrev zue:=Int->Bool->Int->Int->Bs->Bs->Bs->Bs->(List (Bs×Bs×Int×Bool))->wV->Option dj
abbrev zuk:=Int->Int->Bs->Int->Int->Int->Bs->Bs->Bs->Bs->(List (Bs×Bs×Int×Bool))->wV->Option dj
abbrev zuj:=Int->Int->Bs->Int->Int->Int->Bool->Bs->Bs->Bs->Bs->(List (Bs×Bs×Int×Bool))->wV->Option dj
abbrev zuo:=Int->Int->Bs->Int->Bs->Bs->Bs->Bs->(List (Bs×Bs×Int×Bool))->wV->Option dj
abbrev zum:=Int->Int->Bs->Int->Bs->Bs->Bs->Bs->Bs->(List (Bs×Bs×Int×Bool))->wV->Option dj
abbrev zun:=Int->Int->Bs->Int->Bs->Bs->Bs->Bs->Bs->(List (Bs×Bs×Int×Bool))->wV->Option dj
abbrev zul:=Int->Int->Bs->Int->Bs->Bool->Bs->Bs->Bs->Bs->(List (Bs×Bs×Int×Bool))->wV->Option dj
abbrev qer:=Int->Int->Bs->Int->Int->Int->Bs->Bs->Bs->Bs->(List (Bs×Bs×Int×Bool))->wV->Option dj
abbrev nh:=Int->Int->Bs->Int->Bs->Bs->Bs->Bs->(List (Bs×Bs×Int×Bool))->wV->Option dj
abbrev qki:=Int->Bool->Int->Int->Bs->Bs->Bs->Bs->(List (Bs×Bs×Int×Bool))->wV->Option dj
abbrev qkh:=Int->Bool->Int->Bs->Bs->Bs->Bs->(List (Bs×Bs×Int×Bool))->wV->Option dj
abbrev fp:=Int->Bs->Bs->Bs->Bs->(List (Bs×Bs×Int×Bool))->wV->Option dj
abbrev kv:=Bs->Int->Bs->Bs->Bs->Bs->(List (Bs×Bs×Int×Bool))->Option dj
abbrev zub:=Bs->Int->Bs->Bs->Bs->Bs->Option dj
abbrev zua:=Bs->Int->Bool->Bs->Bs->Bs->Bs->Option dj
def qlf(fu:Nat)(k:kv)(i:we):zui:=fun f a j h e b d c g=>bif decide (0<=a/\a<=af (a+1)/\af (a+1)<=(f.length:Int)) then bif decide (h.length+List.length (List.take ((af (a+1)).toNat-a.toNat) (List.drop a.toNat f))<=bf) then i f (af (a+1)) j (h++(List.take ((af (a+1)).toNat-a.toNat) (List.drop a.toNat f))) e b d c g else none else none
def qlc(k:kv)(i:we):zug:=fun j g l h f d a c b e=>bif f then qlf fu k i j (af (g+1)) l h d a c b e else qlf fu k i j g l h d a c b e
def qw3(j:kv)(i:we):zuf:=fun g f k h d a c b e=>(ap g f).bind fun l=>bif l==92 then qlc fu j i g f k h (decide ((af (f+1))<(g.length:Int))) d a c b e else qlc fu j i g f k h false d a c b e
def qk8(k:kv):zuc:=fun g i l j d a c b e=>(qxm fu l j).bind fun f=>bif !f.2 then some ((([]:Bs),(([]:Bs),[])),false) else bif decide (List.length (e++([f.1]:List (Bs×Bs×Int×Bool)))<=bg) then(pc fu g i).bind fun h=>k g h d a c b (e++([f.1]:List (Bs×Bs×Int×Bool))) else none
def qk9(j:kv)(l:we):zud:=fun h g k i f d a c b e=>bif f then qw3 fu j l h g k i d a c b e else bif g==(h.length:Int) then some ((([]:Bs),(([]:Bs),[])),false) else qk8 fu j h (af (g+1)) k i d a c b e
def qw1(j:kv)(i:we):we:=fun g f k h d a c b e=>bif decide (f<(g.length:Int)) then(ap g f).bind fun l=>qk9 fu j i g f k h (l != 34) d a c b e else qk9 fu j i g f k h false d a c b e
def qlq(fu:Nat)(a:kv):Nat->we|0=>fun _ _ _ _ _ _ _ _ _=>none|n+1=>qw1 fu a (qlq fu a n)
def qlo(j:kv):zur:=fun h e k l f d a c b g=>bif f then qlq fu j fu h (af (e+1)) k l d a c b g else(qam fu h e ([37,39,42]:Bs)).bind fun i=>bif decide (0<=e/\e<=i/\i<=(h.length:Int)) then qk8 fu j h i k (List.take (i.toNat-e.toNat) (List.drop e.toNat h)) d a c b g else none
def qw5(h:kv):zuq:=fun f j i d a c b e=>(pc fu f (af (j+1))).bind fun g=>bif decide (g<(f.length:Int)) then(ap f g).bind fun k=>qlo fu h f g i ([]:Bs) (k==34) d a c b e else qlo fu h f g i ([]:Bs) false d a c b e
def qll(i:kv):zup:=fun h g j e d a c b f=>bif e then some ((([]:Bs),(([]:Bs),[])),false) else qw5 fu i h g j d a c b f
def qld(fu:Nat)(k:fp)(j:qkh):zuh:=fun i g h d a c b f e=>j i g (af (h+1)) d a c b f e
def qla(fu:Nat)(l:fp)(k:qki):zue:=fun i h e j d a c b g f=>k i h e (af (j+1)) d a c b g f
def qli(fu:Nat)(p:fp)(o:nh)(k:qer):zuk:=fun m e j i g l d a c b h f=>k m e j i g (af (l+1)) d a c b h f
def qlg(q:fp)(i:nh)(m:qer):zuj:=fun o f l k p e h d a c b j g=>bif h then qli fu q i m o f l k e e d a c b j g else qli fu q i m o f l k p e d a c b j g
def qw4(fu:Nat)(l:fp)(g:nh):zuo:=fun k e j i d a c b h f=>g k e j (af (i+1)) d a c b h f
def qlj(m:fp)(i:nh):zum:=fun l g e k f d a c b j h=>bif decide (e.length+f.length<=bf) then qw4 fu m i l g (e++f) k d a c b j h else none
def qlk(o:fp)(g:nh):zun:=fun l e j i k d a c b h f=>(qxr fu k).bind fun m=>qlj fu o g l e j i m d a c b h f
def qe3(o:fp)(i:nh):zul:=fun m f l k e g d a c b j h=>bif g then bif decide (0<=(6:Int)/\6<=(e.length:Int)) then qlk fu o i m f l k (List.drop (6:Int).toNat e) d a c b j h else none else qlk fu o i m f l k e d a c b j h
def qww(p:fp)(l:nh)(q:qer):qer:=fun h k m i f g b d c e a j=>bif decide (g<(a.length:Int)) then bif decide (0<=h/\h.toNat<a.length) then(a[h.toNat]?).bind fun v=>bif decide (0<=g/\g.toNat<a.length) then(a[g.toNat]?).bind fun r=>(qn fu v.1 r.1).bind fun t=>bif t then bif decide (0<=g/\g.toNat<a.length) then(a[g.toNat]?).bind fun w=>qlg fu p l q h k m i f g (w.2.2.1==i) b d c e a j else none else qlg fu p l q h k m i f g false b d c e a j else none else none else bif decide (f<0) then some ((([]:Bs),(([]:Bs),[])),false) else bif decide (0<=f/\f.toNat<a.length) then(a[f.toNat]?).bind fun o=>bif decide (0<=f/\f.toNat<a.length) then(a[f.toNat]?).bind fun s=>bif s.2.2.2 then bif i==0 then bif decide (6<=(o.2.1.length:Int)) then bif decide (0<=(6:Int)/\6<=(o.2.1.length:Int)) then(qak fu (List.take (6:Int).toNat o.2.1)).bind fun u=>qe3 fu p l h k m i o.2.1 (u==([117,116,102,56,39,39]:Bs)) b d c e a j else none else qe3 fu p l h k m i o.2.1 false b d c e a j else qe3 fu p l h k m i o.2.1 false b d c e a j else qlj fu p l h k m i o.2.1 b d c e a j else none else none
def qle(fu:Nat)(b:fp)(a:nh):Nat->qer|0=>fun _ _ _ _ _ _ _ _ _ _ _ _=>none|n+1=>qww fu b a (qle fu b a n)
def qwv(o:fp)(k:nh):nh:=fun e h j i d a c b f g=>bif decide (i<h) then qle fu o k fu e h j i (-1) 0 d a c b f g else bif decide (0<=e/\e.toNat<f.length) then(f[e.toNat]?).bind fun l=>(qxn fu j).bind fun m=>bif decide (List.length (g++([(l.1,m)]:List (Bs×Bs)))<=bg) then o (af (e+1)) d a c b f (g++([(l.1,m)]:List (Bs×Bs))) else none else none
def qlb(fu:Nat)(a:fp):Nat->nh|0=>fun _ _ _ _ _ _ _ _ _ _=>none|n+1=>qwv fu a (qlb fu a n)
def qw0(k:fp)(o:qki):qki:=fun a j i h c e d f b g=>bif decide (h<(b.length:Int)) then bif decide (0<=a/\a.toNat<b.length) then(b[a.toNat]?).bind fun r=>bif decide (0<=h/\h.toNat<b.length) then(b[h.toNat]?).bind fun p=>(qn fu r.1 p.1).bind fun q=>bif q then qla fu k o a j (af (i+1)) h c e d f b g else qla fu k o a j i h c e d f b g else none else none else bif j then k (af (a+1)) c e d f b g else bif decide (0<=a/\a.toNat<b.length) then(b[a.toNat]?).bind fun s=>bif decide (s.2.2.1<0) then bif i != 1 then some ((([]:Bs),(([]:Bs),[])),false) else bif decide (0<=a/\a.toNat<b.length) then(b[a.toNat]?).bind fun m=>bif decide (0<=a/\a.toNat<b.length) then(b[a.toNat]?).bind fun l=>bif decide (List.length (g++([(m.1,l.2.1)]:List (Bs×Bs)))<=bg) then k (af (a+1)) c e d f b (g++([(m.1,l.2.1)]:List (Bs×Bs))) else none else none else none else qlb fu k fu a i ([]:Bs) 0 c e d f b g else none
def qlp(fu:Nat)(a:fp):Nat->qki|0=>fun _ _ _ _ _ _ _ _ _ _=>none|n+1=>qw0 fu a (qlp fu a n)
def qwz(j:fp)(k:qkh):qkh:=fun f i g e a d b c h=>bif decide (g<f) then bif i then qld fu j k f true g e a d b c h else bif decide (0<=f/\f.toNat<c.length) then(c[f.toNat]?).bind fun l=>bif decide (0<=g/\g.toNat<c.length) then(c[g.toNat]?).bind fun m=>(qn fu l.1 m.1).bind fun o=>qld fu j k f o g e a d b c h else none else none else qlp fu j fu f i 0 0 e a d b c h
def qln(fu:Nat)(a:fp):Nat->qkh|0=>fun _ _ _ _ _ _ _ _ _=>none|n+1=>qwz fu a (qln fu a n)
def qwy(h:fp):fp:=fun g d c b a f e=>bif decide (g<(f.length:Int)) then qln fu h fu g false 0 d c b a f e else some ((b,(a,e)),true)
def qlm(fu:Nat):Nat->fp|0=>fun _ _ _ _ _ _ _=>none|n+1=>qwy fu (qlm fu n)
def qwx(k:kv):kv:=fun e j d a c b g=>bif decide (j<(e.length:Int)) then(ap e j).bind fun l=>bif l != 59 then some ((([]:Bs),(([]:Bs),[])),false) else(pc fu e (af (j+1))).bind fun f=>(qam fu e f ([42]:Bs)).bind fun h=>bif decide (0<=f/\f<=h/\h<=(e.length:Int)) then(pc fu e h).bind fun i=>bif i==(e.length:Int) then qll fu k e i (List.take (h.toNat-f.toNat) (List.drop f.toNat e)) true d a c b g else(ap e i).bind fun m=>qll fu k e i (List.take (h.toNat-f.toNat) (List.drop f.toNat e)) (m != 61) d a c b g else none else qlm fu fu 0 d a c b g []
def qlh(fu:Nat):Nat->kv|0=>fun _ _ _ _ _ _ _=>none|n+1=>qwx fu (qlh fu n)
def qw2:zub:=fun e h d a b g=>(pc fu e (af (h+1))).bind fun c=>(qam fu e c ([]:Bs)).bind fun f=>bif decide (0<=c/\c<=f/\f<=(e.length:Int)) then bif(List.take (f.toNat-c.toNat) (List.drop c.toNat e))==([]:Bs) then some ((([]:Bs),(([]:Bs),[])),false) else(pc fu e f).bind fun i=>qlh fu fu e i d a b (List.take (f.toNat-c.toNat) (List.drop c.toNat e)) [] else none
def qe2:zua:=fun g f e d a c b=>bif e then some ((([]:Bs),(([]:Bs),[])),false) else qw2 fu g f d a c b
def qwu(a:Bs):Option dj:=(pc fu a 0).bind fun b=>(qam fu a b ([]:Bs)).bind fun c=>bif decide (0<=b/\b<=c/\c<=(a.length:Int)) then(pc fu a c).bind fun d=>bif(List.take (c.toNat-b.toNat) (List.drop b.toNat a))==([]:Bs) then qe2 fu a d true ([]:Bs) ([]:Bs) (List.take (c.toNat-b.toNat) (List.drop b.toNat a)) ([]:Bs) else bif d==(a.length:Int) then qe2 fu a d true ([]:Bs) ([]:Bs) (List.take (c.toNat-b.toNat) (List.drop b.toNat a)) ([]:Bs) else(ap a d).bind fun e=>qe2 fu a d (e != 47) ([]:Bs) ([]:Bs) (List.take (c.toNat-b.toNat) (List.drop b.toNat a)) ([]:Bs) else none
abbrev qvg:=Bs->Int->Option Bool
def qxc(c:qvg):qvg:=fun a b=>bif decide (b<(a.length:Int)) then(ap a b).bind fun e=>(qlx fu e).bind fun d=>bif !d then some false else c a (af (b+1)) else(jp (a.length:Int) 1 60).bind fun f=>some f
def qly(fu:Nat):Nat->qvg|0=>fun _ _=>none|n+1=>qxc fu (qly fu n)
def qe4(a:Bs):Option Bool:=qly fu fu a 0
abbrev qvh:=Bs->Int->Option Bool
def qxf(d:qvh):qvh:=fun b a=>bif decide (a<(b.length:Int)) then(qlt fu b a).bind fun c=>bif decide (c.1<0) then some false else d b (af (a+c.2)) else some true
def ql1(fu:Nat):Nat->qvh|0=>fun _ _=>none|n+1=>qxf fu (ql1 fu n)
def qxe(a:Bs):Option Bool:=ql1 fu fu a 0
abbrev qvi:=Int->Int->(Bs×Bs×wV)->(Int×Int)->(Bs×Bs)->Option ((Int×Int))
abbrev zvb:=Int->(Bs×Bs×wV)->(Int×Int)->(Bs×Bs)->Option ((Int×Int))
abbrev zva:=Int->Bool->(Bs×Bs×wV)->(Int×Int)->(Bs×Bs)->Option ((Int×Int))
abbrev wg:=Int->(Bs×Bs×wV)->(Int×Int)->Option ((Int×Int))
abbrev zu9:=(Bs×Bs×wV)->(Int×Int)->Option ((Int×Int))
abbrev zu8:=Bool->(Bs×Bs×wV)->(Int×Int)->Option ((Int×Int))
def qwr(l:wg)(j:qvi):qvi:=fun c e b d a=>bif decide (e<c) then(ap b.2.2 e).bind fun g=>(qn fu g.1 a.1).bind fun h=>bif h then(tj 7 c).bind fun m=>some m else j c (af (e+1)) b d a else bif decide (500<(a.2.length:Int)) then(tj 1 c).bind fun f=>some f else(qxe fu a.2).bind fun k=>bif !k then(tj 5 c).bind fun i=>some i else l (af (c+1)) b d
def qk7(fu:Nat)(a:wg):Nat->qvi|0=>fun _ _ _ _ _=>none|n+1=>qwr fu a (qk7 fu a n)
def qwt(e:wg):zvb:=fun d a b c=>qk7 fu e fu d 0 a b c
def qk6(g:wg):zva:=fun e d a b c=>bif d then(tj 10 e).bind fun f=>some f else qwt fu g e a b c
def qwq(e:wg):wg:=fun d a b=>bif decide (d<(a.2.2.length:Int)) then(ap a.2.2 d).bind fun c=>(qe4 fu c.1).bind fun f=>bif !f then qk6 fu e d true a b c else qk6 fu e d (decide (20<(c.1.length:Int))) a b c else some (0,0)
def qk5(fu:Nat):Nat->wg|0=>fun _ _ _=>none|n+1=>qwq fu (qk5 fu n)
def qws:zu9:=fun a b=>bif decide (60<(a.2.2.length:Int)) then(tj 2 (-3)).bind fun c=>some c else qk5 fu fu 0 a b
def qk4:zu8:=fun a b c=>bif a then(tj 10 (-2)).bind fun d=>some d else qws fu b c
def qwp(a:Bs×Bs×wV):Option ((Int×Int)):=(qe4 fu a.1).bind fun c=>bif !c then qk4 fu true a (0,0) else(qe4 fu a.2.1).bind fun b=>qk4 fu (!b) a (0,0)
abbrev qpt:=(Bs×Bs×wV)×Bool
abbrev zvh:=Bs->Bs->(List Bs)->Option qpt
abbrev zvg:=Bool->Bs->Bs->(List Bs)->Option qpt
def qxv:zvh:=fun d b a=>bif decide (0<=(0:Int)/\(0:Int).toNat<a.length) then(a[(0:Int).toNat]?).bind fun e=>(qwu fu e).bind fun c=>bif !c.2 then some ((([]:Bs),(([]:Bs),[])),false) else(qwp fu c.1).bind fun f=>bif f.1 != 0 then some ((([]:Bs),(([]:Bs),[])),false) else some (c.1,true) else none
def qme:zvg:=fun d b a c=>bif d then some ((([]:Bs),(([]:Bs),[])),false) else qxv fu b a c
def qxu(c:List (Bs×Bs)):Option qpt:=(qxg fu c ([99,111,110,116,101,110,116,45,116,121,112,101]:Bs)).bind fun a=>bif(a.length:Int) != 1 then qme fu true ([]:Bs) ([]:Bs) a else bif decide (0<=(0:Int)/\(0:Int).toNat<a.length) then(a[(0:Int).toNat]?).bind fun b=>qme fu (decide (4000<(b.length:Int))) ([]:Bs) ([]:Bs) a else none
def qe5(a:UInt8):Option (Bs):=bif decide (0<=((a/16).toNat:Int)/\((a/16).toNat:Int)<=(((a/16)+1).toNat:Int)/\(((a/16)+1).toNat:Int)<=(List.length ([48,49,50,51,52,53,54,55,56,57,65,66,67,68,69,70]:Bs):Int)) then bif decide (0<=((a%16).toNat:Int)/\((a%16).toNat:Int)<=(((a%16)+1).toNat:Int)/\(((a%16)+1).toNat:Int)<=(List.length ([48,49,50,51,52,53,54,55,56,57,65,66,67,68,69,70]:Bs):Int)) then bif decide (List.length (List.take ((((a/16)+1).toNat:Int).toNat-((a/16).toNat:Int).toNat) (List.drop ((a/16).toNat:Int).toNat ([48,49,50,51,52,53,54,55,56,57,65,66,67,68,69,70]:Bs)))+List.length (List.take ((((a%16)+1).toNat:Int).toNat-((a%16).toNat:Int).toNat) (List.drop ((a%16).toNat:Int).toNat ([48,49,50,51,52,53,54,55,56,57,65,66,67,68,69,70]:Bs)))<=bf) then some ((List.take ((((a/16)+1).toNat:Int).toNat-((a/16).toNat:Int).toNat) (List.drop ((a/16).toNat:Int).toNat ([48,49,50,51,52,53,54,55,56,57,65,66,67,68,69,70]:Bs)))++(List.take ((((a%16)+1).toNat:Int).toNat-((a%16).toNat:Int).toNat) (List.drop ((a%16).toNat:Int).toNat ([48,49,50,51,52,53,54,55,56,57,65,66,67,68,69,70]:Bs)))) else none else none else none
abbrev zvo:=Bs->wU->(Bs×Bs×wV)->Option Bool
def qmd:zvo:=fun e b a=>bif(b.kids.length:Int)==0 then(qn fu a.1 ([116,101,120,116]:Bs)).bind fun d=>bif d then(qn fu a.2.1 e).bind fun c=>some c else some false else some false
def qxt(a:Tree (wV×Bs))(b:Bs):Option Bool:=(qxu fu a.val.1).bind fun c=>bif !c.2 then qmd fu b (Tree.node a.val a.kids) (([116,101,120,116]:Bs),(([112,108,97,105,110]:Bs),[])) else qmd fu b (Tree.node a.val a.kids) c.1
def qe6(a:Tree (wV×Bs))(c:Tree (wV×Bs)):Option Bool:=(qxw fu).bind fun f=>bif !f then some false else(qgz fu (Tree.node (([(([67,111,110,116,101,110,116,45,84,121,112,101]:Bs),([109,117,108,116,105,112,97,114,116,47,109,105,120,101,100]:Bs))]:List (Bs×Bs)),[]) ([(Tree.node a.val a.kids),(Tree.node c.val c.kids)]:List wU))).bind fun b=>bif b.2.1 != 0 then some (b.1==([]:Bs)) else(qgz fu (Tree.node a.val a.kids)).bind fun d=>(qxt fu (Tree.node a.val a.kids) ([112,108,97,105,110]:Bs)).bind fun e=>bif !e then some true else bif d.2.1==0 then some (b.1==d.1) else some false
end
end Go.Sym

