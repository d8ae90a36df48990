/- What the claim rests on, part 3: gathered texts. -/
import Derived.RangeFuncRecord
import Derived.Lib.ItoaNum
import Derived.Lib.Index
import Derived.Lib.AtoiAll
import Derived.Shelf.SlSortCmp.Insertion
import Derived.Lib.Replace
import Derived.Lib.Repeat
import Derived.Lib.MapLaws
import Derived.Lib.ValidLaws
import Derived.Lib.BytesEntry
import Derived.Laws.Externs
import Derived.WalkKit
import Derived.ProofKit
import Derived.OpenShut
import Derived.ShutString
import Derived.ChangeOld
import Derived.Carry
import Derived.Handed
import Derived.Deep.DeepHandedRow
import Derived.LaidMore
import Derived.Lay
import Derived.LaidHandle
import Derived.MakeChecks
import Derived.LaidLaws
import Derived.Test.YtiidadfafmcdmaaGreatDoorSyF2
set_option linter.defProp false
namespace Go.Sym
open Go.RowKit
variable[LC]
def lj(i:Nat)(c:Code):Code:=match c with
 |.seq a b=>match i with|0=>a|_=>b
 |.cond _ a b=>match i with|0=>a|_=>b
 |.block _ a=>a|.loop a=>a|.scope a=>a|.rangeFunc _ _ a b=>match i with|0=>a|_=>b
 |c=>c
def sub(body:Code):List Nat->Code|[]=>body|i::p=>lj i (sub body p)
structure dx where
 kd:Nat
 path:List Nat
 it:Item
def wz(body:Code)(kd:Nat)(p:List Nat):Item:=match kd with
 |0 => .code (sub body p)|1=>match sub body p with|.block id _ => .inBlock id|c => .code c
 |2=>match sub body p with|.loop x => .inLoop x|c => .code c
 |3=>match sub body p with|.scope x => .inScope x|c => .code c
 |_ => .beginRound
def dx.Ok(body:Code)(i:dx):Prop:=i.it=wz body i.kd i.path
abbrev zy:=List (Nat×List Nat)
def ng(body:Code):zy->List dx|[]=>[]|(kd,p)::r=>⟨kd,p,wz body kd p⟩::ng body r
def d8:List dx->List Item|[]=>[]|i::r=>i.it::d8 r
def qd2:zy->List dx->Bool|[],[]=>true|(kd,p)::r,i::k=>Nat.beq kd i.kd&&pp p i.path&&qd2 r k|_,_=>false
def zbg{body:Code}:∀{key:zy}{k:List dx},qd2 key k=true->(∀i∈k,i.Ok body)->d8 (ng body key)=d8 k
 |[],[],_,_=>rfl|(kd,p)::r,⟨kd',p',it⟩::k,h,hk=>by
  simp only[qd2,qA]at h;obtain⟨⟨h1,h2⟩,h3⟩:=h;have h1:=qN h1;have h2:=qp9 h2;subst h1 h2;have ho:it=wz body kd p:=hk _ qH;simp only[ng,d8];rw[zbg h3 (fun i hi=>hk i (qE _ hi)),ho]
 |[],_::_,h,_=>by cases h
 |_::_,[],h,_=>by cases h
def q1h{body:Code}:∀{key:zy},∀i∈ng body key,i.Ok body
 |[],i,h=>by cases h
 |(kd,p)::r,i,h=>by
  rcases List.mem_cons.1 h with rfl|h
  ·rfl
  ·exact q1h i h
def zqr{body:Code}{kd:Nat}{p:List Nat}{c:Code}(h:Item.code c=wz body kd p):sub body p=c:=by
 unfold wz at h;split at h
 ·injection h with h;exact h.symm
 ·split at h
  ·cases h
  ·injection h with h;exact h.symm
 ·split at h
  ·cases h
  ·injection h with h;exact h.symm
 ·split at h
  ·cases h
  ·injection h with h;exact h.symm
 ·cases h
def zqs{body:Code}{kd:Nat}{p:List Nat}{c:Code}(h:Item.inLoop c=wz body kd p):sub body p = .loop c:=by
 unfold wz at h;split at h
 ·cases h
 ·split at h<;>cases h
 ·split at h
  ·rename_i e;injection h with h;subst h;exact e
  ·cases h
 ·split at h<;>cases h
 ·cases h
def pt(id:Nat):List dx->Option (List dx)
 |[]=>none|i::k=>match i.it with|.inBlock id'=>if id'==id then some k else pt id k|_=>pt id k
def q0x{id:Nat}:∀{k k':List dx},pt id k=some k'->exitTo id (d8 k)=some (d8 k')/\∀i∈k',i∈k
 |[],_,h=>by cases h
 |⟨kd,p,it⟩::k,k',h=>by
  simp only[pt]at h;split at h
  ·rename_i id';split at h
   ·rename_i he;simp only[qI]at h;subst h;exact⟨by simp only[d8,exitTo];rw[qX he],fun i hi=>qE _ hi⟩
   ·rename_i he;obtain⟨h1,h2⟩:=q0x h;exact⟨by simp only[d8,exitTo];rw[qW he];exact h1,fun i hi=>qE _ (h2 i hi)⟩
  ·rename_i hne;obtain⟨h1,h2⟩:=q0x h;refine⟨?_,fun i hi=>qE _ (h2 i hi)⟩
   (try simp only at hne)
   simp only[d8];cases it<;>first
    |(exfalso;exact hne _ rfl)
    |(simp only[exitTo];exact h1)
def qzq(P:Program)(s:St):ResultVar->Option AV
 |.tmp t=>ae s.fr t|.cell t T=>match ae s.fr t with
  |some (.ptr b off)=>match ae s.hp b with|some (.cells cs _)=>n9 P T cs off|_=>none
  |some (.oel k sz 0 0)=>match ae s.hp k,xl P T,d6 P T with|some (.row τ l _),some true,some _=>bif τ.is1&&Nat.beq sz 1 then some (.arr τ l) else none|_,_,_=>none
  |_=>none
def q3a(P:Program)(s:St):ResultVar->Bool
 |.tmp _=>true|.cell t T=>match ae s.fr t with
  |some (.oel k _ 0 0)=>match ae s.hp k,d6 P T with|some (.row _ l _),some n=>decide (l.length=n)|_,_=>true
  |_=>true
def qku(P:Program)(s:St):List ResultVar->Bool|[]=>true|x::xs=>q3a P s x&&qku P s xs
def qdb(P:Program)(s:St):List ResultVar->Option (List AV)
 |[]=>some []|x::xs=>match qzq P s x with
  |some v=>match qdb P s xs with|some vs=>some (v::vs)|none=>none
  |none=>none
def qzr(P:Program)(fn:Func)(s:St):Option AV:=
 match qdb P s fn.results.toList with
 |some vs=>match vs with|[v]=>some v|vs=>some (.tup vs)
 |none=>none
def frzC(p:Pt)(b off:Nat)(s:St):St:=match ae s.hp b with|some (.cells cs _)=>frzL (qqp p (.agg (cs.drop off))) s|_=>s
def coR(bs:List (Nat×bc)):List ResultVar->List Pt->St->St
 |[],_,s=>s|x::xs,ps,s=>match ps with
  |[]=>s|p::ps=>match x with
   |.tmp t=>coR bs xs ps (coF bs [(t,p)] s)|.cell t _=>match ae s.fr t with|some (.ptr b off)=>coR bs xs ps (frzC p b off (coB1 bs b [p] off s))|_=>coR bs xs ps s
def qrp:Pt->List Pt|.tup ps=>ps|p=>[p]
def qqg(v:AV)(ids:NM)(p:Pt)(hp:List (Nat×bc))(s:St):Option (p.den×fw hp):=
 match p.get v ids with
 |some (d,nm)=>match rp s.hp hp nm with|some (d',nm')=>bif dy nm'&&uc nm' hp then some (d,d') else none|none=>none
 |none=>none
def q01(P:Program)(fn:Func)(ids:NM)(rv:Option AV)(p:Pt)(hp:List (Nat×bc))(s:St):Option (p.den×fw hp):=
 match rv with
 |some v=>qqg v ids p hp (coB hp ids hp s)|none=>match qzr P fn (coR hp fn.results.toList (qrp p) (coB hp ids hp s)) with|some v=>qqg v ids p hp (coR hp fn.results.toList (qrp p) (coB hp ids hp s))|none=>none
def q02(P:Program)(fn:Func)(ids:NM)(rv:Option AV)(p:Pt)(hp:List (Nat×bc))(s:St):Bool:=
 match rv with|some _=>true|none=>qku P (coR hp fn.results.toList (qrp p) (coB hp ids hp s)) fn.results.toList
def RS.fin(P:Program)(fn:Func)(ids:NM)(rv:Option AV)(s:St):{α:Type}->RS α->Option α
 | _,.one p hp _ fro _=>bif q02 P fn ids rv p hp s then(match q01 P fn ids rv p hp s with
  |some y=>some (fro y)| none=>none) else none
 |_,.two l r=>match l.fin P fn ids rv s with
  |some a=>some (.inl a)|none=>match r.fin P fn ids rv s with|some b=>some (.inr b)|none=>none
structure fb(R:Type) where
 key:zy
 ls:LS
 F:ls.den->Option R
def qa1{R:Type}(ids:NM)(s:St)(k:List dx):List (fb R)->Option (fb R)
 |[]=>none| l::ls=>bif qd2 l.key k then(match qa1 ids s k ls with
   |none=>some l|some l'=>match l.ls.get ids (l.ls.co ids s) with
    |some _=>some l| none=>some l') else qa1 ids s k ls
structure Cx:Type 1 where
 P:Program
 tb:Tb
 fn:Func
 f:FuncId
 ids:NM
 rd:Option Nat
 tags:List (List Nat×Nat)
def St.noDf(s:St):Bool:=match s.df with|[]=>true|_=>false
def qjs:List Nat->St->Option St
 |[],s=>some { s with df:=[] }|n::ns,s=>match ae s.hp n with|some .dfr=>qjs ns { s with hp:=(n,.dead)::s.hp,df:=ns }|_=>none
def uk:Option dp->Bool|none=>true|some _=>false
def ob(cx:Cx){R:Type}(enc:RS R)(j:Option dp)(s:St):Option R:=
 match cx.rd with
 |none=>match qjs s.df s with|some s'=>enc.fin cx.P cx.fn cx.ids none s'|none=>none
 |some m=>bif s.noDf then
   (match ae s.hp m with
   |some (.loop _ _ f n fr ps tag D)=>enc.fin cx.P cx.fn cx.ids (some (.val (.bool (uk j)))) { s with hp:=(m,.loop (bif uk j then .ready else .done) j f n fr ps tag D)::s.hp }| _=>none)
  else none
def St.enterRF(s:St)(f:FuncId)(ps:List Tmp)(tag:Nat)(around:Option Nat):Option St:=
 bif a7 s.nx s.hp then
  (match around with
  |none=>some { s with hp:=(s.nx,.loop .ready none f s.n s.fr ps tag (s.nx+1))::(s.nx+1,.dfr)::s.hp,df:=(s.nx+1)::s.df,nx:=s.nx+32 }|some m=>match ae s.hp m with
   |some (.loop _ _ _ _ _ _ _ D)=>some { s with hp:=(s.nx,.loop .ready none f s.n s.fr ps tag D)::s.hp,nx:=s.nx+32 }| _=>none)
 else none
def zfa(s:St)(ys:List AV)(d:D):Option St:=match d with
 |.mem names xs hp _ hp'=>
  bif dy names&&rz names&&a7 s.nx s.hp then
   (match im (az names) s.hp names,bh false [] (AV.rens (az names) ys) xs with
   |some hpv,some _=>match jx hpv hp with|some _=>some { s with hp:=li (lh names hp' s.nx) hp'++(mr names++s.hp),nx:=s.nx+32 }|none=>none
   | _,_=>none)
  else none
 |_=>none
def sj(p:List Nat):List (List Nat×Nat)->Option Nat|[]=>none|(q,t)::r=>bif pp q p then some t else sj p r
def zdm:LoopState->Bool|.busy=>false|_=>true
def qrv(cx:Cx)(p:List Nat)(g:Operand)(ps:List Tmp)(s:St):Option (Rq×St×List AV):=
 match sj p cx.tags,s.ev g with
 |some tag,some (.fn (.func h) [] cap)=>match s.enterRF cx.f ps tag cx.rd with
  |some s1=>match qal (qjq s1 h (.yld s.nx::cap)) cx.tb.ents with|some q=>some (q,s1,.yld s.nx::cap)|none=>none
  |none=>none
 |_,_=>none
def zfc(cx:Cx)(p:List Nat)(g:Operand)(ps:List Tmp)(s:St):Option St:=
 match sj p cx.tags,s.ev g with
 |some tag,some (.fn (.func h) [] cap)=>match s.enterRF cx.f ps tag cx.rd with
  |some s1=>match qp7 (fun e=>sg h e.key) cx.tb.ents with|some e=>some (coB e.hp (ur s1 e.hp (xa e.args (.yld s.nx::cap))) e.hp (frzL (qan e.args (.yld s.nx::cap)) s))|none=>none
  |none=>none
 |_,_=>none
def qrw{R:Type}(nl:Nat)(a:Rq×St×List AV)(K:Option dp->St->Option R):Option R:=
 a.1.K fun d=>match zfa a.2.1 a.2.2 d with
  |some s3=>match ae s3.hp nl with|some (.loop st pe _ _ _ _ _ _)=>bif zdm st then K pe { s3 with hp:=(nl,.dead)::s3.hp } else none|_=>none
  |none=>none
def rfR(cx:Cx){R:Type}(p:List Nat)(g:Operand)(ps:List Tmp)(s:St)(K:Option dp->St->Option R):Option R:=
 match qrv cx p g ps s with
 |some a=>qrw s.nx a K|none=>match zfc cx p g ps s with
  |some s'=>match qrv cx p g ps s' with|some a=>qrw s'.nx a K|none=>none
  |none=>none
def run(cx:Cx){R:Type}(enc:RS R)(labs:List (fb R)):Nat->Bool->List dx->St->Option R
 |0,_,_,_=>none|n+1,chk,k,s=>match(bif chk then qa1 cx.ids s k labs else none) with
  |some lab=>match lab.ls.get cx.ids (lab.ls.co cx.ids s) with|some d=>lab.F d|none=>none
  |none=>match k with
   |[]=>ob cx enc none s|⟨_,p,it⟩::k'=>match it with
    |.code c=>match c with
     |.skip=>run cx enc labs n true k' s|.label _=>run cx enc labs n true k' s|.seq x y=>run cx enc labs n true (⟨0,0::p,.code x⟩::⟨0,1::p,.code y⟩::k') s|.cond c x y=>match s.ev c with|some (.bool b)=>bif b then run cx enc labs n true (⟨0,0::p,.code x⟩::k') (s.know c true) else run cx enc labs n true (⟨0,1::p,.code y⟩::k') (s.know c false)|some (.val (.bool b))=>bif b then run cx enc labs n true (⟨0,0::p,.code x⟩::k') s else run cx enc labs n true (⟨0,1::p,.code y⟩::k') s|_=>none
     |.block id x=>run cx enc labs n true (⟨0,0::p,.code x⟩::⟨1,p,.inBlock id⟩::k') s|.loop x=>run cx enc labs n true (⟨0,0::p,.code x⟩::⟨2,p,.inLoop x⟩::k') s|.scope x=>run cx enc labs n true (⟨0,0::p,.code x⟩::⟨3,p,.inScope x⟩::k') s|.exit id=>match pt id k' with
      |some k''=>run cx enc labs n true k'' s|none=>match cx.rd with|some _=>ob cx enc (some (.exit id)) s|none=>none
     |.region _ ops d=>bif d then q0q cx.P cx.tb ops s (fun s'=>run cx enc labs n true k' s'.bump) else qaz cx.P cx.tb ops ops.toList s (fun s'=>run cx enc labs n true k' s'.bump)
     |.ret=>ob cx enc (some .ret) s|.rangeFunc g ps _ _=>rfR cx p g ps.toList s fun j s'=>match j with
      |none=>run cx enc labs n true k' s'|some .ret=>ob cx enc (some .ret) s'|some (.exit id)=>match pt id k' with
       |some k''=>run cx enc labs n true k'' s'|none=>match cx.rd with|some _=>ob cx enc (some (.exit id)) s'|none=>none
     |_=>none
    |.inBlock _=>run cx enc labs n true k' s|.inScope _=>run cx enc labs n true k' s|.inLoop x=>run cx enc labs n true (⟨0,0::p,.code x⟩::⟨2,p,.inLoop x⟩::k') s|.beginRound=>match cx.rd with
     |some m=>match ae s.hp m with|some (.loop .ready pe f n' fr ps tag D)=>run cx enc labs n true k' { s with hp:=(m,.loop .busy pe f n' fr ps tag D)::s.hp }|_=>none
     |none=>none
    |_=>none
def yg(P:Program)(ro:Option Nat)(f:FuncId)(x:Machine)(cs:List Frame)(Q:Value->World->Prop):Prop:=
 match ro with|none=>∃v w' fr,Q v w'/\Steps P x (lone fr cs w')/\fr.fn=f/\fr.leaving P w' (.returned v)|some _=>∀c cs',cs=c::cs'->∃v w',Q v w'/\Steps P x (lone (c.finish v) cs' w')
def yg.head{P:Program}{ro:Option Nat}{f:FuncId}{x y:Machine}{cs:List Frame}{Q:Value->World->Prop}(h:Steps P x y)(k:yg P ro f y cs Q):yg P ro f x cs Q:=by
 cases ro with
 |none=>obtain⟨v,w',fr,h1,h2,h3⟩:=k;exact⟨v,w',fr,h1,h.trans h2,h3⟩
 |some l=>exact fun c cs' e=>by obtain⟨v,w',h1,h2⟩:=k c cs' e;exact⟨v,w',h1,h.trans h2⟩
section
variable{P:Program}{vk8:World}{vk3:Gh}{vk5:List (Nat×ai)}{G:Gh}{s:St}{a:Act}{w:World}
def qek(tmps:Array Value)(x:ResultVar):Sem Value:=match x with|.tmp t=>pure (tmps.getD t undef)|.cell a t=>do loadVar t (← asAddr (tmps.getD a undef))
def zun(fn:Func)(tmps:Array Value):results fn tmps=(do let vs ← fn.results.mapM (qek tmps);pure (if h:vs.size=1 then vs[0] else .tuple vs)):=rfl
def zmh(hr:aj vk8 vk3 vk5 G s a w){x:ResultVar}{v:AV}(hq:q3a P s x=true)(h:qzq P s x=some v):∃u,(qek a.tmps x).run P w = .ok u w/\ak v G u:=by
 cases x with
 |tmp t=>
  obtain⟨u,h1,h2⟩:=hr.frame t v h;exact⟨u,by simp[qek,Array.getD_eq_getD_getElem?,h1],h2⟩
 |cell t T=>
  simp only[qzq]at h;split at h
  ·rename_i b off hb;split at h
   ·rename_i cs T' hc;obtain⟨u,h1,B,hB,rfl⟩:=hr.frame _ _ hb;obtain⟨B',vs,k1,k2,k3,_⟩:=hr.fin.mem.holds _ _ hc;rw[k1]at hB;injection hB with hB;subst hB
    obtain⟨z,hz,hrz⟩:=qeo (P:=P) (w:=w) h (o:=0) k3 (fun j u hu=>by rw[wO];exact cell_of_heap k2 hu)
    rw[wO]at hz;exact⟨z,by simp[qek,Array.getD_eq_getD_getElem?,h1,asAddr,hz],hrz⟩
   ·cases h
  ·rename_i k sz hb;split at h
   ·rename_i τ l E n hl hagg hn;simp only[q3a,hb,hl,hn,decide_eq_true_eq]at hq;cases hbb:τ.is1&&Nat.beq sz 1<;>rw[hbb]at h<;>simp only[qT,qF,reduceCtorEq,qI]at h
    subst h;simp only[qA]at hbb;have hsz:τ.sz=1:=qd9 hbb.1;obtain⟨u,h1,B,n0,c0,ho,rfl⟩:=hr.frame _ _ hb;obtain⟨ad,c',q1,q2⟩:=hr.fin.mem.holds _ _ hl;rw[ho]at q1;simp only[qI,qP]at q1;obtain⟨rfl,rfl,rfl⟩:=q1;rcases q2 with⟨q2,_⟩|⟨g,vs,fz,k1,k2,k3,k4,k5,k6,k7,k8,k9⟩
    ·cases q2
    ·simp only[qI,Addr.mk.injEq,and_true]at k1;subst k1;have hfl:(l.flatMap τ.enc).length=n:=by rw[lr,hsz,hq,Nat.mul_one]
     have hload:n9 P T (l.flatMap τ.enc) 0=some (.agg (l.flatMap τ.enc)):=by
      unfold n9;rw[hagg,hn];have:Nat.ble (0+n) (l.flatMap τ.enc).length=true:=by rw[hfl,wO];simp
      simp only[this,qT,List.drop_zero];rw[List.take_of_length_le (by rw[hfl];exact wF _)]
     obtain⟨u,hu,us,rfl,hru⟩:=qeo (P:=P) (w:=w) hload (B:=B) (o:=0) k7 (fun j u hu=>by
      rw[List.getElem?_take]at hu;split at hu
      ·rw[wO];exact cell_of_heap k2 hu
      ·cases hu)
     simp only[Nat.add_zero]at hu;refine⟨.agg us,by simp[qek,Array.getD_eq_getD_getElem?,h1,asAddr,hu],?_⟩
     have:=q26 (G:=G) hbb.1 hru;simpa using this
   ·cases h
  ·cases h
def q9x(hr:aj vk8 vk3 vk5 G s a w):∀{xs:List ResultVar}{vs:List AV},qku P s xs=true->qdb P s xs=some vs ->
  ∃us:List Value,(xs.mapM (qek a.tmps)).run P w = .ok us w/\al vs G us
 |[],vs,_,h=>by simp only[qdb,qI]at h;subst h;exact⟨[],by simp,trivial⟩|x::xs,vs,hq,h=>by
  simp only[qku,qA]at hq;simp only[qdb]at h;split at h
  ·rename_i v hv;split at h
   ·rename_i us hus;simp only[qI]at h;subst h;obtain⟨u,hu,hru⟩:=zmh hr hq.1 hv;obtain⟨us',hu',hru'⟩:=q9x hr hq.2 hus;refine⟨u::us',?_,hru,hru'⟩;rw[List.mapM_cons];simp only[Sem.run_bind,hu,Result.andThen_ok,hu',Sem.run_pure]
   ·cases h
  ·cases h
def zmi(hr:aj vk8 vk3 vk5 G s a w){fn:Func}{v:AV}(hq:qku P s fn.results.toList=true)(h:qzr P fn s=some v):∃u,(results fn a.tmps).run P w = .ok u w/\ak v G u:=by
 unfold qzr at h;have key:∀vs,qdb P s fn.results.toList=some vs->∃us:List Value,(results fn a.tmps).run P w = .ok (if h:us.toArray.size=1 then us.toArray[0] else .tuple us.toArray) w/\al vs G us:=fun vs hv=>by
  obtain⟨us,h1,h2⟩:=q9x hr hq hv;refine⟨us,?_,h2⟩;rw[zun,Array.mapM_eq_mapM_toList];simp only[Sem.run_bind,Sem.run_map,h1,Result.andThen_ok,Sem.run_pure]
 split at h
 ·rename_i vs hv;obtain⟨us,h1,h2⟩:=key _ hv;split at h
  ·simp only[qI]at h;subst h
   match us,h2 with|[u],h2=>exact⟨u,by rw[h1];rfl,h2.1⟩|[],h2=>exact h2.elim|_::_::_,h2=>exact h2.2.elim
  ·rename_i hne;simp only[qI]at h;subst h;refine⟨.tuple us.toArray,?_,us.toArray,rfl,by simpa using h2⟩
   rw[h1,dif_neg];intro he;have hl:=h2.length;simp at he;rw[he]at hl
   match vs,hl,hne with|[x],_,hne=>exact hne x rfl
 ·cases h
def aj.frzC{p:Pt}{b off:Nat}{s:St}{G:Gh}(hr:aj vk8 vk3 vk5 G s a w):∃G',aj vk8 vk3 vk5 G' (frzC p b off s) a w:=by
 unfold Sym.frzC;split
 ·exact hr.frzL
 ·exact⟨G,hr⟩
def aj.coR{bs:List (Nat×bc)}:∀{xs:List ResultVar}{ps:List Pt}{s:St}{G:Gh},aj vk8 vk3 vk5 G s a w->∃G',aj vk8 vk3 vk5 G' (coR bs xs ps s) a w
 |[],_,s,G,hr=>⟨G,hr⟩|x::xs,ps,s,G,hr=>by
  unfold Sym.coR;split
  ·exact⟨G,hr⟩
  ·split
   ·obtain⟨G',hr'⟩:=hr.coF (bs:=bs) (l:=[(_,_)]);exact aj.coR hr'
   ·split
    ·obtain⟨G',hr'⟩:=hr.coB1 (bs:=bs);obtain⟨G2,hr2⟩:=hr'.frzC;exact aj.coR hr2
    ·exact aj.coR hr
def qqh(hr:aj vk8 vk3 vk5 G s a w){ids:NM}(hid:∀n bx,ae vk5 n=some bx->a6 ids n=some n){v:AV}{p:Pt}{hp:List (Nat×bc)}{y:p.den×fw hp}(h:qqg v ids p hp s=some y) :
  ∃G',Fin vk8 vk3 vk5 G' (ch hp y.2) w/\∀u,ak v G u->ak (p.put y.1) G' u:=by
 unfold qqg at h;split at h
 ·rename_i d nm h1;split at h
  ·rename_i d' nm' h2;cases hq:dy nm'&&uc nm' hp<;>rw[hq]at h<;>simp only[qT,qF,reduceCtorEq]at h
   have h:=qJ h;subst h;simp only[qA]at hq;obtain⟨g1,g2⟩:=Pt.get_seen h1;obtain⟨b1,b2⟩:=qac h2;obtain⟨b3,_⟩:=b2 nm' hq.1 (cq.refl _);exact⟨G.view nm',hr.fin.fit hq.1 (fun n bx hb=>b1 _ _ (g1 _ _ (hid n bx hb))) b3,fun u hu=>(g2 nm' hq.1 b1).rep hu⟩
  ·cases h
 ·cases h
def qi8(P:Program)(fn:Func)(rv:Option AV)(a:Act)(w:World)(Q:Value->Prop):Prop:=
 match rv with|none=>∃u,(results fn a.tmps).run P w = .ok u w/\Q u|some x=>∀b,x = .val (.bool b)->Q (.bool b)
def zpa(hr:aj vk8 vk3 vk5 G s a w){ids:NM}(hid:∀n bx,ae vk5 n=some bx->a6 ids n=some n){fn:Func}{rv:Option AV}{p:Pt}{hp:List (Nat×bc)}{y:p.den×fw hp}(hq:q02 P fn ids rv p hp s=true)(h:q01 P fn ids rv p hp s=some y) :
  qi8 P fn rv a w fun u=>∃G',Fin vk8 vk3 vk5 G' (ch hp y.2) w/\ak (p.put y.1) G' u:=by
 unfold q01 at h;split at h
 ·rename_i x;obtain⟨G1,hr1⟩:=hr.coB (bs:=hp) (nm:=ids) (l:=hp);obtain⟨G',h1,h2⟩:=qqh hr1 hid h;exact fun b e=>⟨G',h1,h2 _ (by subst e;rfl)⟩
 ·split at h
  ·rename_i v hv;obtain⟨G1,hr1⟩:=hr.coB (bs:=hp) (nm:=ids) (l:=hp);obtain⟨G2,hr2⟩:=hr1.coR (bs:=hp) (xs:=fn.results.toList) (ps:=qrp p);obtain⟨G',h1,h2⟩:=qqh hr2 hid h;obtain⟨u,hu,hru⟩:=zmi hr2 hq hv;exact⟨u,hu,G',h1,h2 _ hru⟩
  ·cases h
def qi8.mono{fn:Func}{rv:Option AV}{Q Q':Value->Prop}(h:qi8 P fn rv a w Q)(k:∀v,Q v->Q' v):qi8 P fn rv a w Q':=by
 cases rv with
 |none=>obtain⟨u,h1,h2⟩:=h;exact⟨u,h1,k _ h2⟩
 |some x=>exact fun b e=>k _ (h b e)
def qqi(hr:aj vk8 vk3 vk5 G s a w){ids:NM}(hid:∀n bx,ae vk5 n=some bx->a6 ids n=some n){fn:Func}{rv:Option AV}:∀{α:Type}{enc:RS α}{x:α},enc.fin P fn ids rv s=some x ->
  qi8 P fn rv a w fun u=>∃G',Fin vk8 vk3 vk5 G' (enc.res x).2 w/\ak (enc.res x).1 G' u
 |_,.one p hp tq fro ok,x,h=>by
  simp only[RS.fin]at h;cases hq:q02 P fn ids rv p hp s<;>rw[hq]at h<;>simp only[qT,qF,reduceCtorEq]at h
  split at h
  ·rename_i y hy;have h:=qJ h;subst h;have:=zpa (P:=P) hr hid hq hy;simp only[RS.res,ok];exact this
  ·cases h
 |_,.two l r,x,h=>by
  simp only[RS.fin]at h;split at h
  ·rename_i y hy;have h:=qJ h;subst h;have:=qqi (enc:=l) hr hid hy;exact this
  ·split at h
   ·rename_i y hy;have h:=qJ h;subst h;have:=qqi (enc:=r) hr hid hy;exact this
   ·cases h
def zas:∀{ns:List Nat}{s s':St}{G:Gh}{a:Act}{w:World},s.df=ns->qjs ns s=some s'->aj vk8 vk3 vk5 G s a w->∀(fr:Frame)(cs:List Frame),fr.mode = .returning->fr.defers=a.defers ->
  ∃w',aj vk8 vk3 vk5 G s' { a with defers:=[] } w'/\Steps P (lone fr cs w) (lone { fr with defers:=[] } cs w')
 |[],s,s',G,a,w,hd,h,hr,fr,cs,hm,hfd=>by
  simp only[qjs,qI]at h;subst h;obtain⟨bs,h1,h2⟩:=hr.defers;rw[hd]at h2;have:bs=[]:=by cases bs with|nil=>rfl|cons _ _=>simp at h2
  subst this;refine⟨w,⟨⟨[],rfl,rfl⟩,hr.size,hr.frame,hr.fresh,hr.fin⟩,?_⟩;have e:({ fr with defers:=[] }:Frame)=fr:=by rw[← show fr.defers=[] by rw[hfd,h1];rfl]
  rw[e];exact .refl _ _
 |n::ns,s,s',G,a,w,hd,h,hr,fr,cs,hm,hfd=>by
  simp only[qjs]at h;split at h
  ·rename_i hl;obtain⟨bs,h1,h2⟩:=hr.defers;rw[hd]at h2
   cases bs with
   |nil=>simp at h2|cons b bs=>
    simp only[List.map_cons,List.cons.injEq]at h2;obtain⟨B,k1,k2,k3⟩:=hr.fin.mem.holds n _ hl;rw[k1]at h2;obtain⟨e,h2⟩:=h2;injection e with e;subst e
    have hr1:=hr.setBox (bx' := .dead) (o := .deferred none) hl (show G.at n .dfr=some b from k1) (fun c hc=>by cases hc) trivial k3
    have hr2:aj vk8 vk3 vk5 G { s with hp:=(n,.dead)::s.hp,df:=ns } { a with defers:=bs.map (fun b=>{ target := .collected b,args:=#[] }) } (w.putObj b (.deferred none)):=
     ⟨⟨bs,rfl,h2⟩,hr1.size,hr1.frame,hr1.fresh,hr1.fin⟩
    have hs:=step_collected (P:=P) (cs:=cs) (fr:=fr) (by rw[hm];simp) (by rw[hfd,h1];rfl) rfl (run_takeDeferred k2)
    obtain⟨w',i1,i2⟩:=zas (a:={ a with defers:=bs.map (fun b=>{ target := .collected b,args:=#[] }) }) rfl h hr2 { fr with defers:=[]++bs.map (fun b=>{ target := .collected b,args:=#[] }) } cs hm rfl
    exact⟨w',i1,(Steps.one hs).trans i2⟩
  ·cases h
end
structure Cx.Ok(cx:Cx)(body:Code):Prop where
 ents:∀e∈cx.tb.ents,e.Sound cx.P
 mixed:cx.P.follows .mixedOrders=true
 func:cx.P.funcs[cx.f]? = some cx.fn
 tags:∀p t,sj p cx.tags=some t->∀g ps x y,sub body p = .rangeFunc g ps x y->LC.lc t=some (x,y)
def qz(cx:Cx)(vk3:Gh)(vk5:List (Nat×ai))(b:Frame):Prop:=match cx.rd with|none=>b.roundOf=none|some m=>∃B bx,vk3.box m=some B/\ae vk5 m=some bx/\b.roundOf=some B
section
variable{vk8:World}{vk3:Gh}{vk5:List (Nat×ai)}{G:Gh}{s:St}{a:Act}{w:World}
def zvm{P:Program}(fn:FuncId)(tmps:Array Value)(ps:Array Tmp)(asn bo:Code){l:Nat}{r:Loop}(h:w.heap[l]? = some (.loop r)) :
  (Instr.enterLoop fn tmps ps asn bo (some l)).run P w = .ok (w.heap.size,[]) (w.alloc (.loop { state := .ready,pending:=none,fn,tmps,params:=ps,assign:=asn,body:=bo,defers:=r.defers })):=by
 unfold Instr.enterLoop;simp only[Sem.run_bind,run_getLoop h,run_newObj_alloc,Result.andThen,Sem.run_pure]
def zcz(hr:aj vk8 vk3 vk5 G s a w){k D DB:Nat}{f:FuncId}{ps:Array Tmp}{tag:Nat}{asn bo:Code}(htag:LC.lc tag=some (asn,bo))(hk:ae s.hp k=none)(hkx:s.nx<=k)(hD:G.box D=some DB)(hne:D≠k) :
  aj vk8 vk3 vk5 (G.addBox k w.heap.size) { s with hp:=(k,.loop .ready none f s.n s.fr ps.toList tag D)::s.hp } a (w.alloc (.loop { state := .ready,pending:=none,fn:=f,tmps:=a.tmps,params:=ps,assign:=asn,body:=bo,defers:=DB })):=by
 have hle:G.le (G.addBox k w.heap.size):=Gh.addBox_le (hr.fresh k hkx hk).1;refine hr.newBox hk hkx (fun b hb => ?_) ⟨w.heap.size,a.tmps,DB,Gh.addBox_self,by rw[Gh.addBox_ne hne];exact hD,⟨asn,bo,htag,?_⟩,hr.size,fun i x hx => ?_,fun o => ?_⟩
 ·have hb:(G.addBox k w.heap.size).box k=some b:=hb;rw[Gh.addBox_self]at hb;injection hb with hb;exact hb.symm
 ·rw[px];simp
 ·obtain⟨v,h1,h2⟩:=hr.frame i x hx;exact⟨v,h1,h2.le hle⟩
 ·cases hq:(G.addBox k w.heap.size).imm w.heap.size o with
  |none=>rfl|some v=>
   have:=World.block_lt_of_cell? _ _ (hr.fin.mem.agree _ _ _ hq);simp at this
def aj.nx(hr:aj vk8 vk3 vk5 G s a w){k:Nat}(h:s.nx<=k):aj vk8 vk3 vk5 G { s with nx:=k } a w:=⟨hr.defers,hr.size,hr.frame,fun m hm hl=>hr.fresh m (Nat.le_trans h hm) hl,hr.fin⟩
def zo4(hr:aj vk8 vk3 vk5 G s a w){cx:Cx}{ps:Array Tmp}{tag:Nat}{asn bo:Code}(htag:LC.lc tag=some (asn,bo)){s1:St}(h:s.enterRF cx.f ps.toList tag cx.rd=some s1){b:Frame}(hb:b.fn=cx.f)(hrd:qz cx vk3 vk5 b) :
  ∃G1 l mark w1,(Instr.enterLoop b.fn a.tmps ps asn bo b.roundOf).run cx.P w = .ok (l,mark) w1/\G1.box s.nx=some l/\G.le G1/\aj vk8 vk3 vk5 G1 s1 { a with defers:=mark++a.defers } w1/\s1.nx=s.nx+32:=by
 unfold St.enterRF at h;cases hn:a7 s.nx s.hp<;>rw[hn]at h<;>simp only[qT,qF,reduceCtorEq]at h
 have hk0:=ly hn s.nx (wF _) (by omega)
 have hk1:=ly hn (s.nx+1) (by omega) (by omega)
 unfold qz at hrd;split at h
 ·rename_i hc;rw[hc]at hrd;simp only at hrd;simp only[qI]at h;subst h;have hr1:=hr.newBox (k:=s.nx+1) (bx := .dfr) (o := .deferred (some [])) hk1 (by omega) (fun b hb=>by
   have hb:(G.addBox (s.nx+1) w.heap.size).box (s.nx+1)=some b:=hb;rw[Gh.addBox_self]at hb;injection hb with hb;exact hb.symm)
   ⟨w.heap.size,Gh.addBox_self,px _ _,fun o=>by
    cases hq:(G.addBox (s.nx+1) w.heap.size).imm w.heap.size o with
    |none=>rfl|some v=>
     have:=World.block_lt_of_cell? _ _ (hr.fin.mem.agree _ _ _ hq);simp at this⟩
  have hk0':ae ((s.nx+1,ai.dfr)::s.hp) s.nx=none:=by
   simp only[ae];have:Nat.beq (s.nx+1) s.nx=false:=by
    cases hq:Nat.beq (s.nx+1) s.nx
    ·rfl
    ·have:=qN hq;omega
   rw[this];exact hk0
  have hr2:=zcz hr1 (k:=s.nx) (D:=s.nx+1) (f:=cx.f) (ps:=ps) htag hk0' (wF _) Gh.addBox_self (by omega)
  have hle1:G.le (G.addBox (s.nx+1) w.heap.size):=Gh.addBox_le (hr.fresh (s.nx+1) (by omega) hk1).1
  have hle2:(G.addBox (s.nx+1) w.heap.size).le ((G.addBox (s.nx+1) w.heap.size).addBox s.nx (w.alloc (.deferred (some []))).heap.size):=Gh.addBox_le (hr1.fresh s.nx (wF _) hk0').1;refine⟨_,w.heap.size+1,[{ target := .collected w.heap.size,args:=#[] }],_,by rw[hrd,hb];exact run_enterLoop_outer _ _ _ _ _,?_,hle1.trans hle2,?_,rfl⟩
  ·rw[Gh.addBox_self,World.size_alloc]
  ·have hr3:=hr2.nx (k:=s.nx+32) (by show s.nx<=_;omega)
   refine⟨?_,hr3.size,hr3.frame,hr3.fresh,hr3.fin⟩;obtain⟨bs,h1,h2⟩:=hr3.defers;refine⟨w.heap.size::bs,by rw[h1];rfl,?_⟩
   simp only[List.map_cons,List.cons.injEq];refine⟨?_,h2⟩;rw[Gh.addBox_ne (by omega),Gh.addBox_self]
 ·rename_i m hc;rw[hc]at hrd;simp only at hrd;obtain⟨B,bx0,e1,e2,e3⟩:=hrd;split at h
  ·rename_i D hm;simp only[qI]at h;subst h;obtain⟨B',tmps,DB,k1,k2,⟨asn',bo',_,k3⟩,_⟩:=hr.fin.mem.holds _ _ hm;have:=hr.fin.keep m bx0 B e2 e1;rw[this]at k1;injection k1 with k1;subst k1
   have hne:D≠s.nx:=fun e=>by subst e;rw[(hr.fresh _ (wF _) hk0).1]at k2;cases k2
   have hr2:=zcz hr (k:=s.nx) (D:=D) (f:=cx.f) (ps:=ps) htag hk0 (wF _) k2 hne;have hle2:G.le (G.addBox s.nx w.heap.size):=Gh.addBox_le (hr.fresh s.nx (wF _) hk0).1;refine⟨_,w.heap.size,[],_,by rw[e3,hb];exact zvm _ _ _ _ _ k3,Gh.addBox_self,hle2,?_,rfl⟩
   exact hr2.nx (k:=s.nx+32) (by show s.nx<=_;omega)
  ·cases h
end
def q1k:Option dp->List Item|none=>[]|some j=>[.code j.code]
section
variable{vk8:World}{vk3:Gh}{vk5:List (Nat×ai)}{G:Gh}{s:St}{a:Act}{w:World}{cx:Cx}{body:Code}{R:Type}
def zfb(ok:cx.Ok body)(hr:aj vk8 vk3 vk5 G s a w){p:List Nat}{g:Operand}{ps:Array Tmp}{asn bo:Code}(hsub:sub body p = .rangeFunc g ps asn bo){q:Rq×St×List AV}(hq:qrv cx p g ps.toList s=some q)
  {K:Option dp->St->Option R} {x:R} (h:qrw s.nx q K=some x) {b:Frame} (cs:List Frame) (hb:b.fn=cx.f) (_hkind:b.kind = .normal) (hrd:qz cx vk3 vk5 b) (k:List Item) :
  ∃j s' G' a' w',K j s'=some x/\aj vk8 vk3 vk5 G' s' a' w'/\Steps cx.P (lone (b.atR a (.code (.rangeFunc g ps asn bo)::k)) cs w) (lone (b.atR a' (q1k j++k)) cs w'):=by
 unfold qrv at hq;split at hq
 ·rename_i tag h0 cap ht hg;split at hq
  ·rename_i s1 hs1;split at hq
   ·rename_i q1 hq1;have hq:=qJ hq;subst hq;obtain⟨G1,l,mark,w1,he,hl,hle,hr1,hnx⟩:=zo4 hr (ok.tags p tag ht g ps asn bo hsub) hs1 hb hrd;unfold qrw at h;obtain⟨d,hd,h⟩:=Rq.K_some h;simp only at h hd;obtain⟨e,hemem,hc⟩:=qam hq1;unfold qjq at hc;cases hkk:sg h0 e.key<;>rw[hkk]at hc<;>simp only[qT,qF,reduceCtorEq]at hc
    obtain⟨N,x1,x1',y,k1,k2,k3,k4,k5,k6⟩:=qrc hc hd;subst k2;have hs:=ok.ents e hemem x1 x1' y k1;rw[q1m hkk]at hs;obtain⟨hpl,hct⟩:=hs;unfold zfa at h;simp only at h;cases hbb:dy N&&rz N&&a7 s1.nx s1.hp<;>rw[hbb]at h<;>simp only[qT,qF,reduceCtorEq]at h
    simp only[qA]at hbb;obtain⟨⟨hb1,_⟩,hb2⟩:=hbb
    cases hv:im (az N) s1.hp N with
    |none=>rw[hv]at h;simp only[reduceCtorEq]at h|some hpv=>
    cases hvs:bh false [] (AV.rens (az N) (.yld s.nx::cap)) (Pts.put e.args x1) with
    |none=>rw[hv,hvs]at h;simp only[reduceCtorEq]at h|some ps1=>
    rw[hv,hvs]at h;simp only at h
    cases hvw:jx hpv (ch e.hp x1') with
    |none=>rw[hvw]at h;simp only[reduceCtorEq]at h|some ps2=>
    rw[hvw]at h;simp only at h;have p1:=k5 _ hvs;have p2:=k6 _ _ hv hvw;obtain⟨fs,cps,hge,hfs,hcs⟩:=bi hr hg;have hfs0:fs=#[]:=Array.eq_empty_of_size_eq_zero (by simpa using hfs.length.symm)
    subst hfs0;have hge':({ a with defers:=mark++a.defers }:Act).eval g = .func (.func h0) #[] cps:=hge
    have hres:(resolve a.eval (rangeCall g l) 0).run cx.P w1 = .ok { target := .fn (.func h0) cps,args:=#[.func (.yield l) #[] #[]] } w1:=by
     have hy:a.eval (.const (.func (.yield l) #[] #[])) = .func (.yield l) #[] #[]:=rfl;simp[resolve,hge,Deferred.ofValue,hy]
    have hinv:(invoke (.fn (.func h0) cps) #[.func (.yield l) #[] #[]]).run cx.P w1 = .ok (.enter h0 (#[.func (.yield l) #[] #[]]++cps)) w1:=by
     simp[invoke,hpl _ w1]
    have henter:=stepR_rangeFunc (P:=cx.P) (b:=b) (a:=a) (k:=k) (cs:=cs) he hres hinv;have hreps:al (.yld s.nx::cap) G1 (.func (.yield l) #[] #[]::cps.toList):=⟨⟨l,hl,rfl⟩,hcs.le hle⟩;have hm:ci (G1.view N) (ch e.hp x1') w1:=(hr1.fin.mem.view hv (qdx hb1)).vw hvw p2;have hreps2:=ku (Gh.le.refl _) (fun e=>by cases e) hvs p1 (al.ren (G:=G1) (G':=G1.view N) (fun _ _ _ h=>h) (td N) (uz N) hreps)
    have hcalls:=hct w1 (G1.view N) _ hm hreps2;have e1:(Value.func (.yield l) #[] #[]::cps.toList).toArray=#[.func (.yield l) #[] #[]]++cps:=by simp
    rw[e1]at hcalls;obtain⟨en,w2,fr,hpost,hcomes,hfrfn,hleave⟩:=hcalls (b.atR { a with defers:=mark++a.defers } (.inRangeFunc l::k)::cs)
    obtain⟨G2,v,rfl,_,hle2,hr2⟩:=zda hr1 hb1 hb2 (wF _) hv hvw p2 hpost;have hsteps:Steps cx.P (lone (b.atR a (.code (.rangeFunc g ps asn bo)::k)) cs w) (lone (b.atR { a with defers:=mark++a.defers } (.endRangeFunc l::k)) cs w2):=by
     refine(Steps.one henter).trans (Steps.trans hcomes (.one ?_));rw[← finish_atR_inRangeFunc l v];exact step_leave_returned hleave
    split at h
    ·rename_i st pe f' n' fr' ps' tag' D' hlk;cases hnb:zdm st<;>rw[hnb]at h<;>simp only[qT,qF,reduceCtorEq]at h
     obtain⟨B,tmps,DB,i1,i2,⟨asn',bo',_,i3⟩,i4,i5,i6⟩:=hr2.fin.mem.holds _ _ hlk;have:=hle2.box _ _ hl;rw[this]at i1;injection i1 with i1;subst i1
     have hend:=run_endLoop (P:=cx.P) i3 (by intro e;simp only at e;subst e;cases hnb)
     have hst:=stepR_endRangeFunc (b:=b) (a:={ a with defers:=mark++a.defers }) (k:=k) (cs:=cs) hend
     have e2:(Option.map Item.code (Option.map dp.code pe)).toList=q1k pe:=by cases pe<;>rfl
     rw[e2]at hst;exact⟨pe,_,G2,{ a with defers:=mark++a.defers },_,h,(hr2.nx (k:=s1.nx+32) (Nat.le_add_right _ _)).setBox (bx' := .dead) hlk (show G2.at s.nx (.loop st pe f' n' fr' ps' tag' D')=some l from this) (fun c hc=>by cases hc) trivial i6,hsteps.trans (.one hst)⟩
    ·cases h
   ·cases hq
  ·cases hq
 ·cases hq
def zur(ok:cx.Ok body)(hr:aj vk8 vk3 vk5 G s a w){p:List Nat}{g:Operand}{ps:Array Tmp}{asn bo:Code}(hsub:sub body p = .rangeFunc g ps asn bo)
  {K:Option dp->St->Option R} {x:R} (h:rfR cx p g ps.toList s K=some x) {b:Frame} (cs:List Frame) (hb:b.fn=cx.f) (hkind:b.kind = .normal) (hrd:qz cx vk3 vk5 b) (k:List Item) :
  ∃j s' G' a' w',K j s'=some x/\aj vk8 vk3 vk5 G' s' a' w'/\Steps cx.P (lone (b.atR a (.code (.rangeFunc g ps asn bo)::k)) cs w) (lone (b.atR a' (q1k j++k)) cs w'):=by
 unfold rfR at h;split at h
 ·rename_i q hq;exact zfb ok hr hsub hq h cs hb hkind hrd k
 ·split at h
  ·rename_i s' hs';have:∃G',aj vk8 vk3 vk5 G' s' a w:=by
    unfold zfc at hs';split at hs'
    ·split at hs'
     ·split at hs'
      ·have hs':=qJ hs';subst hs';obtain⟨G1,hr1⟩:=hr.frzL;exact hr1.coB
      ·cases hs'
     ·cases hs'
    ·cases hs'
   obtain⟨G',hr'⟩:=this;split at h
   ·rename_i q hq;exact zfb ok hr' hsub hq h cs hb hkind hrd k
   ·cases h
  ·cases h
def jq(cx:Cx)(vk5:List (Nat×ai)){R:Type}(enc:RS R)(k:List Item)(s:St)(r:R):Prop:=
 ∀(vk8:World)(vk3 G:Gh)(a:Act)(w:World),aj vk8 vk3 vk5 G s a w->∀(b:Frame)(cs:List Frame),b.fn=cx.f->b.kind = .normal->qz cx vk3 vk5 b ->
  yg cx.P b.roundOf cx.f (lone (b.atR a k) cs w) cs fun v w'=>∃G',Fin vk8 vk3 vk5 G' (enc.res r).2 w'/\ak (enc.res r).1 G' v
def qtr(cx:Cx)(j:Option dp)(k:List Item):Prop:=match j with|none=>k=[]|some .ret=>∃k',k = .code .ret::k'|some (.exit id)=>cx.rd≠none/\∃k',k = .code (.exit id)::k'/\exitTo id k'=none
def qp6(ok:cx.Ok body)(hid:∀n bx,ae vk5 n=some bx->a6 cx.ids n=some n){enc:RS R}{j:Option dp}{r:R}{k:List Item}(hk:qtr cx j k)(h:ob cx enc j s=some r):jq cx vk5 enc k s r:=by
 intro vk8 vk3 G a w hr b cs hb hkind hrd;unfold ob at h;unfold qz at hrd;split at h
 ·rename_i hrdn;rw[hrdn]at hrd;simp only at hrd;split at h
  ·rename_i s' hs';have h1:Steps cx.P (lone (b.atR a k) cs w) (lone { b.atR a k with mode := .returning } cs w):=by
    cases j with
    |none=>simp only[qtr]at hk;subst hk;exact .one (stepR_end hrd)|some j=>cases j with
     |ret=>obtain⟨k',rfl⟩:=hk;exact .one (stepR_ret hrd)
     |exit id=>exact absurd hrdn hk.1
   obtain⟨w',i1,i2⟩:=zas (P:=cx.P) rfl hs' hr { b.atR a k with mode := .returning } cs rfl rfl
   obtain⟨u,u1,u2⟩:=qqi (P:=cx.P) i1 hid h;rw[hrd];exact⟨u,w',_,u2,h1.trans i2,hb,rfl,rfl,hkind,cx.fn,by rw[← ok.func,← hb];rfl,u1⟩
  ·cases h
 ·rename_i m hrdm;rw[hrdm]at hrd;simp only at hrd;obtain⟨B,bx0,e1,e2,e3⟩:=hrd;cases hd:s.noDf<;>rw[hd]at h<;>simp only[qT,qF,reduceCtorEq]at h
  split at h
  ·rename_i st pe f n fr ps tag D hl;obtain⟨B',tmps,DB,i1,i2,⟨asn,bo,i3,i4⟩,i5,i6,i7⟩:=hr.fin.mem.holds _ _ hl;have:=hr.fin.keep m bx0 B e2 e1;rw[this]at i1;injection i1 with i1;subst i1
   have hend:=run_endRound (P:=cx.P) (j.map dp.code) i4;have hiso:(j.map dp.code).isNone=uk j:=by cases j<;>rfl
   rw[hiso]at hend;have hst:(if uk j=true then LoopState.ready else LoopState.done)=(bif uk j then LoopState.ready else LoopState.done):=by cases uk j<;>rfl
   rw[hst]at hend;have hr2:=hr.setBox (bx' := .loop (bif uk j then .ready else .done) j f n fr ps tag D) (o := .loop { state:=bif uk j then .ready else .done,pending:=j.map dp.code,fn:=f,tmps:=tmps,params:=ps.toArray,assign:=asn,body:=bo,defers:=DB }) hl (show G.box m=some B from this)
    (fun c hc=>by have hc:G.box m=some c:=hc;rw[this]at hc;injection hc with hc;exact hc.symm)
    ⟨B,tmps,DB,this,i2,⟨asn,bo,i3,by rw[World.putObj_heap_same (Array.getElem?_eq_some_iff.1 i4).1]⟩,i5,i6,i7⟩ i7
   have hfin:=qqi (P:=cx.P) hr2 hid h;rw[e3];intro c cs' hcs;subst hcs;refine⟨.bool (uk j),_,hfin _ rfl,.one ?_⟩
   cases j with
   |none=>simp only[qtr]at hk;subst hk;exact stepR_round_end e3 hkind hend|some j=>cases j with
    |ret=>obtain⟨k',rfl⟩:=hk;exact stepR_round_ret e3 hkind hend
    |exit id=>obtain⟨_,k',rfl,hx⟩:=hk;exact stepR_round_exit e3 hkind hx hend
  ·cases h
end
section
variable{vk5:List (Nat×ai)}{s:St}{cx:Cx}{body:Code}{R:Type}{enc:RS R}
def jq.via{k k':List Item}{s':St}{r:R}(h:jq cx vk5 enc k' s' r)(hs:∀vk8 vk3 G a w,aj vk8 vk3 vk5 G s a w->∀(b:Frame)(cs:List Frame),b.fn=cx.f->b.kind = .normal->qz cx vk3 vk5 b ->
  ∃G' a' w',aj vk8 vk3 vk5 G' s' a' w'/\Steps cx.P (lone (b.atR a k) cs w) (lone (b.atR a' k') cs w')):jq cx vk5 enc k s r:=by
 intro vk8 vk3 G a w hr b cs hb hk hrd;obtain⟨G',a',w',h1,h2⟩:=hs vk8 vk3 G a w hr b cs hb hk hrd;exact(h vk8 vk3 G' a' w' h1 b cs hb hk hrd).head h2
def jq.one{k k':List Item}{r:R}(h:jq cx vk5 enc k' s r)(hs:∀(a:Act)(w:World)(b:Frame)(cs:List Frame),step cx.P (lone (b.atR a k) cs w) = .next (lone (b.atR a k') cs w)):jq cx vk5 enc k s r:=
 h.via fun _ _ G a w hr b cs _ _ _=>⟨G,a,w,hr,.one (hs a w b cs)⟩
def qy(cx:Cx)(vk5:List (Nat×ai)){R:Type}(enc:RS R)(body:Code)(l:fb R):Prop:=∀d r,l.F d=some r->jq cx vk5 enc (d8 (ng body l.key)) (l.ls.st d) r
def q2r{ids:NM}{s:St}{k:List dx}:∀{ls:List (fb R)}{l:fb R},qa1 ids s k ls=some l->l∈ls/\qd2 l.key k=true
 |[],_,h=>by cases h
 |x::xs,l,h=>by
  simp only[qa1]at h;cases hb:qd2 x.key k<;>rw[hb]at h<;>simp only[qT,qF]at h
  ·obtain⟨h1,h2⟩:=q2r h;exact⟨qE _ h1,h2⟩
  ·split at h
   ·simp only[qI]at h;subst h;exact⟨qH,hb⟩
   ·rename_i l' hl;split at h
    ·simp only[qI]at h;subst h;exact⟨qH,hb⟩
    ·simp only[qI]at h;subst h;obtain⟨h1,h2⟩:=q2r hl;exact⟨qE _ h1,h2⟩
def zdv{i:dx}{k:List dx}(h:∀x∈i::k,x.Ok body):i.Ok body/\∀x∈k,x.Ok body:=⟨h _ qH,fun x hx=>h x (qE _ hx)⟩
def ll{i:dx}{k:List dx}(h:i.Ok body)(k':∀x∈k,x.Ok body):∀x∈i::k,x.Ok body:=fun x hx=>by
 rcases List.mem_cons.1 hx with rfl|hx
 ·exact h
 ·exact k' x hx
def znz{kd:Nat}{p:List Nat}{c:Code}(h:(dx.mk kd p (.code c)).Ok body):sub body p=c:=zqr h
def rr{p:List Nat}{c:Code}(i:Nat){x:Code}(h:sub body p=c)(hc:lj i c=x):(dx.mk 0 (i::p) (.code x)).Ok body:=by
 show Item.code x = .code (lj i (sub body p));rw[h,hc]
def zna{p:List Nat}{id:Nat}{x:Code}(h:sub body p = .block id x):(dx.mk 1 p (.inBlock id)).Ok body:=by
 show Item.inBlock id=(match sub body p with | .block id _ => .inBlock id|c => .code c)
 rw[h]
def zcy{p:List Nat}{x:Code}(h:sub body p = .loop x):(dx.mk 2 p (.inLoop x)).Ok body:=by
 show Item.inLoop x=(match sub body p with | .loop x => .inLoop x|c => .code c)
 rw[h]
def zwi{P:Program}{b:Frame}{a:Act}{k:List Item}{cs:List Frame}{w:World}{x:Code}:step P (lone (b.atR a (.inScope x::k)) cs w) = .next (lone (b.atR a k) cs w):=
 step_lone_go (by simp[stepG,stepG.exec,Frame.atR])
def zwj{P:Program}{b:Frame}{a:Act}{k:List Item}{cs:List Frame}{w:World}{c:Code} :
  step P (lone (b.atR a (.code (.scope c)::k)) cs w) = .next (lone (b.atR a (.code c :: .inScope c::k)) cs w):=
 step_lone_go (by simp[stepG,stepG.exec,Frame.atR])
def zv4{p:List Nat}{x:Code}(h:sub body p = .scope x):(dx.mk 3 p (.inScope x)).Ok body:=by
 show Item.inScope x=(match sub body p with | .scope x => .inScope x|c => .code c)
 rw[h]
def q0w{id:Nat}:∀{k:List dx},pt id k=none->(∀i∈k,i.Ok body)->exitTo id (d8 k)=none
 |[],_,_=>rfl|⟨kd,p,it⟩::k,h,hk=>by
  simp only[pt]at h;have hk':=(zdv hk).2;split at h
  ·rename_i id';split at h
   ·cases h
   ·rename_i he;simp only[d8,exitTo];rw[qW he];exact q0w h hk'
  ·rename_i hne;have:=q0w h hk';simp only[d8];cases it<;>first
    |(exfalso;exact hne _ rfl)
    |(simp only[exitTo];exact this)
abbrev IH(cx:Cx)(vk5:List (Nat×ai)){R:Type}(enc:RS R)(body:Code)(labs:List (fb R))(n:Nat):Prop:=
 ∀(chk:Bool)(k:List dx)(s:St)(r:R),(∀i∈k,i.Ok body)->run cx enc labs n chk k s=some r->jq cx vk5 enc (d8 k) s r
def qa4(cx:Cx){R:Type}(enc:RS R)(labs:List (fb R))(n:Nat)(p:List Nat)(k':List dx)(s:St)(c:Code):Option R:=match c with
 |.skip=>run cx enc labs n true k' s|.label _=>run cx enc labs n true k' s|.seq x y=>run cx enc labs n true (⟨0,0::p,.code x⟩::⟨0,1::p,.code y⟩::k') s|.cond c x y=>match s.ev c with|some (.bool b)=>bif b then run cx enc labs n true (⟨0,0::p,.code x⟩::k') (s.know c true) else run cx enc labs n true (⟨0,1::p,.code y⟩::k') (s.know c false)|some (.val (.bool b))=>bif b then run cx enc labs n true (⟨0,0::p,.code x⟩::k') s else run cx enc labs n true (⟨0,1::p,.code y⟩::k') s|_=>none
 |.block id x=>run cx enc labs n true (⟨0,0::p,.code x⟩::⟨1,p,.inBlock id⟩::k') s|.loop x=>run cx enc labs n true (⟨0,0::p,.code x⟩::⟨2,p,.inLoop x⟩::k') s|.scope x=>run cx enc labs n true (⟨0,0::p,.code x⟩::⟨3,p,.inScope x⟩::k') s|.exit id=>match pt id k' with
  |some k''=>run cx enc labs n true k'' s|none=>match cx.rd with|some _=>ob cx enc (some (.exit id)) s|none=>none
 |.region _ ops d=>bif d then q0q cx.P cx.tb ops s (fun s'=>run cx enc labs n true k' s'.bump) else qaz cx.P cx.tb ops ops.toList s (fun s'=>run cx enc labs n true k' s'.bump)
 |.ret=>ob cx enc (some .ret) s|.rangeFunc g ps _ _=>rfR cx p g ps.toList s fun j s'=>match j with
  |none=>run cx enc labs n true k' s'|some .ret=>ob cx enc (some .ret) s'|some (.exit id)=>match pt id k' with
   |some k''=>run cx enc labs n true k'' s'|none=>match cx.rd with|some _=>ob cx enc (some (.exit id)) s'|none=>none
 |_=>none
def zvl{labs:List (fb R)}{n:Nat}(ih:IH cx vk5 enc body labs n){p:List Nat}{k':List dx}{c:Operand}{x y:Code}{r:R}(hsub:sub body p = .cond c x y)(hk':∀i∈k',i.Ok body)(h:qa4 cx enc labs n p k' s (.cond c x y)=some r):jq cx vk5 enc (.code (.cond c x y)::d8 k') s r:=by
 unfold qa4 at h;simp only at h;split at h
 ·rename_i t ht;cases t<;>simp only[qT,qF]at h
  ·refine(ih true _ _ r (ll (rr 1 hsub rfl) hk') h).via fun vk8 vk3 G a w hr b cs _ _ _ => ?_
   have he:a.eval c = .bool false:=bi hr ht;exact⟨G,a,w,hr.know he,.one (stepR_cond he)⟩
  ·refine(ih true _ _ r (ll (rr 0 hsub rfl) hk') h).via fun vk8 vk3 G a w hr b cs _ _ _ => ?_
   have he:a.eval c = .bool true:=bi hr ht;exact⟨G,a,w,hr.know he,.one (stepR_cond he)⟩
 ·rename_i t ht;cases t<;>simp only[qT,qF]at h
  ·refine(ih true _ _ r (ll (rr 1 hsub rfl) hk') h).via fun vk8 vk3 G a w hr b cs _ _ _ => ?_
   have he:a.eval c = .bool false:=bi hr ht;exact⟨G,a,w,hr,.one (stepR_cond he)⟩
  ·refine(ih true _ _ r (ll (rr 0 hsub rfl) hk') h).via fun vk8 vk3 G a w hr b cs _ _ _ => ?_
   have he:a.eval c = .bool true:=bi hr ht;exact⟨G,a,w,hr,.one (stepR_cond he)⟩
 ·cases h
def zvr(ok:cx.Ok body){labs:List (fb R)}{n:Nat}(ih:IH cx vk5 enc body labs n){p:List Nat}{k':List dx}{id:Nat}{ops:Array Oper}{d:Bool}{r:R}(hk':∀i∈k',i.Ok body)(h:qa4 cx enc labs n p k' s (.region id ops d)=some r):jq cx vk5 enc (.code (.region id ops d)::d8 k') s r:=by
 unfold qa4 at h;simp only at h;cases d<;>simp only[qT,qF]at h
 ·intro vk8 vk3 G a w hr b cs hb hkd hrd;have hops:=zd1 (P:=cx.P) (ops:=ops) ok.ents (N:=fun a' w'=>yg cx.P b.roundOf cx.f (lone (b.atR a' (d8 k')) cs w') cs fun v w'=>∃G',Fin vk8 vk3 vk5 G' (enc.res r).2 w'/\ak (enc.res r).1 G' v)
   (fun s' h' G' a' w' hr'=>ih true k' s'.bump r hk' h' vk8 vk3 G' a' w' hr'.bump b cs hb hkd hrd) ops.toList 0 s G a w (fun j hj=>by simp) h hr
  have e:List.range' 0 ops.toList.length=List.range ops.size:=by simp[List.range_eq_range']
  rw[e]at hops;obtain⟨a',w',h1,h2⟩:=zod (id:=id) hops b (d8 k') cs hkd;exact h1.head h2
 ·intro vk8 vk3 G a w hr b cs hb hkd hrd;obtain⟨a',w',h1,h2⟩:=zot (P:=cx.P) ok.ents ok.mixed h (N:=fun a' w'=>yg cx.P b.roundOf cx.f (lone (b.atR a' (d8 k')) cs w') cs fun v w'=>∃G',Fin vk8 vk3 vk5 G' (enc.res r).2 w'/\ak (enc.res r).1 G' v)
   (fun s' h' G' a' w' hr'=>ih true k' s'.bump r hk' h' vk8 vk3 G' a' w' hr'.bump b cs hb hkd hrd) hr id b (d8 k') cs hkd
  exact h1.head h2
def zfv(ok:cx.Ok body)(hid:∀n bx,ae vk5 n=some bx->a6 cx.ids n=some n){labs:List (fb R)}{n:Nat}(ih:IH cx vk5 enc body labs n){k':List dx}{id:Nat}{r:R}(hk':∀i∈k',i.Ok body)
  (h:(match pt id k' with
   |some k''=>run cx enc labs n true k'' s|none=>match cx.rd with
    |some _=>ob cx enc (some (.exit id)) s| none=>none)=some r):jq cx vk5 enc (.code (.exit id)::d8 k') s r:=by
 split at h
 ·rename_i k'' hx;obtain⟨h1,h2⟩:=q0x hx;exact(ih true k'' s r (fun i hi=>hk' i (h2 i hi)) h).one fun a w b cs=>stepR_exit h1
 ·rename_i hx;split at h
  ·rename_i m hm;exact qp6 ok hid (j:=some (.exit id)) ⟨by rw[hm];simp,_,rfl,q0w hx hk'⟩ h
  ·cases h
def zvq(ok:cx.Ok body)(hid:∀n bx,ae vk5 n=some bx->a6 cx.ids n=some n){labs:List (fb R)}{n:Nat}(ih:IH cx vk5 enc body labs n){p:List Nat}{k':List dx}{g:Operand}{ps:Array Tmp}{asn bo:Code}{r:R}(hsub:sub body p = .rangeFunc g ps asn bo)(hk':∀i∈k',i.Ok body)
  (h:qa4 cx enc labs n p k' s (.rangeFunc g ps asn bo)=some r):jq cx vk5 enc (.code (.rangeFunc g ps asn bo)::d8 k') s r:=by
 unfold qa4 at h;simp only at h;intro vk8 vk3 G a w hr b cs hb hkd hrd;obtain⟨j,s',G',a',w',h1,h2,h3⟩:=zur ok hr hsub h cs hb hkd hrd (d8 k');refine yg.head h3 ?_
 cases j with
 |none=>exact ih true k' s' r hk' h1 vk8 vk3 G' a' w' h2 b cs hb hkd hrd|some j=>cases j with|ret=>exact qp6 ok hid (j:=some .ret) (k := .code .ret::d8 k') ⟨_,rfl⟩ h1 vk8 vk3 G' a' w' h2 b cs hb hkd hrd|exit id=>exact zfv ok hid ih hk' h1 vk8 vk3 G' a' w' h2 b cs hb hkd hrd
def zvk(ok:cx.Ok body)(hid:∀n bx,ae vk5 n=some bx->a6 cx.ids n=some n){labs:List (fb R)}{n:Nat}(ih:IH cx vk5 enc body labs n){kd:Nat}{p:List Nat}{k':List dx}{c:Code}{r:R}(hi:(dx.mk kd p (.code c)).Ok body)(hk':∀i∈k',i.Ok body)
  (h:qa4 cx enc labs n p k' s c=some r):jq cx vk5 enc (.code c::d8 k') s r:=by
 have hsub:=znz hi
 cases c with
 |skip=>exact(ih true k' s r hk' h).one fun a w b cs=>stepR_skip
 |label l=>exact(ih true k' s r hk' h).one fun a w b cs=>stepR_label
 |seq x y=>exact(ih true _ s r (ll (rr 0 hsub rfl) (ll (rr 1 hsub rfl) hk')) h).one fun a w b cs=>stepR_seq
 |cond c x y=>exact zvl ih hsub hk' h|block id x=>exact(ih true _ s r (ll (rr 0 hsub rfl) (ll (zna hsub) hk')) h).one fun a w b cs=>stepR_block
 |loop x=>exact(ih true _ s r (ll (rr 0 hsub rfl) (ll (zcy hsub) hk')) h).one fun a w b cs=>stepR_loop
 |scope x=>exact(ih true _ s r (ll (rr 0 hsub rfl) (ll (zv4 hsub) hk')) h).one fun a w b cs=>zwj
 |exit id=>exact zfv ok hid ih hk' h|region id ops d=>exact zvr ok ih hk' h|ret=>exact qp6 ok hid (j:=some .ret) ⟨_,rfl⟩ h|rangeFunc g ps asn bo=>exact zvq ok hid ih hsub hk' h|_=>cases h
def zvj{labs:List (fb R)}{n:Nat}(ih:IH cx vk5 enc body labs n){k':List dx}{r:R}(hk':∀i∈k',i.Ok body)
  (h:(match cx.rd with
   |some m=>match ae s.hp m with|some (.loop .ready pe f n' fr ps tag D)=>run cx enc labs n true k' { s with hp:=(m,.loop .busy pe f n' fr ps tag D)::s.hp }|_=>none
   | none=>none)=some r):jq cx vk5 enc (.beginRound::d8 k') s r:=by
 split at h
 ·rename_i m hm;split at h
  ·rename_i pe f n' fr ps tag D hl;refine(ih true k' _ r hk' h).via fun vk8 vk3 G a w hr b cs _ _ hrd => ?_
   unfold qz at hrd;rw[hm]at hrd;simp only at hrd;obtain⟨B,bx0,e1,e2,e3⟩:=hrd;obtain⟨B',tmps,DB,i1,i2,⟨asn,bo,i3,i4⟩,i5,i6,i7⟩:=hr.fin.mem.holds _ _ hl;have:=hr.fin.keep m bx0 B e2 e1;rw[this]at i1;injection i1 with i1;subst i1
   have hbr:=run_beginRound (P:=cx.P) i4 rfl;exact⟨G,a,_,hr.setBox (bx' := .loop .busy pe f n' fr ps tag D) hl (show G.box m=some B from this)
    (fun c hc=>by have hc:G.box m=some c:=hc;rw[this]at hc;injection hc with hc;exact hc.symm)
    ⟨B,tmps,DB,this,i2,⟨asn,bo,i3,by rw[World.putObj_heap_same (Array.getElem?_eq_some_iff.1 i4).1]⟩,i5,i6,i7⟩ i7,.one (stepR_beginRound e3 hbr)⟩
  ·cases h
 ·cases h
def q3j(ok:cx.Ok body)(hid:∀n bx,ae vk5 n=some bx->a6 cx.ids n=some n){labs:List (fb R)}(hlab:∀l∈labs,qy cx vk5 enc body l) :
  ∀(n:Nat)(chk:Bool)(k:List dx)(s:St)(r:R),(∀i∈k,i.Ok body)->run cx enc labs n chk k s=some r->jq cx vk5 enc (d8 k) s r:=by
 intro n
 induction n with
 |zero=>intro chk k s r _ h;cases h
 |succ n ih=>
  intro chk k s r hk h;unfold run at h
  cases hl:(bif chk then qa1 cx.ids s k labs else none) with
  |some lab=>
   rw[hl]at h;have hl:qa1 cx.ids s k labs=some lab:=by cases chk<;>simp only[qT,qF,reduceCtorEq]at hl;exact hl
   obtain⟨hm,hkey⟩:=q2r hl;simp only at h;split at h
   ·rename_i d hd;have hg:=hlab lab hm d r h;rw[zbg hkey hk]at hg;refine hg.via fun vk8 vk3 G a w hr b cs _ _ _ => ?_
    obtain⟨G1,hr1⟩:=hr.co lab.ls cx.ids;obtain⟨G2,hr2⟩:=hr1.fit hid hd;exact⟨G2,a,w,hr2,.refl _ _⟩
   ·cases h
  |none=>
   rw[hl]at h;simp only at h;clear hl
   cases k with
   |nil=>exact qp6 ok hid (by rfl) h|cons i k'=>
    obtain⟨kd,p,it⟩:=i;obtain⟨hi,hk'⟩:=zdv hk;clear hk
    cases it with
    |code c=>exact zvk ok hid ih hi hk' h|inBlock id=>exact(ih true k' s r hk' h).one fun a w b cs=>stepR_inBlock
    |inScope id=>exact(ih true k' s r hk' h).one fun a w b cs=>zwi
    |inLoop x=>
     have hsub:sub body p = .loop x:=zqs hi;exact(ih true _ s r (ll (rr 0 hsub rfl) (ll (zcy hsub) hk')) h).one fun a w b cs=>stepR_inLoop
    |beginRound=>exact zvj ih hk' h|_=>cases h
end
def St.reCell(s:St)(b off:Nat):St:=
 match ae s.hp b with
 |some (.cells cs T)=>match cs[off]? with
  |some (.own k)=>match ae s.hp k with|some (.row τ l E)=>bif a7 s.nx s.hp then{ s with hp:=(b,.cells (cs.set off (.own s.nx)) T)::(s.nx,.row τ l E)::(k,.dead)::s.hp,nx:=s.nx+32 } else s|_=>s
  |_=>s
 |_=>s
def qq2:Pt->Bool|.own _=>true|_=>false
def reB1(b:Nat):List Pt->Nat->St->St|[],_,s=>s|p::ps,off,s=>reB1 b ps (off+1) (bif qq2 p then s.reCell b off else s)
def reB:List (Nat×bc)->St->St
 |[],s=>s|(n,p)::r,s=>match p with|.cells ps _=>reB r (reB1 n ps 0 s)|_=>reB r s
def St.reSlot(s:St)(i:Nat):St:=
 match ae s.fr i with
 |some (.own k)=>match ae s.hp k with|some (.row τ l E)=>bif a7 s.nx s.hp&&Nat.blt i s.n then{ s with fr:=(i,.own s.nx)::s.fr,hp:=(s.nx,.row τ l E)::(k,.dead)::s.hp,nx:=s.nx+32 } else s|_=>s
 |_=>s
def reA:List Pt->Nat->St->St|[],_,s=>s|p::ps,i,s=>reA ps (i+1) (bif qq2 p then s.reSlot i else s)
section
variable{vk8:World}{vk3:Gh}{vk5:List (Nat×ai)}{G:Gh}{s:St}{a:Act}{w:World}
def Fin.rename{hp:List (Nat×ai)}(hf:Fin vk8 vk3 vk5 G hp w){k k':Nat}{τ:Ty}{l:List τ.den}{E:TypeId}{v:Option Addr×Nat×Nat}(hk:ae hp k=some (.row τ l E))(hk':ae hp k'=none)(hfr:G.own k'=none)(ho:G.own k=some v) :
  Fin vk8 vk3 vk5 (G.addOwn k' v) ((k',.row τ l E)::(k,.dead)::hp) w:=by
 have hle:G.le (G.addOwn k' v):=Gh.addOwn_le hfr;have hlk:∀m b,ae ((k',ai.row τ l E)::(k,.dead)::hp) m=some b->(m=k'/\b = .row τ l E)\/b = .dead\/(m≠k/\ae hp m=some b):=fun m b h=>by
  simp only[ae]at h;cases hb:Nat.beq k' m
  ·rw[hb]at h;cases hb2:Nat.beq k m
   ·rw[hb2]at h;exact .inr (.inr ⟨fun e=>by subst e;simp at hb2,h⟩)
   ·rw[hb2]at h;simp only[qT,qF,qI]at h;exact .inr (.inl h.symm)
  ·rw[hb]at h;simp only[qT,qI]at h;exact .inl ⟨(qN hb).symm,h.symm⟩
 have hat:(G.addOwn k' v).at k' (.row τ l E)=G.at k (.row τ l E):=by simp only[Gh.at,Gh.addOwn_self,ho]
 refine⟨⟨hf.mem.agree,hf.mem.one,?_,?_,hf.mem.tab⟩,hf.bel,hf.imm_le,hf.imm_new,?_,fun n bx B h1 h2=>hle.box _ _ (hf.keep n bx B h1 h2),fun n bx B h1 h2=>hle.own _ _ (hf.keepOwn n bx B h1 h2)⟩
 ·intro m b h;rcases hlk m b h with⟨rfl,rfl⟩|rfl|⟨_,h⟩
  ·obtain⟨ad,c,i1,i2⟩:=hf.mem.holds k _ hk;rw[ho]at i1;injection i1 with i1;subst i1
   exact⟨ad,c,Gh.addOwn_self,i2⟩
  ·trivial
  ·exact(hf.mem.holds m b h).mono hle (fun _ _=>rfl) (fun _ _ _ h => .inl h)
 ·intro m m' b b' c h1 h2 h3 h4;rcases hlk m b h1 with⟨rfl,rfl⟩|rfl|⟨n1,g1⟩<;>rcases hlk m' b' h2 with⟨e2,rfl⟩|rfl|⟨n2,g2⟩
  ·exact e2.symm
  ·cases h4
  ·rw[hat]at h3;rw[(hf.mem.holds m' b' g2).at_le hle]at h4;exact absurd (hf.mem.apart m' k b' _ c g2 hk h4 h3) n2
  ·cases h3
  ·cases h3
  ·cases h3
  ·subst e2;rw[hat]at h4;rw[(hf.mem.holds m b g1).at_le hle]at h3;exact absurd (hf.mem.apart m k b _ c g1 hk h3 h4) n1
  ·cases h4
  ·rw[(hf.mem.holds m b g1).at_le hle]at h3;rw[(hf.mem.holds m' b' g2).at_le hle]at h4;exact hf.mem.apart m m' b b' c g1 g2 h3 h4
 ·intro m b c h1 h2;rcases hlk m b h1 with⟨rfl,rfl⟩|rfl|⟨n1,h1⟩
  ·rw[hat]at h2;exact hf.base k _ c hk h2
  ·cases h2
  ·rw[(hf.mem.holds m b h1).at_le hle]at h2;exact hf.base m b c h1 h2
def aj.reCell(hr:aj vk8 vk3 vk5 G s a w)(b off:Nat):∃G',aj vk8 vk3 vk5 G' (s.reCell b off) a w:=by
 unfold St.reCell;split
 ·rename_i cs T hb0;split
  ·rename_i k hx0;split
   ·rename_i τ l E hk0;cases hn:a7 s.nx s.hp
    ·exact⟨G,hr⟩
    ·simp only[qT];have hk:=ly hn s.nx (wF _) (by omega)
     obtain⟨ad,c,i1,_⟩:=hr.fin.mem.holds k _ hk0;have hfresh:=hr.fresh s.nx (wF _) hk;have hle:G.le (G.addOwn s.nx (ad,l.length,c)):=Gh.addOwn_le hfresh.2;have hf:=hr.fin.rename hk0 hk hfresh.2 i1;have hne:s.nx≠b:=fun e=>by rw[e,hb0]at hk;cases hk
     have hne2:k≠b:=fun e=>by rw[e,hb0]at hk0;cases hk0
     have hb1:ae ((s.nx,ai.row τ l E)::(k,.dead)::s.hp) b=some (.cells cs T):=by
      simp only[ae];cases hq:Nat.beq s.nx b
      ·cases hq2:Nat.beq k b
       ·exact hb0
       ·exact absurd (qN hq2) hne2
      ·exact absurd (qN hq) hne
     obtain⟨B,vs,k1,k2,k3,k4,k5⟩:=hf.mem.holds _ _ hb1;have hv:vs.toList[off]? = some (.slice ad l.length c):=by
      obtain⟨v,h1,h2⟩:=kj k3 hx0;obtain⟨a',n',c',q1,q2⟩:=h2;rw[hle.own _ _ i1]at q1;simp only[qI,qP]at q1;obtain⟨rfl,rfl,rfl⟩:=q1;subst q2;exact h1
     have hset:vs.toList.set off (.slice ad l.length c)=vs.toList:=by
      obtain⟨hlt,he⟩:=List.getElem?_eq_some_iff.1 hv;rw[← he,List.set_getElem_self]
     refine⟨G.addOwn s.nx (ad,l.length,c),⟨by obtain⟨bs,q1,q2⟩:=hr.defers;exact⟨bs,q1,ry hle.box q2⟩,hr.size,fun j x hx=>by obtain⟨v,h1,h2⟩:=hr.frame j x hx;exact⟨v,h1,h2.le hle⟩,fun m hm hl => ?_,?_⟩⟩
     ·simp only at hm;have hmn:s.nx≠m:=by omega
      simp only[ae]at hl;cases hq:Nat.beq b m<;>rw[hq]at hl<;>simp only[qT,qF,reduceCtorEq]at hl
      cases hq1:Nat.beq s.nx m<;>rw[hq1]at hl<;>simp only[qT,qF,reduceCtorEq]at hl
      cases hq2:Nat.beq k m<;>rw[hq2]at hl<;>simp only[qT,qF,reduceCtorEq]at hl
      obtain⟨h1,h2⟩:=hr.fresh m (by omega) hl
      refine⟨h1,?_⟩;show(bif Nat.beq m s.nx then some _ else G.own m)=none
      cases hbm:Nat.beq m s.nx
      ·exact h2
      ·exact absurd (qN hbm).symm hmn
     ·refine hf.update (bx := .cells cs T) (bx' := .cells (cs.set off (.own s.nx)) T) hb1 (B:=B) k1 k1 ⟨rfl,rfl,rfl,wF _,fun _ _ _=>rfl⟩ ⟨B,vs,k1,k2,?_,k4,k5⟩ k5
      have:=qkt off k3 (x := .own s.nx) (v := .slice ad l.length c) ⟨ad,l.length,c,Gh.addOwn_self,rfl⟩
      rwa [hset]at this
   ·exact⟨G,hr⟩
  ·exact⟨G,hr⟩
 ·exact⟨G,hr⟩
def aj.reSlot(hr:aj vk8 vk3 vk5 G s a w)(i:Nat):∃G',aj vk8 vk3 vk5 G' (s.reSlot i) a w:=by
 unfold St.reSlot;split
 ·rename_i k hx0;split
  ·rename_i τ l E hk0;cases hn:a7 s.nx s.hp&&Nat.blt i s.n
   ·exact⟨G,hr⟩
   ·simp only[qT];simp only[qA]at hn;have hk:=ly hn.1 s.nx (wF _) (by omega)
    obtain⟨ad,c,i1,_⟩:=hr.fin.mem.holds k _ hk0;have hfresh:=hr.fresh s.nx (wF _) hk;have hle:G.le (G.addOwn s.nx (ad,l.length,c)):=Gh.addOwn_le hfresh.2;refine⟨G.addOwn s.nx (ad,l.length,c),⟨by obtain⟨bs,q1,q2⟩:=hr.defers;exact⟨bs,q1,ry hle.box q2⟩,hr.size,fun j x hx => ?_,fun m hm hl => ?_,hr.fin.rename hk0 hk hfresh.2 i1⟩⟩
    ·simp only[ae]at hx;cases hq:Nat.beq i j
     ·rw[hq]at hx;obtain⟨v,h1,h2⟩:=hr.frame j x hx;exact⟨v,h1,h2.le hle⟩
     ·rw[hq]at hx;simp only[qT,qI]at hx;subst hx;have:=qN hq;subst this;obtain⟨v,h1,a',n',c',q1,q2⟩:=hr.frame i _ hx0;rw[i1]at q1;simp only[qI,qP]at q1;obtain⟨rfl,rfl,rfl⟩:=q1;exact⟨v,h1,ad,l.length,c,Gh.addOwn_self,q2⟩
    ·simp only at hm;have hmn:s.nx≠m:=by omega
     simp only[ae]at hl;cases hq1:Nat.beq s.nx m<;>rw[hq1]at hl<;>simp only[qT,qF,reduceCtorEq]at hl
     cases hq2:Nat.beq k m<;>rw[hq2]at hl<;>simp only[qT,qF,reduceCtorEq]at hl
     obtain⟨h1,h2⟩:=hr.fresh m (by omega) hl
     refine⟨h1,?_⟩;show(bif Nat.beq m s.nx then some _ else G.own m)=none
     cases hbm:Nat.beq m s.nx
     ·exact h2
     ·exact absurd (qN hbm).symm hmn
  ·exact⟨G,hr⟩
 ·exact⟨G,hr⟩
def aj.reA:∀{ps:List Pt}{i:Nat}{s:St}{G:Gh},aj vk8 vk3 vk5 G s a w->∃G',aj vk8 vk3 vk5 G' (reA ps i s) a w
 |[],_,s,G,hr=>⟨G,hr⟩|p::ps,i,s,G,hr=>by
  unfold Sym.reA;cases qq2 p
  ·exact aj.reA hr
  ·obtain⟨G',hr'⟩:=hr.reSlot i;exact aj.reA hr'
def aj.reB1{b:Nat}:∀{ps:List Pt}{off:Nat}{s:St}{G:Gh},aj vk8 vk3 vk5 G s a w->∃G',aj vk8 vk3 vk5 G' (reB1 b ps off s) a w
 |[],_,s,G,hr=>⟨G,hr⟩|p::ps,off,s,G,hr=>by
  unfold Sym.reB1;cases qq2 p
  ·exact aj.reB1 hr
  ·obtain⟨G',hr'⟩:=hr.reCell b off;exact aj.reB1 hr'
def aj.reB:∀{l:List (Nat×bc)}{s:St}{G:Gh},aj vk8 vk3 vk5 G s a w->∃G',aj vk8 vk3 vk5 G' (reB l s) a w
 |[],s,G,hr=>⟨G,hr⟩|(n,p)::r,s,G,hr=>by
  unfold Sym.reB;split
  ·obtain⟨G',hr'⟩:=hr.reB1;exact aj.reB hr'
  ·exact aj.reB hr
end
def eq:List (Nat×bc)->NM|[]=>[]|(n,_)::r=>(n,n)::eq r
def ju(N:NM)(n:Nat):Bool:=match az N n with|some m=>Nat.beq m n|none=>false
def ww{N:NM}{n:Nat}(h:ju N n=true):az N n=some n:=by
 unfold ju at h;split at h
 ·rename_i m hm;have:=qN h;subst this;exact hm
 ·cases h
mutual
def q2z(N:NM):Pt->Bool|.agg ps=>ss N ps|.tup ps=>ss N ps|.ptr b _=>ju N b|.own k=>ju N k|.el k _=>ju N k|.iel _ k _=>ju N k|.yld k=>ju N k|.pn k=>ju N k|.fn _ ps=>ss N ps|_=>true
def ss(N:NM):List Pt->Bool|[]=>true|p::ps=>q2z N p&&ss N ps
end
def zmx{ρ:Nat->Option Nat}:∀{τ:Ty}{d:τ.den},(τ.av d).ren ρ=τ.av d|.int _,_=>rfl|.byte,_=>rfl|.bool,_=>rfl|.str,_=>rfl|.unit,_=>rfl|.list _,_=>rfl|.prod a b,d=>by show AV.agg (AV.rens ρ ((Ty.prod a b).enc d))=_;rw[Ty.enc_ren];rfl|.tree a,d=>by show AV.agg (AV.rens ρ ((Ty.tree a).enc d))=_;rw[Ty.enc_ren];rfl
mutual
def zeh{N:NM}:∀{p:Pt}{d:p.den},q2z N p=true->(p.put d).ren (az N)=p.put d|.h τ,d,_=>zmx|.c _,_,_=>rfl|.agg ps,d,h=>congrArg AV.agg (qa3 (ps:=ps) (d:=d) h)|.tup ps,d,h=>congrArg AV.tup (qa3 (ps:=ps) (d:=d) h)|.ptr b off,_,h=>by show AV.ren (az N) (.ptr b off)=_;simp only[AV.ren,ww (show ju N b=true from h)];rfl|.own k,_,h=>by show AV.ren (az N) (.own k)=_;simp only[AV.ren,ww (show ju N k=true from h)];rfl|.arr _,_,_=>rfl|.el k sz,_,h=>by show AV.ren (az N) (.oel k sz 0 0)=_;simp only[AV.ren,ww (show ju N k=true from h)];rfl|.iel t k sz,_,h=>by show AV.ren (az N) (.iface t (.oel k sz 0 0))=_;simp only[AV.ren,ww (show ju N k=true from h)];rfl|.yld k,_,h=>by show AV.ren (az N) (.yld k)=_;simp only[AV.ren,ww (show ju N k=true from h)];rfl|.pn k,_,h=>by show AV.ren (az N) (.pn k)=_;simp only[AV.ren,ww (show ju N k=true from h)];rfl|.fn f ps,d,h=>congrArg (AV.fn (.func f) []) (qa3 (ps:=ps) (d:=d) h)|.u,_,_=>rfl
def qa3{N:NM}:∀{ps:List Pt}{d:Pts.den ps},ss N ps=true->AV.rens (az N) (Pts.put ps d)=Pts.put ps d
 |[],_,_=>rfl|p::ps,d,h=>by
  simp only[ss,qA]at h;have h1:=zeh (p:=p) (d:=d.1) h.1;have h2:=qa3 (ps:=ps) (d:=d.2) h.2;show AV.ren (az N) (p.put d.1)::AV.rens (az N) (Pts.put ps d.2)=p.put d.1::Pts.put ps d.2;rw[h1,h2]
end
def fIn(N:NM):List (Nat×Pt)->Bool|[]=>true|(_,p)::r=>q2z N p&&fIn N r
def zb6{N:NM}:∀{l:List (Nat×Pt)}{d:pu l},fIn N l=true->oq (az N) (ke l d)=ke l d
 |[],_,_=>rfl|(i,p)::r,d,h=>by
  simp only[fIn,qA]at h;have h1:=zeh (p:=p) (d:=d.1) h.1;have h2:=zb6 (l:=r) (d:=d.2) h.2;show(i,AV.ren (az N) (p.put d.1))::oq (az N) (ke r d.2)=(i,p.put d.1)::ke r d.2;rw[h1,h2]
def qz4(N:NM):bc->Bool|.cells ps _=>ss N ps|.loop _ _ _ _ fr _ _ D=>ju N D&&fIn N fr|_=>true
def bIn(N:NM):List (Nat×bc)->Bool|[]=>true|(n,p)::r=>ju N n&&qz4 N p&&bIn N r
def zne{N:NM}:∀{p:bc}{d:p.den},qz4 N p=true->dr (az N) (p.put d)=p.put d
 |.cells ps T,d,h=>congrArg (fun l=>ai.cells l T) (qa3 (ps:=ps) (d:=d) h)
 |.row _ _,_,_=>rfl|.loop st pe f n fr ps tag D,d,h=>by
  simp only[qz4,qA]at h;have h2:=zb6 (l:=fr) (d:=d) h.2;have h3:dr (az N) (.loop st pe f n (ke fr d) ps tag D) = .loop st pe f n (oq (az N) (ke fr d)) ps tag D:=by simp only[dr,ww h.1]
  exact h3.trans (congrArg (fun l=>ai.loop st pe f n l ps tag D) h2)
 |.dfr,_,_=>rfl|.it,_,_=>rfl|.dead,_,_=>rfl|.dat τ T,d,_=>congrArg (fun l=>ai.cells l T) (Ty.enc_ren (az N) τ d)
def qzv{N:NM}:∀{l:List (Nat×bc)}{d:fw l},bIn N l=true->∀n b,ae (ch l d) n=some b->az N n=some n/\dr (az N) b=b
 |[],_,_,_,_,h=>by cases h
 |(m,p)::r,d,h,n,b,hl=>by
  simp only[bIn,qA]at h;have hl:(bif Nat.beq m n then some (p.put d.1) else ae (ch r d.2) n)=some b:=hl
  cases hb:Nat.beq m n
  ·rw[hb]at hl;exact qzv (d:=d.2) h.2 n b hl
  ·rw[hb]at hl;have:=qN hb;subst this;simp only[qT,qI]at hl;subst hl;exact⟨ww h.1.1,zne h.1.2⟩
def ci.only{G:Gh}{hp:List (Nat×ai)}{w:World}{N:NM}(hm:ci G hp w)(h:∀n b,ae hp n=some b->az N n=some n/\dr (az N) b=b):ci (G.view N) hp w:=by
 have hb:∀n b,ae hp n=some b->(G.view N).box n=G.box n/\(G.view N).own n=G.own n:=fun n b hl=>by
  have:=sv (h n b hl).1;exact⟨by simp[Gh.view,this],by simp[Gh.view,this]⟩
 have hat:∀n b c,ae hp n=some b->(G.view N).at n b=some c->G.at n b=some c:=fun n b c hl hc=>by
  have:=(h n b hl).2;exact rm (G:=G) (G':=G.view N) (ρ:=az N) (hb n b hl).1 (hb n b hl).2 (by rw[this];exact hc)
 refine⟨hm.agree,hm.one,fun n b hl => ?_,fun n m b b' c h1 h2 h3 h4=>hm.apart n m b b' c h1 h2 (hat _ _ _ h1 h3) (hat _ _ _ h2 h4),hm.tab⟩
 have:=de.ren (G:=G) (G':=G.view N) (ρ:=az N) (n:=n) (m:=n) (fun _ _ _ h=>h) (fun _ _ _ h=>h) (td N) (uz N) (fun B hB=>by rw[(hb n b hl).1];exact hB) (fun B hB=>by rw[(hb n b hl).2];exact hB) (hm.holds n b hl)
 rw[(h n b hl).2]at this;exact this
def Fin.only{G G':Gh}{hp hp':List (Nat×ai)}{w w':World}{N:NM}(h:∀n b,ae hp n=some b->az N n=some n/\dr (az N) b=b)(hf:Fin w (G.view N) hp G' hp' w'):Fin w G hp G' hp' w':=by
 have hb:∀n b,ae hp n=some b->(G.view N).box n=G.box n/\(G.view N).own n=G.own n:=fun n b hl=>by
  have:=sv (h n b hl).1;exact⟨by simp[Gh.view,this],by simp[Gh.view,this]⟩
 have hblk:∀c,pi (G.view N) hp c->pi G hp c:=fun c⟨n,b,h1,h2⟩=>⟨n,b,h1,rm (G:=G) (G':=G.view N) (ρ:=az N) (hb n b h1).1 (hb n b h1).2 (by rw[(h n b h1).2];exact h2)⟩
 refine⟨hf.mem,⟨hf.bel.os,hf.bel.tape,hf.bel.output,hf.bel.size,fun k hk hS=>hf.bel.block k hk fun hx=>hS (hblk k hx)⟩,hf.imm_le,fun b o v hv => ?_,fun n b c h1 h2 => ?_,fun n b B h1 h2=>hf.keep n b B h1 (by rw[(hb n b h1).1];exact h2),fun n b B h1 h2=>hf.keepOwn n b B h1 (by rw[(hb n b h1).2];exact h2)⟩
 ·rcases hf.imm_new b o v hv with h|h|h
  ·exact .inl h
  ·exact .inr (.inl h)
  ·exact .inr (.inr (hblk _ h))
 ·rcases hf.base n b c h1 h2 with h|h
  ·exact .inl h
  ·exact .inr (hblk _ h)
def qkc:List AV->Nat->List (Nat×AV)|[],_=>[]|x::xs,i=>(i,x)::qkc xs (i+1)
def zck:∀{xs:List AV}{G:Gh}{vs:List Value}(i:Nat),al xs G vs->∀j x,ae (qkc xs i) j=some x->i<=j/\∃v,vs[j-i]? = some v/\ak x G v
 |[],_,[],_,_,j,x,h=>by cases h
 |x::xs,G,v::vs,i,hr,j,y,h=>by
  simp only[qkc,ae]at h;cases hb:Nat.beq i j
  ·rw[hb]at h;obtain⟨h1,u,h2,h3⟩:=zck (i+1) hr.2 j y h;refine⟨by omega,u,?_,h3⟩
   rw[show j-i=(j-(i+1))+1 by omega];simpa using h2
  ·rw[hb]at h;have:=qN hb;subst this;simp only[qT,qI]at h;subst h;exact⟨wF _,v,by simp,hr.1⟩
 |[],_,_::_,_,h,_,_,_=>h.elim|_::_,_,[],_,h,_,_,_=>h.elim
def qdh{G:Gh}{w:World}{hp:List (Nat×ai)}(hm:ci G hp w):Fin w G hp G hp w:=
 ⟨hm,⟨rfl,rfl,rfl,wF _,fun _ _ _=>rfl⟩,fun _ _ _ h=>h,fun _ _ _ h => .inl h,fun n bx _b h1 h2 => .inr ⟨n,bx,h1,h2⟩,fun _ _ _ _ h=>h,fun _ _ _ _ h=>h⟩
def NX:Nat:=64
def q3h(cx:Cx)(body:Code){R:Type}(enc:RS R)(labs:List (fb R))(asn:List Pt)(pts:List (Nat×bc))(xs:List AV)(hp:List (Nat×ai)):Option R:=
 run cx enc labs 1000000 true [⟨0,[],.code body⟩] (reB pts (reA (bif cx.tb.sub then asn else[]) 0 { n:=cx.fn.ntmps,fr:=qkc xs 0,hp:=hp,nx:=NX,df:=[] }))
def qqm(cx:Cx)(args:List Pt)(hp:List (Nat×bc)):Bool:=ss (eq hp) args&&bIn (eq hp) hp&&Nat.ble args.length cx.fn.ntmps
def qqy:∀{l:List (Nat×bc)}{d:fw l}{n:Nat}{b:ai},ae (ch l d) n=some b->a6 (eq l) n=some n
 |[],_,_,_,h=>by cases h
 |(m,p)::r,d,n,b,h=>by
  have h:(bif Nat.beq m n then some (p.put d.1) else ae (ch r d.2) n)=some b:=h
  simp only[eq,a6];cases hb:Nat.beq m n
  ·rw[hb]at h;exact qqy (d:=d.2) h
  ·have:=qN hb;subst this;rfl
def q19{m:Nat}:∀{l:List (Nat×bc)}{d:fw l},ae (ch l d) m=none->a6 (eq l) m=none
 |[],_,_=>rfl|(n,p)::r,d,h=>by
  have h:(bif Nat.beq n m then some (p.put d.1) else ae (ch r d.2) m)=none:=h
  simp only[eq,a6];cases hb:Nat.beq n m
  ·rw[hb]at h;exact q19 (d:=d.2) h
  ·rw[hb]at h;cases h
def zei:∀{ps:List Pt}{d:Pts.den ps},(Pts.put ps d).length=ps.length|[],_=>rfl|p::ps,d=>by show(p.put d.1::Pts.put ps d.2).length=_;simp[zei]
def dv.sound_fn{e:dv}{cx:Cx}{body:Code}{labs:List (fb e.R)}(ok:cx.Ok body)(hkey:e.key = .fn cx.f)(hbody:cx.fn.body=some body)(hrd:cx.rd=none)(hids:cx.ids=eq e.hp)(hpl:tz cx.P cx.f)
  (hfine:qqm cx e.args e.hp=true) (hlab:∀d',∀l∈labs,qy cx (ch e.hp d') e.out body l) (hF:∀d d',q3h cx body e.out labs e.args e.hp (Pts.put e.args d) (ch e.hp d')=e.F d d'):e.Sound cx.P:=by
 intro d d' r hr;rw[hkey];refine⟨hpl,fun w G vs hm hreps => ?_⟩
 simp only[qqm,qA]at hfine;obtain⟨⟨f1,f2⟩,f3⟩:=hfine;have f3:=Nat.le_of_ble_eq_true f3;have hin:=qzv (d:=d') f2;have hm':=hm.only hin;have hreps':al (Pts.put e.args d) (G.view (eq e.hp)) vs:=by
  have:=al.ren (ρ:=az (eq e.hp)) (G:=G) (G':=G.view (eq e.hp)) (fun _ _ _ h=>h) (td _) (uz _) hreps
  rwa [qa3 f1]at this
 have hlv:=hreps.length;rw[zei]at hlv;have hrun:=hF d d';rw[hr]at hrun;have hg:=q3j (enc:=e.out) ok (vk5:=ch e.hp d') (fun n bx h=>by rw[hids];exact qqy h) (hlab d') _ _ _ _ _ (fun i hi=>by
  rcases List.mem_cons.1 hi with rfl|hi
  ·rfl
  ·cases hi) hrun
 have hr0:aj w (G.view (eq e.hp)) (ch e.hp d') (G.view (eq e.hp)) { n:=cx.fn.ntmps,fr:=qkc (Pts.put e.args d) 0,hp:=ch e.hp d',nx:=NX,df:=[] } { tmps:=vs.toArray++Array.replicate (cx.fn.ntmps-vs.toArray.size) undef,defers:=[] } w:=by
  refine⟨⟨[],rfl,rfl⟩,by simp;omega,fun i x hx => ?_,fun m _ hl => ?_,qdh hm'⟩
  ·obtain⟨_,v,h2,h3⟩:=zck 0 hreps' i x hx;refine⟨v,?_,h3⟩;have hlt:i<vs.length:=by have:=(List.getElem?_eq_some_iff.1 h2).1;simpa using this
   rw[Array.getElem?_append_left (by simpa using hlt)]
   simpa using h2
  ·have:a6 (eq e.hp) m=none:=q19 hl;simp[Gh.view,this]
 obtain⟨G0,hr0'⟩:=hr0.reA (ps:=bif cx.tb.sub then e.args else[]) (i:=0)
 obtain⟨G1,hr1⟩:=hr0'.reB (l:=e.hp);intro cs
 let b:Frame:={ (default:Frame) with fn:=cx.f,kind := .normal }
 have henter:Frame.enter cx.P cx.f vs.toArray .normal=b.atR { tmps:=vs.toArray++Array.replicate (cx.fn.ntmps-vs.toArray.size) undef,defers:=[] } [.code body]:=by
  simp[Frame.enter,Frame.atR,ok.func,hbody,b];rfl
 have:=hg w _ _ _ w hr1 b cs rfl rfl (by unfold qz;rw[hrd];rfl)
 obtain⟨v,w',fr,⟨G',h1,h2⟩,h3,h4,h5⟩:=this;exact⟨.returned v,w',fr,⟨v,G',rfl,h1.only hin,h2⟩,by rw[henter];exact h3,h4,h5⟩
def qkr:List Tmp->List AV->List (Nat×AV)->List (Nat×AV)|p::ps,x::xs,fr=>qkr ps xs ((p,x)::fr)|_,_,fr=>fr
def qji(n:Nat):List Nat->Bool|[]=>true|p::ps=>Nat.blt p n&&qji n ps
def zep{G:Gh}{n:Nat}:∀{ps:List Tmp}{xs:List AV}{vs:List Value}{fr:List (Nat×AV)}{tmps:Array Value},qji n ps=true->tmps.size=n->ps.length=xs.length->al xs G vs->(∀i x,ae fr i=some x->∃v,tmps[i]? = some v/\ak x G v) ->
  ((ps.zip vs).foldl (fun(tmps:Array Value)(q:Tmp×Value)=>tmps.setIfInBounds q.1 q.2) tmps).size=n/\∀i x,ae (qkr ps xs fr) i=some x->∃v,((ps.zip vs).foldl (fun(tmps:Array Value)(q:Tmp×Value)=>tmps.setIfInBounds q.1 q.2) tmps)[i]? = some v/\ak x G v
 |[],[],[],fr,tmps,_,hn,_,_,hfr=>⟨hn,hfr⟩|p::ps,x::xs,v::vs,fr,tmps,hlt,hn,hl,hr,hfr=>by
  simp only[qji,qA]at hlt;have hp:p<n:=by have:=hlt.1;simpa using this
  simp only[List.zip_cons_cons,List.foldl_cons,qkr];refine zep hlt.2 (by simp[hn]) (by simpa using hl) hr.2 (fun i y hy => ?_)
  simp only[ae]at hy;cases he:Nat.beq p i
  ·rw[he]at hy;simp only[qF]at hy;have hne:p≠i:=fun e=>by subst e;simp at he
   obtain⟨u,h1,h2⟩:=hfr i y hy;exact⟨u,by simp[hne,h1],h2⟩
  ·rw[he]at hy;simp only[qT,qI]at hy;subst hy;have:=qN he;subst this;exact⟨v,by simp[hn,hp],hr.1⟩
 |[],_::_,_,_,_,_,_,h,_,_=>by simp at h|_::_,[],_,_,_,_,_,h,_,_=>by simp at h|[],[],_::_,_,_,_,_,_,h,_=>h.elim|_::_,_::_,[],_,_,_,_,_,h,_=>h.elim
def qa5(cx:Cx)(body:Code)(p:List Nat)(m:Nat){R:Type}(enc:RS R)(labs:List (fb R))(pts:List (Nat×bc))(xs:List AV)(hp:List (Nat×ai)):Option R:=
 match ae hp m with
 |some (.loop .ready none f n fr ps tag _)=>bif Nat.beq f cx.f&&qji n ps&&eqLen ps xs&&tagIs tag p cx.tags then
   run cx enc labs 1000000 true (ng body [(0,0::p),(4,[]),(0,1::p)]) (reB pts { n:=n,fr:=qkr ps xs fr,hp:=hp,nx:=NX,df:=[] })
  else none
 |_=>none
where
 eqLen:List Tmp->List AV->Bool
  |[],[]=>true|_::ps,_::xs=>eqLen ps xs|_,_=>false
 tagIs (tag:Nat) (p:List Nat) (tags:List (List Nat×Nat)):Bool:=match sj p tags with|some t=>Nat.beq t tag|none=>false
def zbh:∀{ps:List Tmp}{xs:List AV},qa5.eqLen ps xs=true->ps.length=xs.length
 |[],[],_=>rfl|_::ps,_::xs,h=>by simp[zbh (ps:=ps) (xs:=xs) h]|[],_::_,h=>by cases h
 |_::_,[],h=>by cases h
def zcm:Code->Bool|.rangeFunc _ _ _ _=>true|_=>false
def dv.sound_yld{e:dv}{cx:Cx}{body:Code}{p:List Nat}{m:Nat}{labs:List (fb e.R)}(ok:cx.Ok body)(hkey:e.key = .yld m)(hrd:cx.rd=some m)(hids:cx.ids=eq e.hp)(hrf:zcm (sub body p)=true)
  (hfine:(ss (eq e.hp) e.args&&bIn (eq e.hp) e.hp)=true) (hlab:∀d',∀l∈labs,qy cx (ch e.hp d') e.out body l) (hF:∀d d',qa5 cx body p m e.out labs e.hp (Pts.put e.args d) (ch e.hp d')=e.F d d'):e.Sound cx.P:=by
 intro d d' r hr;rw[hkey];intro w G vs B hm hreps hB;simp only[qA]at hfine;obtain⟨f1,f2⟩:=hfine;have hin:=qzv (d:=d') f2;have hm':=hm.only hin;have hreps':al (Pts.put e.args d) (G.view (eq e.hp)) vs:=by
  have:=al.ren (ρ:=az (eq e.hp)) (G:=G) (G':=G.view (eq e.hp)) (fun _ _ _ h=>h) (td _) (uz _) hreps
  rwa [qa3 f1]at this
 have hrun:=hF d d';rw[hr]at hrun;unfold qa5 at hrun;split at hrun
 ·rename_i f n fr ps tag D hl;cases hb:Nat.beq f cx.f&&qji n ps&&qa5.eqLen ps (Pts.put e.args d)&&qa5.tagIs tag p cx.tags<;>rw[hb]at hrun<;>simp only[qT,qF,reduceCtorEq]at hrun
  simp only[qA]at hb;obtain⟨⟨⟨b1,b2⟩,b3⟩,b4⟩:=hb;have b1:=qN b1;subst b1;have b3:=zbh b3;unfold qa5.tagIs at b4;split at b4
  rotate_left
  ·cases b4
  rename_i t ht;have b4:=qN b4;subst b4;obtain⟨B',tmps,DB,i1,i2,⟨asn,bo,i3,i4⟩,i5,i6,i7⟩:=hm'.holds m _ hl;have hBv:(G.view (eq e.hp)).box m=some B:=by
   have:=sv (hin m _ hl).1;simp[Gh.view,this,hB]
  rw[hBv]at i1;injection i1 with i1;subst i1
  obtain⟨g,ps0,x,y,hs⟩:∃g ps x y,sub body p = .rangeFunc g ps x y:=by
   cases hc:sub body p<;>rw[hc]at hrf<;>first|exact⟨_,_,_,_,rfl⟩|cases hrf
  have hcode:=ok.tags p t ht g ps0 x y hs;rw[i3]at hcode;simp only[qI,qP]at hcode;obtain⟨rfl,rfl⟩:=hcode;have hg:=q3j (enc:=e.out) ok (vk5:=ch e.hp d') (fun n bx h=>by rw[hids];exact qqy h) (hlab d') _ _ _ _ _ q1h hrun
  have hlv:=hreps.length;obtain⟨j1,j2⟩:=zep (n:=n) b2 i5 b3 hreps' i6;have hr0:aj w (G.view (eq e.hp)) (ch e.hp d') (G.view (eq e.hp)) { n:=n,fr:=qkr ps (Pts.put e.args d) fr,hp:=ch e.hp d',nx:=NX,df:=[] } { tmps:=(ps.zip vs).foldl (fun(tmps:Array Value)(q:Tmp×Value)=>tmps.setIfInBounds q.1 q.2) tmps,defers:=[] } w:=
   ⟨⟨[],rfl,rfl⟩,j1,j2,fun k _ hk=>by simp[Gh.view,q19 hk],qdh hm'⟩
  obtain⟨G1,hr1⟩:=hr0.reB (l:=e.hp);refine⟨_,i4,fun c cs=>⟨by simp;omega,?_⟩⟩
  let b:Frame:={ (default:Frame) with fn:=cx.f,kind := .normal,roundOf:=some B }
  have:=hg w _ _ _ w hr1 b (c::cs) rfl rfl (by unfold qz;rw[hrd];exact⟨B,_,hBv,hl,rfl⟩)
  obtain⟨v,w',⟨G',h1,h2⟩,h3⟩:=this c cs rfl;refine⟨v,w',⟨v,G',rfl,h1.only hin,h2⟩,?_⟩;have e1:Frame.round B cx.f ((ps.toArray.zip vs.toArray).foldl (fun tmps(t,a)=>tmps.setIfInBounds t a) tmps) asn bo .normal=b.atR { tmps:=(ps.zip vs).foldl (fun(tmps:Array Value)(q:Tmp×Value)=>tmps.setIfInBounds q.1 q.2) tmps,defers:=[] } (d8 (ng body [(0,0::p),(4,[]),(0,1::p)])):=by
   simp[Frame.round,Frame.atR,b,d8,ng,wz,sub,hs,lj,List.zip_toArray]
  simp only at e1 ⊢;rw[e1];exact h3
 ·cases hrun
def qy.of_run{cx:Cx}{body:Code}{vk5:List (Nat×ai)}{R:Type}{enc:RS R}{labs:List (fb R)}(ok:cx.Ok body)(hid:∀n bx,ae vk5 n=some bx->a6 cx.ids n=some n)(hlab:∀l∈labs,qy cx vk5 enc body l){l:fb R}
  (h:∀d,run cx enc labs 1000000 false (ng body l.key) (l.ls.st d)=l.F d):qy cx vk5 enc body l:=fun d r hr=>by
 have:=h d;rw[hr]at this;exact q3j ok hid hlab _ _ _ _ _ q1h this
end Go.Sym
namespace Go.Sym
open Go.RowKit
def rq(f:Func):Code:=match f.body with|some c=>c|none => .skip
def af(n:Int):Int:=IntKind.i64.wrap n
section
variable[LC]{cx:Cx}{vk5:List (Nat×ai)}{R:Type}{enc:RS R}{body:Code}{P:Program}
def ao:∀p t,sj p []=some t->∀g ps x y,sub body p = .rangeFunc g ps x y->LC.lc t=some (x,y):=fun _ _ h=>by cases h
def xn{p:List Nat}{t:Nat}{tags:List (List Nat×Nat)}(h:LC.lc t=some (lj 0 (sub body p),lj 1 (sub body p)))(k:∀p t,sj p tags=some t->∀g ps x y,sub body p = .rangeFunc g ps x y->LC.lc t=some (x,y)) :
  ∀q u,sj q ((p,t)::tags)=some u->∀g ps x y,sub body q = .rangeFunc g ps x y->LC.lc u=some (x,y):=fun q u hq g ps x y hs=>by
 simp only[sj]at hq;cases hb:pp p q
 ·rw[hb]at hq;exact k q u hq g ps x y hs
 ·rw[hb]at hq;simp only[qT,qI]at hq;subst hq;have:=qp9 hb;subst this;rw[h,hs];rfl
end
abbrev Bs:Type:=List UInt8
def zd9:Nat->Nat->List Nat|0,_=>[]|f+1,n=>bif Nat.ble n 1 then[] else Nat.mod n 2::zd9 f (Nat.div n 2)
def ah:List (Nat×Nat)->zy|[]=>[]|(k,n)::r=>(k,zd9 200 n)::ah r
mutual
def Pt.ts:Pt->List Type->List Type|.h τ,a=>τ.den::a|.agg ps,a=>Pts.ts ps a|.tup ps,a=>Pts.ts ps a|.fn _ ps,a=>Pts.ts ps a|.arr τ,a=>List τ.den::a|_,a=>a
def Pts.ts:List Pt->List Type->List Type|[],a=>a|p::ps,a=>p.ts (Pts.ts ps a)
end
def HL:List Type->Type|[]=>Unit|t::l=>t×HL l
abbrev py:HL []:=()
mutual
def Pt.pk:(p:Pt)->{a:List Type}->p.den->HL a->HL (p.ts a)|.h _,_,d,x=>(d,x)|.agg ps,_,d,x=>Pts.pk ps d x|.tup ps,_,d,x=>Pts.pk ps d x|.fn _ ps,_,d,x=>Pts.pk ps d x|.arr _,_,d,x=>(d,x)|.c _,_,_,x=>x|.ptr _ _,_,_,x=>x|.own _,_,_,x=>x|.el _ _,_,_,x=>x|.iel _ _ _,_,_,x=>x|.yld _,_,_,x=>x|.pn _,_,_,x=>x|.u,_,_,x=>x
def Pts.pk:(ps:List Pt)->{a:List Type}->Pts.den ps->HL a->HL (Pts.ts ps a)|[],_,_,x=>x|p::ps,_,d,x=>p.pk d.1 (Pts.pk ps d.2 x)
end
mutual
def Pt.un:(p:Pt)->{a:List Type}->HL (p.ts a)->p.den×HL a|.h _,_,x=>x|.agg ps,_,x=>Pts.un ps x|.tup ps,_,x=>Pts.un ps x|.fn _ ps,_,x=>Pts.un ps x|.arr _,_,x=>x|.c _,_,x=>((),x)|.ptr _ _,_,x=>((),x)|.own _,_,x=>((),x)|.el _ _,_,x=>((),x)|.iel _ _ _,_,x=>((),x)|.yld _,_,x=>((),x)|.pn _,_,x=>((),x)|.u,_,x=>((),x)
def Pts.un:(ps:List Pt)->{a:List Type}->HL (Pts.ts ps a)->Pts.den ps×HL a|[],_,x=>((),x)|p::ps,_,x=>(((p.un x).1,(Pts.un ps (p.un x).2).1),(Pts.un ps (p.un x).2).2)
end
mutual
def Pt.un_pk:∀(p:Pt){a:List Type}(d:p.den)(x:HL a),p.un (p.pk d x)=(d,x)|.h _,_,_,_=>rfl|.agg ps,_,d,x=>Pts.un_pk ps d x|.tup ps,_,d,x=>Pts.un_pk ps d x|.fn _ ps,_,d,x=>Pts.un_pk ps d x|.arr _,_,_,_=>rfl|.c _,_,_,_=>rfl|.ptr _ _,_,_,_=>rfl|.own _,_,_,_=>rfl|.el _ _,_,_,_=>rfl|.iel _ _ _,_,_,_=>rfl|.yld _,_,_,_=>rfl|.pn _,_,_,_=>rfl|.u,_,_,_=>rfl
def Pts.un_pk:∀(ps:List Pt){a:List Type}(d:Pts.den ps)(x:HL a),Pts.un ps (Pts.pk ps d x)=(d,x)
 |[],_,_,_=>rfl|p::ps,_,d,x=>by
  show(((p.un (p.pk d.1 (Pts.pk ps d.2 x))).1,(Pts.un ps (p.un (p.pk d.1 (Pts.pk ps d.2 x))).2).1),(Pts.un ps (p.un (p.pk d.1 (Pts.pk ps d.2 x))).2).2)=(d,x);rw[Pt.un_pk p,Pts.un_pk ps];rfl
end
def fts:List (Nat×Pt)->List Type->List Type|[],a=>a|(_,p)::r,a=>p.ts (fts r a)
def nf:(l:List (Nat×Pt))->{a:List Type}->pu l->HL a->HL (fts l a)|[],_,_,x=>x|(_,p)::r,_,d,x=>p.pk d.1 (nf r d.2 x)
def qd6:(l:List (Nat×Pt))->{a:List Type}->HL (fts l a)->pu l×HL a|[],_,x=>((),x)|(_,p)::r,_,x=>(((p.un x).1,(qd6 r (p.un x).2).1),(qd6 r (p.un x).2).2)
def zb8:∀(l:List (Nat×Pt)){a:List Type}(d:pu l)(x:HL a),qd6 l (nf l d x)=(d,x)
 |[],_,_,_=>rfl|(_,p)::r,_,d,x=>by
  show(((p.un (p.pk d.1 (nf r d.2 x))).1,(qd6 r (p.un (p.pk d.1 (nf r d.2 x))).2).1),(qd6 r (p.un (p.pk d.1 (nf r d.2 x))).2).2)=(d,x);rw[Pt.un_pk p,zb8 r];rfl
def bc.ts:bc->List Type->List Type|.cells ps _,a=>Pts.ts ps a|.row τ _,a=>List τ.den::a|.loop _ _ _ _ fr _ _ _,a=>fts fr a|.dfr,a=>a|.it,a=>List UInt8::Nat::a|.dead,a=>a|.dat τ _,a=>τ.den::a
def bc.pk:(p:bc)->{a:List Type}->p.den->HL a->HL (p.ts a)|.cells ps _,_,d,x=>Pts.pk ps d x|.row _ _,_,d,x=>(d,x)|.loop _ _ _ _ fr _ _ _,_,d,x=>nf fr d x|.dfr,_,_,x=>x|.it,_,d,x=>(d.1,(d.2,x))|.dead,_,_,x=>x|.dat _ _,_,d,x=>(d,x)
def bc.un:(p:bc)->{a:List Type}->HL (p.ts a)->p.den×HL a|.cells ps _,_,x=>Pts.un ps x|.row _ _,_,x=>x|.loop _ _ _ _ fr _ _ _,_,x=>qd6 fr x|.dfr,_,x=>((),x)|.it,_,x=>((x.1,x.2.1),x.2.2)|.dead,_,x=>((),x)|.dat _ _,_,x=>x
def bc.un_pk:∀(p:bc){a:List Type}(d:p.den)(x:HL a),p.un (p.pk d x)=(d,x)|.cells ps _,_,d,x=>Pts.un_pk ps d x|.row _ _,_,_,_=>rfl|.loop _ _ _ _ fr _ _ _,_,d,x=>zb8 fr d x|.dfr,_,_,_=>rfl|.it,_,_,_=>rfl|.dead,_,_,_=>rfl|.dat _ _,_,_,_=>rfl
def bts:List (Nat×bc)->List Type->List Type|[],a=>a|(_,p)::r,a=>p.ts (bts r a)
def gw:(l:List (Nat×bc))->{a:List Type}->fw l->HL a->HL (bts l a)|[],_,_,x=>x|(_,p)::r,_,d,x=>p.pk d.1 (gw r d.2 x)
def bun:(l:List (Nat×bc))->{a:List Type}->HL (bts l a)->fw l×HL a|[],_,x=>((),x)|(_,p)::r,_,x=>(((p.un x).1,(bun r (p.un x).2).1),(bun r (p.un x).2).2)
def zag:∀(l:List (Nat×bc)){a:List Type}(d:fw l)(x:HL a),bun l (gw l d x)=(d,x)
 |[],_,_,_=>rfl|(_,p)::r,_,d,x=>by
  show(((p.un (p.pk d.1 (gw r d.2 x))).1,(bun r (p.un (p.pk d.1 (gw r d.2 x))).2).1),(bun r (p.un (p.pk d.1 (gw r d.2 x))).2).2)=(d,x);rw[bc.un_pk p,zag r];rfl
abbrev Cur:List Type->Type->Type|[],R=>R|t::l,R=>t->Cur l R
def app{R:Type}:{l:List Type}->Cur l R->HL l->R|[],f,_=>f|_::_,f,x=>app (f x.1) x.2
abbrev Nc:List Type->Type|[]=>Unit|[t]=>t|t::u::l=>t×Nc (u::l)
def Nc.fro:(l:List Type)->HL l->Nc l|[],_=>()|[_],x=>x.1|_::u::l,x=>(x.1,Nc.fro (u::l) x.2)
def Nc.to:(l:List Type)->Nc l->HL l|[],_=>()|[_],x=>(x,())|_::u::l,x=>(x.1,Nc.to (u::l) x.2)
def Nc.to_fro:∀(l:List Type)(x:HL l),Nc.to l (Nc.fro l x)=x
 |[],_=>rfl|[_],_=>rfl|_::u::l,x=>by
  show(x.1,Nc.to (u::l) (Nc.fro (u::l) x.2))=x;rw[Nc.to_fro];rfl
def RS.mk(p:Pt)(hp:List (Nat×bc)):RS (Nc (p.ts (bts hp []))):=
 .one p hp (fun x=>((p.un (Nc.to _ x)).1,(bun hp (p.un (Nc.to _ x)).2).1)) (fun y=>Nc.fro _ (p.pk y.1 (gw hp y.2 py))) fun y=>by
  obtain⟨d,d'⟩:=y;show((p.un (Nc.to _ (Nc.fro _ (p.pk d (gw hp d' py))))).1,(bun hp (p.un (Nc.to _ (Nc.fro _ (p.pk d (gw hp d' py))))).2).1)=(d,d');rw[Nc.to_fro,Pt.un_pk,zag]
structure IF:Type 1 where
 key:zx
 args:List Pt
 hp:List (Nat×bc)
 R:Type
 out:RS R
abbrev IF.T(i:IF):Type:=Cur (Pts.ts i.args (bts i.hp [])) (Option i.R)
def IF.e(i:IF)(r:i.T):dv:=⟨i.key,i.args,i.hp,i.R,fun d d'=>app r (Pts.pk i.args d (gw i.hp d' py)),i.out⟩
abbrev KL:Type:=zy×LS
abbrev KL.T(l:KL)(R:Type):Type:=Cur (fts l.2.fr (bts l.2.hp [])) (Option R)
def KL.lab{R:Type}(l:KL)(r:l.T R):fb R:=⟨l.1,l.2,fun d=>app r (nf l.2.fr d.1 (gw l.2.hp d.2 py))⟩
def kl:Nat->List KL->KL|_,[]=>([],⟨0,[],[],0,[]⟩)|0,l::_=>l|n+1,_::r=>kl n r
def q23:zx->Option Nat|.yld m=>some m|_=>none
section
variable[LC]{P:Program}{i:IF}
structure EP(P:Program):Type 1 where
 e:dv
 h:e.Sound P
structure EI(P:Program)(i:IF) where
 f:i.T
 h:(i.e f).Sound P
def EI.p(s:EI P i):EP P:=⟨i.e s.f,s.h⟩
def EP.es{P:Program}:List (EP P)->List dv|[]=>[]|x::l=>x.e::EP.es l
def EP.es_ok{P:Program}:∀{l:List (EP P)},∀e∈EP.es l,e.Sound P
 |[],_,h=>by cases h
 |x::_,e,h=>by
  rcases List.mem_cons.1 h with rfl|h
  ·exact x.h
  ·exact EP.es_ok e h
structure Fx(P:Program)(i:IF):Type 1 where
 etys:List (Nat×Ty)
 hm:P.follows .mixedOrders=true
 fn:Func
 f:FuncId
 hf:P.funcs[f]? = some fn
 calls:List (EP P)
 sub:Bool
 tags:List (List Nat×Nat)
 ht:∀p t,sj p tags=some t->∀g ps x y,Sym.sub (rq fn) p = .rangeFunc g ps x y->LC.lc t=some (x,y)
 ls:List KL
def Fx.body(x:Fx P i):Code:=rq x.fn
def Fx.cx(x:Fx P i):Cx:={ P,tb:=⟨EP.es x.calls,x.etys,x.sub⟩,fn:=x.fn,f:=x.f,ids:=eq i.hp,rd:=q23 i.key,tags:=x.tags }
def Fx.ok(x:Fx P i):x.cx.Ok x.body:=⟨EP.es_ok,x.hm,x.hf,x.ht⟩
structure PL(x:Fx P i)(k:Nat) where
 f:(kl k x.ls).T i.R
 h:∀d',qy x.cx (ch i.hp d') i.out x.body ((kl k x.ls).lab f)
abbrev Fx.L(x:Fx P i)(k:Nat):=PL x k
structure SL(x:Fx P i) where
 q:fb i.R
 h:∀d',qy x.cx (ch i.hp d') i.out x.body q
def PL.s{x:Fx P i}{k:Nat}(p:PL x k):SL x:=⟨(kl k x.ls).lab p.f,p.h⟩
def SL.qs{x:Fx P i}:List (SL x)->List (fb i.R)|[]=>[]|s::l=>s.q::SL.qs l
def SL.qs_ok{x:Fx P i}{d':fw i.hp}:∀{l:List (SL x)},∀q∈SL.qs l,qy x.cx (ch i.hp d') i.out x.body q
 |[],_,h=>by cases h
 |s::_,q,h=>by
  rcases List.mem_cons.1 h with rfl|h
  ·exact s.h d'
  ·exact SL.qs_ok q h
def Fx.jn{x:Fx P i}{k:Nat}(f:(kl k x.ls).T i.R)(l:List (SL x))
  (h:∀d,run x.cx i.out (SL.qs l) 1000000 false (ng x.body (kl k x.ls).1) ((kl k x.ls).2.st d)=app f (nf (kl k x.ls).2.fr d.1 (gw (kl k x.ls).2.hp d.2 ()))):PL x k:=
 ⟨f,fun _=>qy.of_run x.ok (fun _ _ h=>qqy h) (SL.qs_ok) h⟩
def Fx.lp{x:Fx P i}{k:Nat}(g:Nat->(kl k x.ls).T i.R)(b:(kl k x.ls).T i.R->(kl k x.ls).T i.R)(h0:∀d:(kl k x.ls).2.den,app (g 0) (nf (kl k x.ls).2.fr d.1 (gw (kl k x.ls).2.hp d.2 ()))=none)(hg:∀n,g (n+1)=b (g n))(l:PL x k->List (SL x))
  (h:∀r d,run x.cx i.out (SL.qs (l r)) 1000000 false (ng x.body (kl k x.ls).1) ((kl k x.ls).2.st d)=app (b r.f) (nf (kl k x.ls).2.fr d.1 (gw (kl k x.ls).2.hp d.2 ()))) (n:Nat):PL x k:=
 ⟨g n,by
  induction n with
  |zero=>intro d' d r hr;have:=h0 d;rw[show((kl k x.ls).lab (g 0)).F d=none from this]at hr;cases hr
  | succ n ih=>rw[hg];exact(Fx.jn (b (g n)) (l ⟨g n,ih⟩) (h ⟨g n,ih⟩)).h⟩
def Fx.fin(x:Fx P i)(f:i.T)(l:List (SL x))(hp:tz P x.f)(hk:i.key = .fn x.f)(hb:x.fn.body=some x.body)(hfine:qqm x.cx i.args i.hp=true)
  (h:∀d d',q3h x.cx x.body i.out (SL.qs l) i.args i.hp (Pts.put i.args d) (ch i.hp d')=app f (Pts.pk i.args d (gw i.hp d' py))):EI P i:=
 ⟨f,dv.sound_fn (e:=i.e f) (cx:=x.cx) (labs:=SL.qs l) x.ok hk hb (show q23 i.key=none by rw[hk];rfl) rfl hp hfine (fun _=>SL.qs_ok) h⟩
def Fx.fiy(x:Fx P i)(f:i.T)(l:List (SL x))(m:Nat)(hk:i.key = .yld m)(p:List Nat)(hb:zcm (Sym.sub x.body p)=true)(hfine:(ss (eq i.hp) i.args&&bIn (eq i.hp) i.hp)=true)
  (h:∀d d',qa5 x.cx x.body p m i.out (SL.qs l) i.hp (Pts.put i.args d) (ch i.hp d')=app f (Pts.pk i.args d (gw i.hp d' py))):EI P i:=
 ⟨f,dv.sound_yld (e:=i.e f) (cx:=x.cx) (labs:=SL.qs l) (p:=p) (m:=m) x.ok hk (show q23 i.key=some m by rw[hk];rfl) rfl hb hfine (fun _=>SL.qs_ok) h⟩
def EI.rc(g:Nat->i.T)(b:i.T->i.T)(h0:∀d d',app (g 0) (Pts.pk i.args d (gw i.hp d' py))=none)(hg:∀n,g (n+1)=b (g n))(s:EI P i->EI P i)(hs:∀r,(s r).f=b r.f)(n:Nat):EI P i:=
 ⟨g n,by
  induction n with
  |zero=>intro d d' r hr;have:=h0 d d';rw[show(i.e (g 0)).F d d'=none from this]at hr;cases hr
  | succ n ih=>rw[hg,← hs ⟨g n,ih⟩];exact(s ⟨g n,ih⟩).h⟩
end
end Go.Sym
namespace Go.Sym
def tw(n:Int):Option Bs:=bif decide (-9223372036854775808<=n/\n<=9223372036854775807) then some (Lib.itoa n) else none
def tr(s sep:Bs):Option Int:=bif decide (2<=List.length sep/\List.length s<4294967281/\List.length sep<=maxLen) then some (Lib.index s sep) else none
def cz{α:Type}(l:List α):Option (List α):=bif decide (List.length l<=a8) then some l else none
def g8(s:Bs)(most:Int):Int×Bool:=match Lib.atoiAll s with|.ok v=>if Lib.itoa v=s/\0<=v/\v<=most then(v,true) else(0,false)|_=>(0,false)
def za(s:Bs)(most:Int):Option (Int×Bool):=bif decide (List.length s<=281474976710656) then some (g8 s most) else none
abbrev Pc:Type:=Bs×Int×Bool×Bs
abbrev Pq:Type:={ x:Pc // -1125899906842624<=x.2.1/\x.2.1<=1125899906842624 }
instance:Inhabited Pq:=⟨⟨([],0,false,[]),by decide⟩⟩
def jf(x y:Pq):Int:=af (x.1.2.1-y.1.2.1)
def il(l:List Pq):List Pq:=(Go.Sort.pdq (Go.Proofs.ltOf jf) l.toArray 0 l.length (Lib.bitLen l.length) true true).toList
def qn:List Pc->Option (List Pq)|[]=>some []|x::l=>if h : -1125899906842624<=x.2.1/\x.2.1<=1125899906842624 then(match qn l with|some r=>some (⟨x,h⟩::r)|none=>none) else none
def zq(l:List Pc):Option (List Pc):=bif decide (List.length l<=a8) then(match qn l with|some q=>some ((il q).map (·.1))|none=>none) else none

def vu(rep:Bs):Nat->Bool->Bs->Bs
 |0,_,_=>[]|_+1,_,[]=>[]|n+1,inv,c::l=>if(Lib.decodeL (c::l)).1=65533/\(Lib.decodeL (c::l)).2=1 then(if inv then[] else rep)++vu rep n true l
  else(c::l).take (Lib.decodeL (c::l)).2++vu rep n false ((c::l).drop (Lib.decodeL (c::l)).2)
def zt(s rep:Bs):Option Bs:=bif decide (List.length s<=1000000/\List.length rep<=1000) then some (vu rep s.length false s) else none
def zu(s:Bs):Option Bool:=bif decide (List.length s<=9223372036854775807) then some (Lib.validD s) else none
def pq(a b:UInt8)(na nb:Bs)(c:UInt8):Bs:=if c=a then na else if c=b then nb else[c]
def eh(a b:UInt8)(na nb:Bs)(s:Bs):Bs:=s.flatMap (pq a b na nb)
def jg(a b:UInt8)(l:Bs):Nat:=l.count a+l.count b
def qqa(a b:UInt8)(na nb s t:Bs):eh a b na nb (s++t)=eh a b na nb s++eh a b na nb t:=List.flatMap_append
def q0b(a b:UInt8)(s t:Bs):jg a b (s++t)=jg a b s+jg a b t:=by unfold jg;rw[List.count_append,List.count_append];omega
def q0c{a b:UInt8}(hab:a≠b)(c:UInt8):jg a b [c]=if c=a then 1 else if c=b then 1 else 0:=by
 unfold jg;simp only[List.count_cons,List.count_nil,beq_iff_eq];by_cases h:c=a
 ·subst h;simp[hab]
 ·by_cases h2:c=b
  ·subst h2;simp[h]
  ·simp[h,h2]
def qqb{a b:UInt8}(hab:a≠b)(a1 a2 b1 b2:UInt8):∀l:Bs,(eh a b [a1,a2] [b1,b2] l).length=l.length+jg a b l
 |[]=>rfl|c::l=>by
  have h:=qqb hab a1 a2 b1 b2 l;rw[show c::l=[c]++l from rfl,qqa,qM,qM,q0b,h,q0c hab]
  have:(eh a b [a1,a2] [b1,b2] [c]).length=1+(if c=a then 1 else if c=b then 1 else 0):=by
   show(pq a b [a1,a2] [b1,b2] c++[]).length=_;unfold pq;split
   ·rfl
   ·split<;>rfl
  rw[this];simp only[qL,qZ];omega
def zbi{a b:UInt8}(hab:a≠b)(na nb:Bs):∀l:Bs,jg a b l=0->eh a b na nb l=l
 |[],_=>rfl|c::l,h=>by
  rw[show c::l=[c]++l from rfl,q0b,q0c hab]at h
  rw[show c::l=[c]++l from rfl,qqa,zbi hab na nb l (by omega)]
  congr 1;show pq a b na nb c++[]=[c];unfold pq;by_cases h1:c=a
  ·rw[qX h1]at h;omega
  ·by_cases h2:c=b
   ·rw[qW h1,qX h2]at h;omega
   ·rw[qW h1,qW h2];rfl
def zgq{α:Type}(l:List α)(i:Nat)(h:i<l.length):l.take (i+1)=l.take i++[l[i]]:=by
 rw[List.take_add_one,List.getElem?_eq_getElem h];rfl
def vz(s:Bs)(p0 p1 _p2:Int)(on:List Bs):Option Bs:=
 match on with|[[a],[a1,a2],[b],[b1,b2]]=>bif decide (p0=0/\p1=0/\a≠b/\List.length s<=1000000) then some (eh a b [a1,a2] [b1,b2] s) else none|_=>none
def zul{s r:Bs}{p0 p1 p2:Int}{on:List Bs}(h:vz s p0 p1 p2 on=some r) :
  ∃a a1 a2 b b1 b2,on=[[a],[a1,a2],[b],[b1,b2]]/\p0=0/\p1=0/\a≠b/\List.length s<=1000000/\r=eh a b [a1,a2] [b1,b2] s:=by
 unfold vz at h;split at h
 ·rename_i a a1 a2 b b1 b2;cases hd:decide (p0=0/\p1=0/\a≠b/\List.length s<=1000000)<;>rw[hd]at h<;>simp only[qT,qF,reduceCtorEq]at h
  obtain⟨h1,h2,h3,h4⟩:=of_decide_eq_true hd;exact⟨a,a1,a2,b,b1,b2,rfl,h1,h2,h3,h4,(qJ h).symm⟩
 ·cases h
open Go.RowKit
variable[LC]
def vn(b:List UInt8)(c:UInt8):Option Int:=some (Lib.indexByte b c)
def qv0(f:FuncId)(r:List UInt8->UInt8->Option Int):dv:={ key := .ext f,args:=[.h (.list .byte),.h .byte],hp:=[],R:=Int,F:=fun d _=>r d.1 d.2.1,out := .one (α:=Int) (.h (.int .i64)) [] (fun r=>(r,())) (fun y=>y.1) (fun _=>rfl) }
def qvz(f:FuncId)(r:List UInt8->UInt8->Option Int):dv:={ key := .ext f,args:=[.h .str,.h .byte],hp:=[],R:=Int,F:=fun d _=>r d.1 d.2.1,out := .one (α:=Int) (.h (.int .i64)) [] (fun r=>(r,())) (fun y=>y.1) (fun _=>rfl) }
def zak(c:UInt8):((c.toNat:Int)).toNat.toUInt8=c:=by simp
def zqf {P : Program} {f : FuncId} {fn : Func} (hf : P.funcs[f]? = some fn) (hname : (fn.name == "runtime.NumGoroutine") = false) (hb : fn.body.isNone = true) (hn : Extern.findNext fn = none) (he : Extern.find fn = some Extern.BytealgIndexByte.indexByte) (b : List UInt8) (c : UInt8) :
  ql6 P f [.str b,.byte c] (.int .i64 (Lib.indexByte b c)):=fun w G vs _ hr=>by
 match vs,hr with
 |[v1,v2],⟨h1,h2,_⟩=>
  have h1:v1 = .string ⟨b.toArray⟩:=h1;have h2:v2 = .int .u8 c.toNat:=h2;subst h1 h2;refine⟨.int .i64 (Lib.indexByte b c),?_,rfl⟩;rw[run_callFunc_extern hf hname hb hn he,show([Value.string ⟨b.toArray⟩,.int .u8 c.toNat]:List Value).toArray=#[.string ⟨b.toArray⟩,.int .u8 c.toNat] from rfl,Lib.run_indexByteString,zak]
  rfl
def zqg {P : Program} {f : FuncId} {fn : Func} (hf : P.funcs[f]? = some fn) (hname : (fn.name == "runtime.NumGoroutine") = false) (hb : fn.body.isNone = true) (hn : Extern.findNext fn = none) (he : Extern.find fn = some Extern.BytealgIndexByte.indexByte) (b : List UInt8) (c : UInt8) :
  ql6 P f [.sl .byte b,.byte c] (.int .i64 (Lib.indexByte b c)):=fun w G vs hm hr=>by
 match vs,hr with
 |[v1,v2],⟨h1,h2,_⟩=>
  have h2:v2 = .int .u8 c.toNat:=h2;subst h2;obtain⟨a,cp,rfl,hc,hl⟩:jd 1 (Ty.byte.At G.imm) b v1:=h1;refine⟨.int .i64 (Lib.indexByte b c),?_,rfl⟩;rw[run_callFunc_extern hf hname hb hn he];have key:∀k:Int,(Extern.BytealgIndexByte.indexByte #[.slice a b.length cp,.int .u8 c.toNat]).run P w = .ok (.int .i64 k) w->((Extern.BytealgIndexByte.indexByte ([Value.slice a b.length cp,.int .u8 c.toNat]:List Value).toArray).run P w).andThen (fun v w'=>Result.ok (Next.value v) w') = .ok (.value (.int .i64 k)) w:=by
   intro k hk;have e:([Value.slice a b.length cp,.int .u8 c.toNat]:List Value).toArray=#[.slice a b.length cp,.int .u8 c.toNat]:=rfl;rw[e,hk];rfl
  refine key _ ?_;have bb:Lib.bytesOf (b.map fun x=>(x.toNat:Int))=b:=by
   unfold Lib.bytesOf;rw[List.map_map];have:((fun n:Int=>UInt8.ofNat n.toNat) ∘ fun x:UInt8=>(x.toNat:Int))=id:=by funext x;simp
   rw[this,List.map_id]
  rcases hl with rfl|⟨g,o,rfl,hcells⟩
  ·have hs:=Lib.run_indexByteString (P:=P) .empty (c.toNat:Int) w
   cases a with|none=>exact hs|some ad=>exact hs
  ·have:=Lib.run_indexByteSlice (P:=P) (w:=w) g o b.length cp (b.map fun x=>(x.toNat:Int)) (by simp) (fun i hi=>by
    have hk:G.imm g (o+i*1)=some (.int .u8 b[i].toNat):=hcells i _ (List.getElem?_eq_getElem hi);have:=hm.agree _ _ _ hk;rw[Nat.mul_one]at this;rw[this];simp[List.getD_eq_getElem?_getD,hi]) (c.toNat:Int)
   rw[bb,zak]at this;exact this
def zks {P : Program} {f : FuncId} {fn : Func} (hf : P.funcs[f]? = some fn) (hname : (fn.name == "runtime.NumGoroutine") = false) (hb : fn.body.isNone = true) (hn : Extern.findNext fn = none) (he : Extern.find fn = some Extern.BytealgIndexByte.indexByte) :
  (qvz f vn).Sound P:=fun d d' r h=>by
 have h:some (Lib.indexByte (show List UInt8 from d.1) (show UInt8 from d.2.1))=some r:=h
 have h:=qJ h;subst h;exact zqf hf hname hb hn he _ _
def zku {P : Program} {f : FuncId} {fn : Func} (hf : P.funcs[f]? = some fn) (hname : (fn.name == "runtime.NumGoroutine") = false) (hb : fn.body.isNone = true) (hn : Extern.findNext fn = none) (he : Extern.find fn = some Extern.BytealgIndexByte.indexByte) :
  (qv0 f vn).Sound P:=fun d d' r h=>by
 have h:some (Lib.indexByte (show List UInt8 from d.1) (show UInt8 from d.2.1))=some r:=h
 have h:=qJ h;subst h;exact zqg hf hname hb hn he _ _
end Go.Sym
namespace Go.Sym
open Go.ChangeShapes Go.WideShapes Go.ChangeAt Go.RowKit
variable[LC]
def Gw(w:World):Gh:=⟨fun b o=>match w.cell? ⟨b,o,none⟩ with|some v=>if v.oneCell'=true then some v else none|none=>none,fun _=>none,fun _=>none⟩
def qyv{w:World}{b o:Nat}{v:Value}(h:w.cell? ⟨b,o,none⟩=some v)(h1:v.oneCell'=true):(Gw w).imm b o=some v:=by
 simp only[Gw];rw[h];simp[h1]
def zk2(w:World)(ht:LC.tab (Gw w).imm w):ci (Gw w) [] w:=by
 have key:∀b o v,(Gw w).imm b o=some v->w.cell? ⟨b,o,none⟩=some v/\v.oneCell'=true:=by
  intro b o v h;simp only[Gw]at h;split at h
  ·rename_i u hu;split at h
   ·rename_i h1;cases h;exact⟨hu,h1⟩
   ·cases h
  ·cases h
 exact⟨fun b o v h=>(key b o v h).1,fun b o v h=>(key b o v h).2,fun n bx h=>(by cases h),fun n m bx bx' b h=>(by cases h),ht⟩
inductive qy5{α:Type}(p:α->Prop):Tree α->Prop
 |mk (a:α) (l:List (Tree α)):p a->l.length<=maxLen->(∀x∈l,qy5 p x)->qy5 p (.node a l)
def Ty.bd:(τ:Ty)->τ.den->Prop|.int k,n=>(Lit.int k n).wf=true|.str,s=>List.length s<=maxLen|.prod a b,x=>a.bd x.1/\b.bd x.2|.list a,l=>List.length l<=maxLen/\∀x∈(show List a.den from l),a.bd x|.tree a,t=>qy5 a.bd t|_,_=>True
def qd5(P:Program)(rec:Ty->TypeId->Bool):Ty->List Field->Nat->Bool|τ,[f],o=>f.offset==o&&(P.cellsOf f.type==τ.sz&&rec τ f.type)|.prod a b,f::fs,o=>f.offset==o&&(P.cellsOf f.type==a.sz&&(rec a f.type&&qd5 P rec b fs (o+a.sz)))|_,_,_=>false
def qr5(P:Program)(t g:TypeId):Bool:=match P.underlying g with|some (.slice e)=>e==t|_=>false
def qba(P:Program)(rec:Ty->TypeId->Bool)(t:TypeId):Ty->List Field->Nat->Bool|τ,[f,g],o=>f.offset==o&&(P.cellsOf f.type==τ.sz&&(rec τ f.type&&(g.offset==o+τ.sz&&(P.cellsOf g.type==1&&qr5 P t g.type))))|.prod a b,f::fs,o=>f.offset==o&&(P.cellsOf f.type==a.sz&&(rec a f.type&&qba P rec t b fs (o+a.sz)))|_,_,_=>false
def di(P:Program):Nat->Ty->TypeId->Bool
 |0,_,_=>false|_+1,.int k,t=>match P.underlying t with|some (.int k')=>decide (k'=k)|_=>false
 |_+1,.byte,t=>match P.underlying t with|some (.int k')=>decide (k' = .u8)|_=>false
 |_+1,.bool,t=>match P.underlying t with|some .bool=>true|_=>false
 |_+1,.str,t=>match P.underlying t with|some .string=>true|_=>false
 |n+1,.list a,t=>match P.underlying t with|some (.slice e)=>P.cellsOf e==a.sz&&(decide (0<a.sz)&&di P n a e)|_=>false
 |n+1,.prod a b,t=>match P.underlying t with|some (.struct fs)=>P.cellsOf t==(Ty.prod a b).sz&&qd5 P (di P n) (.prod a b) fs.toList 0|_=>false
 |n+1,.tree a,t=>match P.underlying t with|some (.struct fs)=>P.cellsOf t==(Ty.tree a).sz&&qba P (di P n) t a fs.toList 0|_=>false
 |_+1,_,_=>false
def zg8{P:Program}{n:Nat}{k:IntKind}{t:TypeId}(h:di P (n+1) (.int k) t=true):P.underlying t=some (.int k):=by
 unfold di at h;split at h
 ·rename_i k' e;rw[e,of_decide_eq_true h]
 ·cases h
def zg7{P:Program}{n:Nat}{t:TypeId}(h:di P (n+1) .byte t=true):P.underlying t=some (.int .u8):=by
 unfold di at h;split at h
 ·rename_i k' e;rw[e,of_decide_eq_true h]
 ·cases h
def zg6{P:Program}{n:Nat}{t:TypeId}(h:di P (n+1) .bool t=true):P.underlying t=some .bool:=by
 unfold di at h;split at h
 ·rename_i e;exact e
 ·cases h
def zg9{P:Program}{n:Nat}{t:TypeId}(h:di P (n+1) .str t=true):P.underlying t=some .string:=by
 unfold di at h;split at h
 ·rename_i e;exact e
 ·cases h
def al.app{G:Gh}:∀{xs ys:List AV}{us vs:List Value},al xs G us->al ys G vs->al (xs++ys) G (us++vs)|[],_,[],_,_,h=>h|[],_,_::_,_,h,_=>by simp[al]at h|_::_,_,[],_,h,_=>by simp[al]at h|_::_,_,_::_,_,h,k=>⟨h.1,al.app h.2 k⟩
def qp5{G:Gh}:∀(τ:Ty)(x:τ.den)(cs:List Value),al (τ.enc x) G cs->∀v∈cs,v.oneCell'=true
 |.int k,n,[v],h,u,hu=>by
  rw[List.mem_singleton]at hu;subst hu;have h1:u = .int k n:=h.1;rw[h1];rfl
 |.byte,c,[v],h,u,hu=>by
  rw[List.mem_singleton]at hu;subst hu;have h1:u = .int .u8 (UInt8.toNat c):=h.1;rw[h1];rfl
 |.bool,c,[v],h,u,hu=>by
  rw[List.mem_singleton]at hu;subst hu;have h1:u = .bool c:=h.1;rw[h1];rfl
 |.str,s,[v],h,u,hu=>by
  rw[List.mem_singleton]at hu;subst hu;have h1:u = .string ⟨List.toArray s⟩:=h.1;rw[h1];rfl
 |.list a,l,[v],h,u,hu=>by
  rw[List.mem_singleton]at hu;subst hu;obtain⟨ad,c,rfl,_⟩:jd a.sz (a.At G.imm) l u:=h.1;rfl
 |.unit,_,[],_,u,hu=>by cases hu
 |.unit,_,_::_,h,_,_=>by simp[Ty.enc,al]at h|.prod a b,x,cs,h,u,hu=>by
  have key:∀(xs ys:List AV)(cs:List Value),al (xs++ys) G cs->∃us vs,cs=us++vs/\al xs G us/\al ys G vs:=by
   intro xs
   induction xs with
   |nil=>intro ys cs h;exact⟨[],cs,rfl,trivial,h⟩|cons x xs ih=>
    intro ys cs h
    cases cs with
    |nil=>simp[al]at h|cons c cs=>
     obtain⟨us,vs,e,h1,h2⟩:=ih ys cs h.2;exact⟨c::us,vs,by rw[e];rfl,⟨h.1,h1⟩,h2⟩
  obtain⟨us,vs,rfl,h1,h2⟩:=key _ _ _ h;rcases List.mem_append.1 hu with q|q
  ·exact qp5 a x.1 us h1 u q
  ·exact qp5 b x.2 vs h2 u q
 |.tree a,x,cs,h,u,hu=>by
  have key:∀(xs ys:List AV)(cs:List Value),al (xs++ys) G cs->∃us vs,cs=us++vs/\al xs G us/\al ys G vs:=by
   intro xs
   induction xs with
   |nil=>intro ys cs h;exact⟨[],cs,rfl,trivial,h⟩|cons x xs ih=>
    intro ys cs h
    cases cs with
    |nil=>simp[al]at h|cons c cs=>
     obtain⟨us,vs,e,h1,h2⟩:=ih ys cs h.2;exact⟨c::us,vs,by rw[e];rfl,⟨h.1,h1⟩,h2⟩
  obtain⟨us,vs,rfl,h1,h2⟩:=key _ _ _ h;rcases List.mem_append.1 hu with q|q
  ·exact qp5 a _ us h1 u q
  ·cases vs with
   |nil=>cases q
   |cons v vs=>
    cases vs with
    |cons v' vs=>simp[al]at h2|nil=>
     rw[List.mem_singleton]at q;subst q;obtain⟨ad,c,rfl,_⟩:jd (Ty.tree a).sz ((Ty.tree a).At G.imm) (Tree.kids x) u:=h2.1;rfl
 |.int _,_,[],h,_,_=>by simp[Ty.enc,al]at h|.int _,_,_::_::_,h,_,_=>by simp[Ty.enc,al]at h|.byte,_,[],h,_,_=>by simp[Ty.enc,al]at h|.byte,_,_::_::_,h,_,_=>by simp[Ty.enc,al]at h|.bool,_,[],h,_,_=>by simp[Ty.enc,al]at h|.bool,_,_::_::_,h,_,_=>by simp[Ty.enc,al]at h|.str,_,[],h,_,_=>by simp[Ty.enc,al]at h|.str,_,_::_::_,h,_,_=>by simp[Ty.enc,al]at h|.list _,_,[],h,_,_=>by simp[Ty.enc,al]at h|.list _,_,_::_::_,h,_,_=>by simp[Ty.enc,al]at h
def al.cells{w:World}{b:Nat}:∀(xs:List AV)(cs:List Value)(o:Nat),al xs (Gw w) cs->(∀v∈cs,v.oneCell'=true)->(∀(j:Nat)(v:Value),cs[j]? = some v->w.cell? ⟨b,o+j,none⟩=some v)->ce xs (Gw w) b o
 |[],[],_,_,_,_=>trivial|[],_::_,_,h,_,_=>by simp[al]at h|_::_,[],_,h,_,_=>by simp[al]at h|x::xs,c::cs,o,h,h1,h2=>by
  refine⟨⟨c,qyv (h2 0 c rfl) (h1 c qH),h.1⟩,al.cells xs cs (o+1) h.2 (fun v hv=>h1 v (qE _ hv)) (fun j v hj => ?_)⟩
  have:=h2 (j+1) v hj;rw[show o+1+j=o+(j+1) by omega];exact this
structure tj(H:Type) where
 b:DataW H->Nat
 ba:List (DataW H)->Nat
 str:∀s,b (.lit (.string s))=s.length+1
 lit:∀l,1<=b (.lit l)
 nilb:b .nil=1
 sl:∀e r,b (.slice e r)=ba e+ba r+1
 agg:∀l,b (.agg l)=ba l+1
 nil:ba []=0
 cons:∀d r,ba (d::r)=b d+ba r
def tj.app{H:Type}(B:tj H):∀(l r:List (DataW H)),B.ba (l++r)=B.ba l+B.ba r|[],r=>by rw[List.nil_append,B.nil,wO]|d::l,r=>by rw[wK,B.cons,B.cons,B.app l r,Nat.add_assoc]
mutual
def qev{α:Type}(f:α->Nat):Tree α->Nat|.node a l=>f a+qk6 f l+2
def qk6{α:Type}(f:α->Nat):List (Tree α)->Nat|[]=>0|t::l=>qev f t+qk6 f l
end
def zgz{α:Type}(f:α->Nat):∀l:List (Tree α),qk6 f l=(l.map (qev f)).sum|[]=>by simp[qk6]|t::l=>by rw[qk6,zgz f l,List.map_cons,List.sum_cons]
def zgy{α:Type}(f:α->Nat)(a:α)(l:List (Tree α)):qev f (.node a l)=f a+(l.map (qev f)).sum+2:=by
 rw[← zgz];simp only[qev]
def Ty.bk:(τ:Ty)->τ.den->Nat|.str,s=>List.length s+1|.prod a b,x=>a.bk x.1+b.bk x.2|.list a,l=>((show List a.den from l).map a.bk).sum+1|.unit,_=>0|.tree a,t=>qev a.bk t|_,_=>1
section
variable{H:Type}{enc:TypeId×Value->H}{P:Program}{w:World}{base:Nat}{spare:Nat->Bool}{held:Bool}
def zb0(B:tj H)(n m:Nat)(cs:List Value)
  (ih:∀(τ:Ty)(t:TypeId)(cs:List Value)(y:DataW H×List MemPlace),di P n τ t=true->DataW.trod enc P w base spare held m t cs=some y->∃x:τ.den,τ.bd x/\al (τ.enc x) (Gw w) cs/\τ.bk x<=B.b y.1) :
  ∀(fs:List Field)(τ:Ty)(o:Nat)(xs:List (DataW H×List MemPlace)),qd5 P (di P n) τ fs o=true->xs.length=fs.length->(∀(i:Nat)(f:Field),fs[i]? = some f->DataW.trod enc P w base spare held m f.type ((cs.drop f.offset).take (P.cellsOf f.type))=xs[i]?) ->
   ∃x:τ.den,τ.bd x/\al (τ.enc x) (Gw w) ((cs.drop o).take τ.sz)/\τ.bk x<=B.ba (xs.map (·.1))
 |[],τ,o,xs,h,_,_=>by cases τ<;>simp[qd5]at h
 |[f],τ,o,xs,h,hl,hf=>by
  have h':(f.offset==o&&(P.cellsOf f.type==τ.sz&&di P n τ f.type))=true:=by cases τ<;>exact h
  simp only[qA,beq_iff_eq]at h'
  match xs,hl with
  |[y],_=>
   have hy:DataW.trod enc P w base spare held m f.type ((cs.drop f.offset).take (P.cellsOf f.type))=some y:=hf 0 f rfl;rw[h'.1,h'.2.1]at hy;obtain⟨x,x1,x2,x3⟩:=ih τ f.type _ y h'.2.2 hy;exact⟨x,x1,x2,by simp only[List.map_cons,List.map_nil,B.cons,B.nil];omega⟩
 |f::g::fs,τ,o,xs,h,hl,hf=>by
  cases τ with
  |prod a b=>
   have h':(f.offset==o&&(P.cellsOf f.type==a.sz&&(di P n a f.type&&qd5 P (di P n) b (g::fs) (o+a.sz))))=true:=h;simp only[qA,beq_iff_eq]at h'
   match xs,hl with
   |y::ys,hl=>
    have hy:DataW.trod enc P w base spare held m f.type ((cs.drop f.offset).take (P.cellsOf f.type))=some y:=hf 0 f rfl;rw[h'.1,h'.2.1]at hy;obtain⟨x1,b1,r1,k1⟩:=ih a f.type _ y h'.2.2.1 hy;obtain⟨x2,b2,r2,k2⟩:=zb0 B n m cs ih (g::fs) b (o+a.sz) ys h'.2.2.2 (by simpa using hl) (fun i f' hf'=>hf (i+1) f' hf')
    refine⟨(x1,x2),⟨b1,b2⟩,?_,?_⟩
    ·show al (a.enc x1++b.enc x2) (Gw w) ((cs.drop o).take (a.sz+b.sz));rw[List.take_add,List.drop_drop];exact al.app r1 r2
    ·show a.bk x1+b.bk x2<=_;rw[List.map_cons,B.cons];omega
  |_=>simp[qd5]at h
def zg2(B:tj H)(n m:Nat)(cs:List Value){vk4:Ty}(t:TypeId)
  (ih:∀(τ:Ty)(t:TypeId)(cs:List Value)(y:DataW H×List MemPlace),di P n τ t=true->DataW.trod enc P w base spare held m t cs=some y->∃x:τ.den,τ.bd x/\al (τ.enc x) (Gw w) cs/\τ.bk x<=B.b y.1)
  (ihk:∀(g:TypeId)(cs:List Value)(y:DataW H×List MemPlace),qr5 P t g=true->DataW.trod enc P w base spare held m g cs=some y->∃l:List (Ty.tree vk4).den,(Ty.list (.tree vk4)).bd l/\al [.sl (.tree vk4) l] (Gw w) cs/\(l.map (Ty.tree vk4).bk).sum+1<=B.b y.1) :
  ∀(fs:List Field)(τ:Ty)(o:Nat)(xs:List (DataW H×List MemPlace)),qba P (di P n) t τ fs o=true->xs.length=fs.length->(∀(i:Nat)(f:Field),fs[i]? = some f->DataW.trod enc P w base spare held m f.type ((cs.drop f.offset).take (P.cellsOf f.type))=xs[i]?) ->
   ∃(x:τ.den)(l:List (Ty.tree vk4).den),τ.bd x/\(Ty.list (.tree vk4)).bd l/\al (τ.enc x++[.sl (.tree vk4) l]) (Gw w) ((cs.drop o).take (τ.sz+1))/\τ.bk x+((l.map (Ty.tree vk4).bk).sum+1)<=B.ba (xs.map (·.1))
 |[],τ,o,xs,h,_,_=>by cases τ<;>simp[qba]at h
 |[f],τ,o,xs,h,_,_=>by cases τ<;>simp[qba]at h
 |[f,g],τ,o,xs,h,hl,hf=>by
  have h':(f.offset==o&&(P.cellsOf f.type==τ.sz&&(di P n τ f.type&&(g.offset==o+τ.sz&&(P.cellsOf g.type==1&&qr5 P t g.type)))))=true:=by cases τ<;>exact h
  simp only[qA,beq_iff_eq]at h'
  match xs,hl with
  |[y,z],_=>
   have hy:DataW.trod enc P w base spare held m f.type ((cs.drop f.offset).take (P.cellsOf f.type))=some y:=hf 0 f rfl;have hz:DataW.trod enc P w base spare held m g.type ((cs.drop g.offset).take (P.cellsOf g.type))=some z:=hf 1 g rfl;rw[h'.1,h'.2.1]at hy;rw[h'.2.2.2.1,h'.2.2.2.2.1]at hz;obtain⟨x,x1,x2,x3⟩:=ih τ f.type _ y h'.2.2.1 hy;obtain⟨l,l1,l2,l3⟩:=ihk g.type _ z h'.2.2.2.2.2 hz;refine⟨x,l,x1,l1,?_,by simp only[List.map_cons,List.map_nil,B.cons,B.nil];omega⟩
   rw[List.take_add,List.drop_drop];exact al.app x2 l2
 |f::g::k::fs,τ,o,xs,h,hl,hf=>by
  cases τ with
  |prod a b=>
   have h':(f.offset==o&&(P.cellsOf f.type==a.sz&&(di P n a f.type&&qba P (di P n) t b (g::k::fs) (o+a.sz))))=true:=h;simp only[qA,beq_iff_eq]at h'
   match xs,hl with
   |y::ys,hl=>
    have hy:DataW.trod enc P w base spare held m f.type ((cs.drop f.offset).take (P.cellsOf f.type))=some y:=hf 0 f rfl;rw[h'.1,h'.2.1]at hy;obtain⟨x1,b1,r1,k1⟩:=ih a f.type _ y h'.2.2.1 hy;obtain⟨x2,l,b2,bl,r2,k2⟩:=zg2 B n m cs t ih ihk (g::k::fs) b (o+a.sz) ys h'.2.2.2 (by simpa using hl) (fun i f' hf'=>hf (i+1) f' hf')
    refine⟨(x1,x2),l,⟨b1,b2⟩,bl,?_,?_⟩
    ·show al ((a.enc x1++b.enc x2)++[.sl (.tree vk4) l]) (Gw w) ((cs.drop o).take ((a.sz+b.sz)+1));rw[qS,Nat.add_assoc,List.take_add,List.drop_drop];exact al.app r1 r2
    ·show(a.bk x1+b.bk x2)+_<=_;rw[List.map_cons,B.cons];omega
  |_=>simp[qba]at h
def zsf(B:tj H):∀(m n:Nat)(τ:Ty)(t:TypeId)(cs:List Value)(y:DataW H×List MemPlace),di P n τ t=true->DataW.trod enc P w base spare held m t cs=some y->∃x:τ.den,τ.bd x/\al (τ.enc x) (Gw w) cs/\τ.bk x<=B.b y.1:=by
 intro m
 induction m with
 |zero=>intro n τ t cs y _ h;simp[DataW.trod]at h|succ m ih=>
  intro n τ t cs y ht h
  cases n with
  |zero=>simp[di]at ht|succ n=>
   cases τ with
   |int k=>
    obtain⟨n,rfl,rfl,hw⟩:=DataW.trod_int (zg8 ht) h;exact⟨n,hw,⟨rfl,trivial⟩,B.lit _⟩
   |byte=>
    obtain⟨n,rfl,rfl,hw⟩:=DataW.trod_int (zg7 ht) h;have hb:0<=n/\n<=255:=by simp only[Lit.wf,qA,decide_eq_true_eq]at hw;exact hw
    refine⟨UInt8.ofNat n.toNat,trivial,⟨?_,trivial⟩,B.lit _⟩;show Value.int .u8 n = .int .u8 ((UInt8.ofNat n.toNat).toNat:Int);rw[UInt8.toNat_ofNat',Nat.mod_eq_of_lt (by omega)]
    congr 1;omega
   |bool=>
    obtain⟨b,rfl,rfl⟩:=DataW.trod_bool (zg6 ht) h;exact⟨b,trivial,⟨rfl,trivial⟩,B.lit _⟩
   |str=>
    obtain⟨s,rfl,rfl,hs⟩:=DataW.trod_string (zg9 ht) h;refine⟨s.data.toList,?_,⟨?_,trivial⟩,Nat.le_of_eq (B.str _).symm⟩
    ·show s.data.toList.length<=maxLen;rw[Array.length_toList];exact hs
    ·show Value.string s = .string ⟨s.data.toList.toArray⟩;simp
   |unit=>simp[di]at ht|tree a=>
    have ht0:=ht;unfold di at ht;split at ht
    ·rename_i fs hu;simp only[qA,beq_iff_eq]at ht;obtain⟨xs,n',e1,rfl,ac,hxl,hg⟩:=DataW.trod_struct hu h;cases e1
     obtain⟨x,l,hb,hbl,hr,hk⟩:=zg2 B n m cs t (fun τ t cs y=>ih n τ t cs y) (fun g cs y hg hy=>by
      have hg':di P (n+2) (.list (.tree a)) g=true:=by
       unfold qr5 at hg;unfold di;split at hg
       ·rename_i e he;have:e=t:=by simpa using hg
        subst this;simp only[qA,beq_iff_eq,decide_eq_true_eq];exact⟨ht.1,by simp[Ty.sz],ht0⟩
       ·cases hg
      exact ih (n+2) (.list (.tree a)) g cs y hg' hy) fs.toList a 0 xs ht.2 (by rw[hxl,Array.length_toList]) (fun i f hf=>hg i f (by rw[← Array.getElem?_toList];exact hf))
     refine⟨.node x l,.mk x l hb hbl.1 hbl.2,?_,?_⟩
     ·rw[List.drop_zero,List.take_of_length_le (by rw[ac,ht.1];exact wF _)]at hr
      exact hr
     ·rw[B.agg];have e:(Ty.tree a).bk (.node x l)=a.bk x+(l.map (Ty.tree a).bk).sum+2:=zgy a.bk x l;omega
    ·cases ht
   |prod a b=>
    unfold di at ht;split at ht
    ·rename_i fs hu;simp only[qA,beq_iff_eq]at ht;obtain⟨xs,n',e1,rfl,ac,hxl,hg⟩:=DataW.trod_struct hu h;cases e1
     obtain⟨x,hb,hr,hk⟩:=zb0 B n m cs (fun τ t cs y=>ih n τ t cs y) fs.toList (.prod a b) 0 xs ht.2 (by rw[hxl,Array.length_toList]) (fun i f hf=>hg i f (by rw[← Array.getElem?_toList];exact hf))
     refine⟨x,hb,?_,by rw[B.agg];omega⟩
     rw[List.drop_zero,List.take_of_length_le (by rw[ac,ht.1];exact wF _)]at hr
     exact hr
    ·cases ht
   |list a=>
    unfold di at ht;split at ht
    ·rename_i e hu;simp only[qA,beq_iff_eq,decide_eq_true_eq]at ht;obtain⟨hsz,hpos,hte⟩:=ht;rcases DataW.trod_slice hu h with⟨rfl,rfl⟩|⟨ad,len,cap,elems,rest,n',e1,rfl,rfl,_,hlc,hcm,hel,hget,_⟩
     ·exact⟨[],⟨Nat.zero_le _,fun x hx=>by cases hx⟩,⟨⟨none,0,rfl,wF _,.inl rfl⟩,trivial⟩,Nat.le_of_eq (show 0+1=_ by rw[B.nilb])⟩
     ·cases e1
      have each:∀i,i<len->∃(x:a.den)(h:i<elems.length),a.bd x/\ad.spot=none/\a.At (Gw w).imm x ad.block (ad.off+i*a.sz)/\a.bk x<=B.b elems[i].1:=by
       intro i hi;have h1:=hget i hi;rw[List.getElem?_eq_getElem (by omega)]at h1
       obtain⟨cs,hc,hc2⟩:=Option.bind_eq_some_iff.1 h1;obtain⟨x,hb,hr,hk⟩:=ih n a e cs _ hte hc2;unfold World.cells? at hc;split at hc
       ·have hl:=mapM_some_length hc;rw[List.length_range,hsz]at hl;have hcell:∀(j:Nat)(v:Value),cs[j]? = some v->w.cell? ((ad.add (i*P.cellsOf e)).add j)=some v:=by
         intro j v hj;have hj':j<cs.length:=by
          by_cases q:j<cs.length
          ·exact q
          ·rw[List.getElem?_eq_none (by omega)]at hj;cases hj
         have:=mapM_some_get hc j j (by rw[List.getElem?_range (by omega)])
         rw[this,hj]
        have hspot:ad.spot=none:=by
         have g0:=hget 0 (by omega)
         rw[List.getElem?_eq_getElem (by omega)]at g0
         obtain⟨cs0,hc0,_⟩:=Option.bind_eq_some_iff.1 g0;unfold World.cells? at hc0;split at hc0
         ·have py:=mapM_some_length hc0;rw[List.length_range,hsz]at py;have:=mapM_some_get hc0 0 0 (by rw[List.getElem?_range (by omega)])
          rw[List.getElem?_eq_getElem (by omega)]at this
          simp only[Nat.zero_mul,Addr.add,if_true]at this;unfold World.cell? at this
          cases hs:ad.spot with
          |none=>rfl|some q=>
           rw[hs]at this;split at this
           ·simp at this
           ·cases this
         ·cases hc0
        refine⟨x,by omega,hb,hspot,?_,hk⟩
        refine ti.1 (al.cells _ cs _ hr (qp5 a x cs hr) (fun j v hj => ?_))
        have:=hcell j v hj;rw[hsz]at this;have ea:(ad.add (i*a.sz)).add j=⟨ad.block,ad.off+i*a.sz+j,none⟩:=by
         obtain⟨b,o,s⟩:=ad;simp only[]at hspot;subst hspot;unfold Addr.add;by_cases q1:i*a.sz=0
         ·by_cases q2:j=0
          ·simp[q1,q2]
          ·simp[q1,q2]
         ·by_cases q2:j=0
          ·simp[q1,q2]
          ·simp[q1,q2]
        rw[ea]at this;exact this
       ·cases hc
      have lst:∀k,k<=len->∃l:List a.den,l.length=k/\(∀x∈l,a.bd x)/\(∀(j:Nat)(x:a.den),l[j]? = some x->a.At (Gw w).imm x ad.block (ad.off+j*a.sz))/\(l.map a.bk).sum<=B.ba ((elems.take k).map (·.1)):=by
       intro k
       induction k with
       |zero=>intro _;exact⟨[],rfl,fun x hx=>(by cases hx),fun j x hj=>(by simp at hj),by simp⟩
       |succ k ihk=>
        intro hk;obtain⟨l,l1,l2,l3,l4⟩:=ihk (by omega)
        obtain⟨x,hx,x1,_,x2,x3⟩:=each k (by omega)
        refine⟨l++[x],by simp[l1],fun y hy => ?_,fun j y hj => ?_,?_⟩
        ·rcases List.mem_append.1 hy with q|q
         ·exact l2 y q
         ·rw[List.mem_singleton]at q;subst q;exact x1
        ·by_cases q:j<l.length
         ·rw[List.getElem?_append_left q]at hj;exact l3 j y hj
         ·rw[List.getElem?_append_right (by omega)]at hj
          have:j=k:=by
           by_cases q2:j-l.length=0
           ·omega
           ·rw[List.getElem?_eq_none (by simp;omega)]at hj;cases hj
          subst this;rw[l1,Nat.sub_self]at hj;cases hj
          exact x2
        ·rw[List.take_succ_eq_append_getElem hx,List.map_append,List.map_append,B.app,List.sum_append];simp only[List.map_cons,List.map_nil,B.cons,B.nil,List.sum_cons,List.sum_nil];omega
      obtain⟨l,l1,l2,l3,l4⟩:=lst len (wF _);refine⟨l,⟨by show l.length<=maxLen;omega,l2⟩,⟨⟨some ad,cap,by rw[← l1],by omega,?_⟩,trivial⟩,?_⟩
      rotate_left
      ·rw[List.take_of_length_le (by omega)]at l4
       rw[B.sl];show(l.map a.bk).sum+1<=_;omega
      by_cases q:l=[]
      ·exact .inl q
      ·obtain⟨_,_,_,hs,_⟩:=each 0 (by have:=List.length_pos_iff.2 q;omega)
       refine .inr ⟨ad.block,ad.off,?_,l3⟩;cases ad;simp only[]at hs;subst hs;rfl
    ·cases ht
def zse(B:tj H){r:Reach}{bb n:Nat}{τ:Ty}{t:TypeId}{v:Value}{d:DataW H}{ps:List MemPlace}(ht:di P n τ t=true)(hv:Value.okWide P w r bb t v)(h:DataW.Trod enc P w base spare held t v d ps) :
  ∃x:τ.den,τ.bd x/\ak (τ.av x) (Gw w) v/\τ.bk x<=B.b d:=by
 obtain⟨m,hm⟩:=h;obtain⟨x,hb,hr,hk⟩:=zsf B m n τ t _ _ ht hm;refine⟨x,hb,?_,hk⟩
 cases n with
 |zero=>simp[di]at ht|succ n=>
  cases τ with
  |int k=>obtain⟨_,rfl⟩:=okWide_int (zg8 ht) hv;exact hr.1
  |byte=>obtain⟨_,rfl⟩:=okWide_int (zg7 ht) hv;exact hr.1
  |bool=>obtain⟨_,rfl⟩:=okWide_bool (zg6 ht) hv;exact hr.1
  |str=>obtain⟨_,rfl⟩:=okWide_string (zg9 ht) hv;exact hr.1
  |unit=>simp[di]at ht|tree a=>
   unfold di at ht;split at ht
   ·rename_i fs hu;obtain⟨cs,rfl,_⟩:=okWide_struct hu hv;exact⟨cs,rfl,hr⟩
   ·cases ht
  |prod a b=>
   unfold di at ht;split at ht
   ·rename_i fs hu;obtain⟨cs,rfl,_⟩:=okWide_struct hu hv;exact⟨cs,rfl,hr⟩
   ·cases ht
  |list a=>
   unfold di at ht;split at ht
   ·rename_i e hu;obtain⟨_,_,_,rfl⟩:=okWide_slice hu hv;exact hr.1
   ·cases ht
end
end Go.Sym
namespace Go.Sym
open Go.ChangeShapes Go.WideShapes Go.ChangeAt Go.RowKit
variable[LC]
def qbb(P:Program)(n:Nat):List Ty->List TypeId->Bool|[],[]=>true|τ::τs,t::ts=>di P n τ t&&qbb P n τs ts|_,_=>false
def bds:(τs:List Ty)->Pts.den (τs.map .h)->Prop|[],_=>True|τ::τs,x=>τ.bd x.1/\bds τs x.2
mutual
def cnt{H:Type}:DataW H->Nat|.lit (.string s)=>s.length+1|.slice e r=>qpx e+qpx r+1|.agg l=>qpx l+1|_=>1
def qpx{H:Type}:List (DataW H)->Nat|[]=>0|d::l=>cnt d+qpx l
end
section
variable{H:Type}{enc:TypeId×Value->H}{P:Program}{w:World}{base:Nat}{spare:Nat->Bool}{held:Bool}
def bks:(τs:List Ty)->Pts.den (τs.map .h)->Nat|[],_=>0|τ::τs,x=>τ.bk x.1+bks τs x.2
def zd0(B:tj H){r:Reach}{bb n:Nat}:∀(τs:List Ty)(ts:List TypeId)(vs:List Value)(ds:List (DataW H))(ps:List MemPlace),qbb P n τs ts=true ->
  (∀(j:Nat) t v,ts[j]? = some t->vs[j]? = some v->Value.okWide P w r bb t v)->DataW.TrodAll enc P w base spare held ts vs ds ps ->
  ∃x:Pts.den (τs.map .h),bds τs x/\al (Pts.put (τs.map .h) x) (Gw w) vs/\bks τs x<=B.ba ds
 |[],[],vs,ds,ps,_,_,h=>by
  obtain⟨rfl,rfl,_⟩:=trodAll_nil h;exact⟨(),trivial,trivial,Nat.zero_le _⟩
 |τ::τs,t::ts,vs,ds,ps,h1,h2,h=>by
  obtain⟨v,vs',d,ds',p,q,rfl,rfl,rfl,hd,hr⟩:=trodAll_cons h;simp only[qbb,qA]at h1;obtain⟨x,xb,xr,xk⟩:=zse B h1.1 (h2 0 t v rfl rfl) hd;obtain⟨y,yb,yr,yk⟩:=zd0 B τs ts vs' ds' q h1.2 (fun j t v ht hv=>h2 (j+1) t v ht hv) hr
  exact⟨(x,y),⟨xb,yb⟩,⟨xr,yr⟩,by rw[B.cons];show τ.bk x+bks τs y<=_;omega⟩
 |[],_::_,_,_,_,h,_,_=>by simp[qbb]at h|_::_,[],_,_,_,h,_,_=>by simp[qbb]at h
def zge{W W':World}(laid:laidOutB P=true)(hb:Below W.heap.size W W'):∀(ts:List TypeId)(vs:List Value)(ds:List (DataW H))(ps:List MemPlace),
  ts.all (fun t=>P.readableRec t&&decide (t<P.types.size))=true->DataW.TrodAll enc P W 0 (fun _=>true) true ts vs ds ps->DataW.TrodAll enc P W' 0 (fun b=>decide (b<W.heap.size)) true ts vs ds ps
 |[],vs,ds,ps,_,h=>by
  obtain⟨rfl,rfl,rfl⟩:=trodAll_nil h;exact trodAll_mk0
 |t::ts,vs,ds,ps,h1,h=>by
  obtain⟨v,vs',d,ds',p,q,rfl,rfl,rfl,hd,hr⟩:=trodAll_cons h;simp only[List.all_cons,qA,decide_eq_true_eq]at h1;have lt:∀x∈p,x.block<W.heap.size:=by obtain⟨m,hm⟩:=hd;exact DataW.trod_lt m _ _ _ hm
  exact trodAll_cons_mk (Below.trod laid h1.1.1 h1.1.2 hd hb lt) (zge laid hb ts vs' ds' q h1.2 hr)
end
def zx4{P:Program}{f:FuncId}{xs:List AV}(h:db P f xs [] (.bool true) [])(vs:List Value)(w:World)(ht:LC.tab (Gw w).imm w)(hr:al xs (Gw w) vs) :
  Calls P f vs.toArray w fun e w'=>e = .returned (.bool true)/\Below w.heap.size w w':=by
 refine(h w (Gw w) vs (zk2 w ht) hr).mono ?_;rintro e w' ⟨v,G,rfl,hfin,hrep⟩
 have hv:v = .bool true:=hrep;subst hv;refine⟨rfl,hfin.bel.os,hfin.bel.tape,hfin.bel.output,hfin.bel.size,fun k hk=>hfin.bel.block k hk ?_⟩
 rintro⟨n,bx,hl,_⟩
 cases hl
end Go.Sym
namespace Go.Sym
open Go.ChangeShapes Go.WideShapes Go.ChangeAt Go.RowKit
variable[LC]
def zq8{H:Type}{enc:TypeId×Value->H}{C:Checked}{os:Os}{f:FuncId}{fn:Func}{s:ChangeSpec}{so:OpenSpec}{F:Stop.Interp}{conds:List PathCond}{t:TypeId}{n:Nat}(τs:List Ty)(l:List (String×DataW Unit))(B:tj H)(M:Nat)
  (small:(H:Type)->List (DataW H)->Bool) (hso:so={ OpenSpec.ofChange s with cond:=some small }) (hsm:∀ds:List (DataW H),small H ds=true->B.ba ds<=M)
  (own:ownKnob C.prog.godebug=none) (laid:laidOutB C.prog=true) (started:os.Started) (noInit:C.prog.inits.idxOf? f=none) (hfn:C.prog.funcs[f]? = some fn)
  (witness:∃(w:World)(tape:Tape)(i:Input),w.os=os/\(w.forCall tape i).Shaped C.prog/\i.vars=[]/\Input.okWide C.prog (w.forCall tape i) .any w.heap.size f i /\
   so.preRow enc C.prog fn conds false l (w.forCall tape i).memory i.args/\({}:Assume).holds C.prog (lone (Frame.enter C.prog f i.args .normal) [] (w.forCall tape i)))
  (hvars:s.vars=[]) (hspec:∀ds:List (DataW H),ds.length=fn.params.size->s.fn H ds={ results:=[.lit (.bool true)],args:=ds })
  (htys:qbb C.prog n τs fn.params.toList=true) (hread:fn.params.toList.all (fun t=>C.prog.readableRec t&&decide (t<C.prog.types.size))=true)
  (hres:fn.resultTypes=#[t]) (hbool:C.prog.underlying t=some .bool)
  (htab:∀W:World,laidMetH C.prog l W->W.ShapedOpen C.prog->LC.tab (Gw W).imm W)
  (hcall:∀x:Pts.den (τs.map .h),bds τs x->bks τs x<=M->db C.prog f (Pts.put (τs.map .h) x) [] (.bool true) []) :
  ReturnsInHanded {} C os f .any (so.preRow enc C.prog fn conds false l) ((so.at F).post enc C.prog fn false true false false):=by
 subst hso;refine returnsInHanded_of_row own started noInit hfn witness ?_;intro W base args ds gs before hval hW _ hcond _ hlaid hsh _;have hW':=hW;obtain⟨p,q,hA,hV,rfl,_,_⟩:=hW;rw[show({ OpenSpec.ofChange s with cond:=some small }:OpenSpec).vars=[] from hvars]at hV
 obtain⟨rfl,rfl⟩:=trodVars_none hV;have hk:=hsm _ (hcond small rfl);rw[List.append_nil]at hk;have hl:ds.length=fn.params.size:=by
  have key:∀(ts:List TypeId)(vs:List Value)(ds:List (DataW H))(ps:List MemPlace),DataW.TrodAll enc C.prog W 0 (fun _=>true) true ts vs ds ps->ds.length=ts.length:=by
   intro ts
   induction ts with
   |nil=>intro vs ds ps h;obtain⟨_,rfl,_⟩:=trodAll_nil h;rfl
   |cons t ts ih=>
    intro vs ds ps h;obtain⟨v,vs',d,ds',p,q,_,rfl,_,_,hr⟩:=trodAll_cons h;rw[qL,qL,ih _ _ _ hr]
  rw[key _ _ _ _ hA,Array.length_toList]
 obtain⟨x,xb,xr,xk⟩:=zd0 B τs fn.params.toList args.toList ds p htys (fun j t v ht hv=>hval j t v (by rw[← Array.getElem?_toList];exact ht) (by rw[← Array.getElem?_toList];exact hv)) hA
 have hc:=zx4 (hcall x xb (Nat.le_trans xk hk)) args.toList W (htab W hlaid hsh) xr;rw[Array.toArray_toList]at hc;refine hc.mono fun e W'⟨he,bel⟩ => ?_
 subst he;refine⟨_,rfl,ds,[],p++[],[],p,[],hW',?_⟩;show DataW.TrodAll _ _ _ _ _ _ _ _ _ _/\_;rw[List.append_nil,show((OpenSpec.at { OpenSpec.ofChange s with cond:=some small } F).fn H ds)=s.fn H ds from rfl,hspec ds hl,hres]
 exact⟨trodAll_mk1 (shut_bool hbool _),zge laid bel _ _ _ _ hread hA,(by rw[show((OpenSpec.at { OpenSpec.ofChange s with cond:=some small } F).vars)=[] from hvars];rfl),bel.frame _,fun h=>by cases h⟩
def ieq(a b:Int):Bool:=decide (a=b)
def qdp:(τ:Ty)->τ.den->DataW Unit->Bool|.int k,x,.lit (.int k' n)=>decide (k'=k)&&ieq n x|.byte,x,.lit (.int k' n)=>decide (k' = .u8)&&ieq n x.toNat|.prod .byte .byte,x,.agg [.lit (.int _ a),.lit (.int _ b)]=>ieq a x.1.toNat&&ieq b x.2.toNat|_,_,_=>false
def qdq(τ:Ty):List τ.den->List (DataW Unit)->Bool|[],[]=>true|x::l,d::ds=>qdp τ x d&&qdq τ l ds|_,_=>false
def qq3(P:Program)(t:TypeId):Bool:=match P.underlying t with|some (.int .u8)=>Nat.beq (P.cellsOf t) 1|_=>false
def qp3(P:Program)(t:TypeId):Ty->Bool
 |.int k=>match P.underlying t with|some (.int k')=>decide (k'=k)|_=>false
 |.byte=>match P.underlying t with|some (.int .u8)=>true|_=>false
 |.prod .byte .byte=>match P.underlying t with
  |some (.struct fs)=>match fs.toList with|[f,g]=>Nat.beq f.offset 0&&Nat.beq g.offset 1&&qq3 P f.type&&qq3 P g.type&&Nat.beq (P.cellsOf t) 2|_=>false
  |_=>false
 |_=>false
section
variable{P:Program}{w:World}{base:Nat}{sp:Nat->Bool}
def zo1{m:Nat}{τ:Ty}{t:TypeId}{cs:List Value}{y:DataW Unit×List MemPlace}{x:τ.den}(ht:qp3 P t τ=true)(h:DataW.trod (fun _=>()) P w base sp false m t cs=some y)(hx:qdp τ x y.1=true):al (τ.enc x) (Gw w) cs/\∀v∈cs,v.oneCell'=true:=by
 unfold qp3 at ht;split at ht
 ·rename_i k;split at ht
  ·rename_i k' hu;have hk:k'=k:=of_decide_eq_true ht;subst hk;obtain⟨n,rfl,rfl,_⟩:=DataW.trod_int hu h;simp only[qdp,ieq,qA,decide_eq_true_eq]at hx;obtain⟨_,rfl⟩:=hx;exact⟨⟨rfl,trivial⟩,fun v hv=>by rw[List.mem_singleton]at hv;subst hv;rfl⟩
  ·cases ht
 ·split at ht
  ·rename_i hu;obtain⟨n,rfl,rfl,_⟩:=DataW.trod_int hu h;simp only[qdp,ieq,qA,decide_eq_true_eq]at hx;obtain⟨_,rfl⟩:=hx;exact⟨⟨rfl,trivial⟩,fun v hv=>by rw[List.mem_singleton]at hv;subst hv;rfl⟩
  ·cases ht
 ·split at ht
  ·rename_i fs hu;split at ht
   ·rename_i f g hfs;simp only[qA]at ht;obtain⟨⟨⟨⟨o1,o2⟩,u1⟩,u2⟩,c2⟩:=ht;have o1:=qN o1;have o2:=qN o2;have c2:=qN c2;have key:∀t,qq3 P t=true->P.underlying t=some (.int .u8)/\P.cellsOf t=1:=fun t h=>by
     unfold qq3 at h;split at h
     ·rename_i hu;exact⟨hu,qN h⟩
     ·cases h
    obtain⟨k1,s1⟩:=key _ u1;obtain⟨k2,s2⟩:=key _ u2;obtain⟨xs,n,rfl,rfl,hl,hxl,hg⟩:=DataW.trod_struct hu h;have g0:=hg 0 f (by rw[← Array.getElem?_toList,hfs];rfl)
    have g1:=hg 1 g (by rw[← Array.getElem?_toList,hfs];rfl)
    have hsz:fs.size=2:=by rw[← Array.length_toList,hfs];rfl
    rw[hsz]at hxl;rw[c2]at hl
    match cs,hl with
    |[a,b],_=>
     match xs,hxl with
     |[p,q],_=>
      rw[o1,s1]at g0;rw[o2,s2]at g1;obtain⟨n1,e1,rfl,_⟩:=DataW.trod_int k1 g0;obtain⟨n2,e2,rfl,_⟩:=DataW.trod_int k2 g1;simp only[List.drop_zero,List.take_succ_cons,List.take_zero,List.cons.injEq,and_true]at e1;simp only[List.drop_succ_cons,List.drop_zero,List.take_succ_cons,List.take_zero,List.cons.injEq,and_true]at e2;subst e1 e2;simp only[List.map_cons,List.map_nil,qdp,ieq,qA,decide_eq_true_eq]at hx;obtain⟨rfl,rfl⟩:=hx;exact⟨⟨rfl,rfl,trivial⟩,fun v hv=>by
       rcases List.mem_cons.1 hv with rfl|hv
       ·rfl
       ·rw[List.mem_singleton]at hv;subst hv;rfl⟩
   ·cases ht
  ·cases ht
 ·cases ht
def za4{τ:Ty}:∀{l:List τ.den}{ds:List (DataW Unit)},qdq τ l ds=true->l.length=ds.length/\∀(j:Nat)(x:τ.den),l[j]? = some x->∃d,ds[j]? = some d/\qdp τ x d=true
 |[],[],_=>⟨rfl,fun j x h=>by simp at h⟩
 |[],_::_,h=>by simp[qdq]at h|_::_,[],h=>by simp[qdq]at h|y::l,d::ds,h=>by
  simp only[qdq,qA]at h;obtain⟨i1,i2⟩:=za4 h.2;refine⟨by simp[i1],fun j x hx => ?_⟩
  match j with|0=>simp only[List.getElem?_cons_zero,qI]at hx;subst hx;exact⟨d,rfl,h.1⟩|j+1=>exact i2 j x hx
def qr0(P:Program)(g:Nat)(τ:Ty)(l:List τ.den)(n:Nat)(d:DataW Unit):Bool:=match(P.globals[g]?).map (·.type) with
 |some t=>match P.underlying t,d with|some (.array _m E),.agg ds=>qp3 P E τ&&(Nat.beq (P.cellsOf E) τ.sz&&(Nat.beq (P.cellsOf t) n&&qdq τ l ds))|_,_=>false
 |none=>false
def zu1{g:Nat}{τ:Ty}{l:List τ.den}{n:Nat}{d:DataW Unit}(h:qr0 P g τ l n d=true){t:TypeId}{cs:Array Value}{fuel:Nat}{p:List MemPlace}(ht:(P.globals[g]?).map (·.type)=some t)
  (hc:∃u fr,w.heap[g]? = some (.cells cs u fr)) (hd:DataW.trod (fun _=>()) P w base sp false fuel t cs.toList=some (d,p)) :
  cs.size=n/\∀(j:Nat)(x:τ.den),l[j]? = some x->τ.At (Gw w).imm x g (j*τ.sz):=by
 unfold qr0 at h;rw[ht]at h;simp only at h;split at h
 ·rename_i m E ds hu;simp only[qA]at h;obtain⟨h1,h2,h3,h4⟩:=h;have h2:=qN h2;have h3:=qN h3;obtain⟨xs,m',rfl,e,hl,hxl,hg⟩:=DataW.trod_array hu hd;simp only[qP,DataW.agg.injEq]at e;obtain⟨rfl,rfl⟩:=e;obtain⟨dl,dg⟩:=za4 h4;refine⟨by rw[← Array.length_toList,hl,h3],fun j x hx => ?_⟩
  obtain⟨d,hd1,hd2⟩:=dg j x hx;rw[List.getElem?_map]at hd1;obtain⟨y,hy,rfl⟩:=Option.map_eq_some_iff.1 hd1;have hj:j<m:=by rw[← hxl];exact(List.getElem?_eq_some_iff.1 hy).1
  have:=hg j hj;rw[hy]at this;obtain⟨r1,r2⟩:=zo1 h1 this hd2;refine ti.1 (al.cells _ _ _ r1 r2 fun i v hv => ?_)
  rw[h2,List.getElem?_take]at hv;split at hv
  ·rw[List.getElem?_drop]at hv;obtain⟨u,fr,hh⟩:=hc;simp only[World.cell?,hh];rw[← Array.getElem?_toList];exact hv
  ·cases hv
 ·cases h
def q1n{laid:List (String×DataW Unit)}{n:String}{d:DataW Unit}:∀{l:List (String×DataW Unit)}{ps:List MemPlace},DataW.LaidVars P w l ps->(n,d)∈l ->
  ∃g t cs fuel p,P.globalNamed n=some g/\(P.globals[g]?).map (·.type)=some t/\(∃u fr,w.heap[g]? = some (.cells cs u fr))/\DataW.trod (fun _=>()) P w 0 (fun _=>true) false fuel t cs.toList=some (d,p)
 |[],_,_,h=>by cases h
 |(n',d')::r,ps,hl,h=>by
  obtain⟨g,t,cs,fuel,p,q,h1,h2,h3,h4,h5,_⟩:=hl;rcases List.mem_cons.1 h with e|h
  ·simp only[qP]at e;obtain⟨rfl,rfl⟩:=e;refine⟨g,t,cs,fuel,p,h1,h2,?_,h4⟩;unfold World.var? at h3;rw[h1,qB]at h3;split at h3
   ·rename_i c u fr hh;have:=qJ h3;subst this;exact⟨u,fr,hh⟩
   ·cases h3
  ·exact q1n (laid:=laid) h5 h
end
def q3v(P:Program)(laid:List (String×DataW Unit))(e:Nat×Nat):Bool:=match LC.glob e.1 with
 |some ⟨τ,l⟩=>Nat.blt 0 l.length&&laid.any fun x=>match P.globalNamed x.1 with|some g=>Nat.beq g e.1&&qr0 P e.1 τ l e.2 x.2|none=>false
 |none=>false
def zqd(P:Program)(laid:List (String×DataW Unit))(g:Nat):Bool:=laid.any fun x=>match P.globalNamed x.1 with
 | some g'=>Nat.beq g' g&&(match(P.globals[g]?).map (·.type) with
  |some t=>match P.underlying t,x.2 with|some (.interface _),.iface _ _=>true|_,_=>false
  | none=>false)
 |none=>false
def zp4{P:Program}{laid:List (String×DataW Unit)}{W:World}(h:laidMetH P laid W)(hh:(laid.all fun x=>x.2.handleName?.isNone)=true)
  (hg:∀g τ l,LC.glob g=some ⟨τ,l⟩->∃n,(g,n)∈LC.sizes) (hs:LC.sizes.all (q3v P laid)=true) (hi:LC.ifs.all (zqd P laid)=true) (hn:∀g∈LC.ints,∃k,W.cell? ⟨g,0,none⟩=some (.int .i64 k)):LC.tab (Gw W).imm W:=by
 rw[MakeChecks.laidMetH_plain _ _ _ hh]at h;obtain⟨ps,hl,_⟩:=h;have key:∀e∈LC.sizes,∃τ l,LC.glob e.1=some ⟨τ,l⟩/\0<l.length/\∃(cs:Array Value)(u:TypeId)(fr:Nat×Nat),W.heap[e.1]? = some (.cells cs u fr)/\cs.size=e.2/\∀(j:Nat)(x:τ.den),l[j]? = some x->τ.At (Gw W).imm x e.1 (j*τ.sz):=fun e he=>by
  have h1:=List.all_eq_true.1 hs e he;unfold q3v at h1;split at h1
  ·rename_i τ l hgl;rw[qA]at h1;obtain⟨x,hx,h2⟩:=List.any_eq_true.1 h1.2;split at h2
   ·rename_i g hgn;rw[qA]at h2;have:=qN h2.1;subst this;obtain⟨g',t,cs,fuel,p,k1,k2,⟨u,fr,k3⟩,k4⟩:=q1n (laid:=laid) hl (n:=x.1) (d:=x.2) hx;rw[hgn]at k1;have:=qJ k1;subst this;obtain⟨r1,r2⟩:=zu1 h2.2 k2 ⟨u,fr,k3⟩ k4;exact⟨τ,l,hgl,Nat.le_of_ble_eq_true h1.1,cs,u,fr,k3,r1,r2⟩
   ·cases h2
  ·cases h1
 refine⟨fun g τ l hgl j x hx => ?_,fun g hgi => ?_,fun g hgi => ?_,fun e he => ?_⟩
 ·obtain⟨n,hn⟩:=hg g τ l hgl;obtain⟨τ',l',h1,_,cs,u,fr,_,_,h5⟩:=key _ hn;rw[hgl]at h1;cases h1
  exact h5 j x hx
 ·obtain⟨k,hk⟩:=hn g hgi;exact⟨k,qyv hk rfl⟩
 ·have h1:=List.all_eq_true.1 hi g hgi;obtain⟨x,hx,h2⟩:=List.any_eq_true.1 h1;split at h2
  ·rename_i g' hgn;rw[qA]at h2;have:=qN h2.1;subst this;obtain⟨g2,t,cs,fuel,p,k1,k2,⟨u,fr,k3⟩,k4⟩:=q1n (laid:=laid) hl (n:=x.1) (d:=x.2) hx;rw[hgn]at k1;have:=qJ k1;subst this;have h3:=h2.2;rw[k2]at h3;simp only at h3;split at h3
   ·rename_i ms nm d hu hd;rw[hd]at k4;obtain⟨_,u',v,hcs,_,_⟩:=iface_of_trod hu k4;refine⟨u',v,qyv ?_ rfl⟩;simp only[World.cell?,k3];rw[← Array.getElem?_toList,hcs];rfl
   ·cases h3
  ·cases h2
 ·obtain⟨τ,l,h1,h2,cs,u,fr,h3,h4,h5⟩:=key e he;refine⟨?_,cs,u,fr,h3,h4⟩;have h6:=h5 0 l[0] (by simp[h2])
  have:∃o v,(Gw W).imm e.1 o=some v:=by
   have hx:=List.all_eq_true.1 hs e he;unfold q3v at hx;rw[h1]at hx;simp only[qA]at hx;obtain⟨x,_,hx⟩:=List.any_eq_true.1 hx.2;split at hx
   ·rw[qA]at hx;have hx:=hx.2;unfold qr0 at hx;split at hx
    ·split at hx
     ·simp only[qA]at hx;have hx:=hx.1;unfold qp3 at hx;split at hx
      ·exact⟨_,_,h6⟩
      ·exact⟨_,_,h6⟩
      ·exact⟨_,_,h6.1⟩
      ·cases hx
     ·cases hx
    ·cases hx
   ·cases hx
  exact this
section
variable{H:Type}{enc:TypeId×Value->H}
def zx7{C:Checked}{os:Os}{f:FuncId}{fn:Func}{s:OpenSpec}{conds:List PathCond}{apart:Bool}{laid:List (String×DataW Unit)}(modest:Bool)(w0:World)(args:Array Value)(hos:w0.os=os)
  (hsh:(w0.forCall (fun _ _=>0) ⟨#[],args,[]⟩).Shaped C.prog) (hok:Input.okWideB C.prog (w0.forCall (fun _ _=>0) ⟨#[],args,[]⟩) f ⟨#[],args,[]⟩=true)
  (hrow:s.preRow enc C.prog fn conds apart laid (w0.forCall (fun _ _=>0) ⟨#[],args,[]⟩).memory args) :
  ∃(w:World)(tape:Tape)(i:Input),w.os=os/\(w.forCall tape i).Shaped C.prog/\i.vars=[]/\Input.okWide C.prog (w.forCall tape i) .any w.heap.size f i /\
   s.preRow enc C.prog fn conds apart laid (w.forCall tape i).memory i.args/\({ modest:=modest }:Assume).holds C.prog (lone (Frame.enter C.prog f i.args .normal) [] (w.forCall tape i)):=
 ⟨w0,fun _ _=>0,⟨#[],args,[]⟩,hos,hsh,(Input.okWide_of_okWideB (base:=0) hok).1,(Input.okWide_of_okWideB hok).2,hrow,by
  simp only[Assume.holds];exact⟨by simp,by simp,fun _=>Modest.zero,by simp,by simp⟩⟩
end
end Go.Sym
namespace Go.Sym
set_option linter.unusedVariables false
abbrev wU : Type := Tree (List (Bs × Bs) × Bs)
abbrev wV : Type := List (Bs × Bs)
section
variable(fu:Nat)
def qr8:List UInt8:=[240,240,240,240,240,240,240,240,240,240,240,240,240,240,240,240,240,240,240,240,240,240,240,240,240,240,240,240,240,240,240,240,240,240,240,240,240,240,240,240,240,240,240,240,240,240,240,240,240,240,240,240,240,240,240,240,240,240,240,240,240,240,240,240,240,240,240,240,240,240,240,240,240,240,240,240,240,240,240,240,240,240,240,240,240,240,240,240,240,240,240,240,240,240,240,240,240,240,240,240,240,240,240,240,240,240,240,240,240,240,240,240,240,240,240,240,240,240,240,240,240,240,240,240,240,240,240,240,241,241,241,241,241,241,241,241,241,241,241,241,241,241,241,241,241,241,241,241,241,241,241,241,241,241,241,241,241,241,241,241,241,241,241,241,241,241,241,241,241,241,241,241,241,241,241,241,241,241,241,241,241,241,241,241,241,241,241,241,241,241,241,241,241,241,2,2,2,2,2,2,2,2,2,2,2,2,2,2,2,2,2,2,2,2,2,2,2,2,2,2,2,2,2,2,19,3,3,3,3,3,3,3,3,3,3,3,3,35,3,3,52,4,4,4,68,241,241,241,241,241,241,241,241,241,241,241]
def qr9:List (UInt8×UInt8):=[(128,191),(160,191),(128,159),(144,191),(128,143),(0,0),(0,0),(0,0),(0,0),(0,0),(0,0),(0,0),(0,0),(0,0),(0,0),(0,0)]
def zwu:List Int:=[1,10,100,1000,10000,100000,1000000,10000000,100000000,1000000000,10000000000,100000000000,1000000000000,10000000000000,100000000000000,1000000000000000,10000000000000000,100000000000000000,1000000000000000000,10000000000000000000]
abbrev zk4:=wU
def qvr:Option zk4:=bif decide (0<List.length ([97]:Bs)) then bif decide (0<List.length ([98,13,10]:Bs)) then some (Tree.node (([(([67,111,110,116,101,110,116,45,84,121,112,101]:Bs),([109,117,108,116,105,112,97,114,116,47,109,105,120,101,100]:Bs))]:List (Bs×Bs)),[]) ([(Tree.node ([],([97]:Bs)) []),(Tree.node ([],([98,13,10]:Bs)) [])]:List wU)) else none else none
abbrev zlb:=wU
def qn3(a:Tree (wV×Bs)):Option zlb:=some (Tree.node a.val a.kids)
def cw(a:Int)(b:Int):Option ((Int×Int)):=some (a,b)
abbrev q8w:=((Int×Int)×Bool) ⊕ ((Int×Int)×Bool)
def qw0(c:Int)(h:List (Bs×Bs))(f:Bs)(g:List wU)(e:Int)(b:Int×Int)(a:Bool):Option q8w:=bif decide (40<=c) then(cw 2 (-1)).bind fun d=>some (.inl (d,a)) else bif a then some (.inr (b,true)) else some (.inr (b,decide (8<e)))
abbrev qo0:=(Int×(Int×Int)×Bool) ⊕ (Int×(Int×Int)×Bool)
abbrev x4T:=wU->Int->Int->(Int×Int)->Bool->Option qo0
abbrev q6f:=Int->(List wU)->Int->Int->Int->(Int×Int)->Bool->Option qo0
def qw3(d:x4T)(fu:Nat)(m:q6f):q6f:=fun j b c a f g i=>bif decide (a<c) then(am b a).bind fun h=>(d (Tree.node h.val h.kids) (af (j+1)) f g i).bind fun l=>ck l (fun k=>some (.inl k)) (fun e=>m j b c (af (a+1)) e.1 e.2.1 e.2.2) else some (.inr (f,(g,i)))
def qij(a:x4T)(fu:Nat):Nat->q6f|0=>fun _ _ _ _ _ _ _=>none|n+1=>qw3 a fu (qij a fu n)
def qn5(b:x4T)(fu:Nat)(a:Tree (wV×Bs))(d:Int)(c:Int)(g:Int×Int)(h:Bool):Option qo0:=(qw0 c a.val.1 a.val.2 a.kids d g h).bind fun i=>ck i (fun f=>some (.inl (c,f))) (fun e=>qij b fu fu d a.kids (a.kids.length:Int) 0 (af (c+1)) e.1 e.2)
def qcy(fu:Nat):Nat->x4T|0=>fun _ _ _ _ _=>none|n+1=>qn5 (qcy fu n) fu
def q7p(b:Tree (wV×Bs))(e:Int)(a:Int)(c:Int×Int)(d:Bool):Option qo0:=qcy fu fu b e a c d
abbrev zlc:=(wU×(Int×Int)×Bool) ⊕ (wU×(Int×Int)×Bool)
def qn4(a:Tree (wV×Bs))(f:Int×Int)(b:Bool):Option zlc:=(q7p fu (Tree.node a.val a.kids) 0 0 f b).bind fun d=>ck d (fun c=>some (.inl ((Tree.node a.val a.kids),c.2))) (fun e=>some (.inr ((Tree.node a.val a.kids),e.2)))
def qnh(a:UInt8):Option Bool:=bif decide (33<=a) then bif decide (a<=126) then some (a != 58) else some false else some false
abbrev q6x:=Bs->Int->Int->Option Bool
def qvu(fu:Nat)(f:q6x):q6x:=fun c b a=>bif decide (a<b) then(am c a).bind fun d=>(qnh d).bind fun e=>bif !e then some false else f c b (af (a+1)) else some true
def qhd(fu:Nat):Nat->q6x|0=>fun _ _ _=>none|n+1=>qvu fu (qhd fu n)
def qvt(a:Bs):Option Bool:=qhd fu fu a (a.length:Int) 0
def qng(a:Bs):Option Bool:=bif !(a==([]:Bs)) then bif decide ((a.length:Int)<=60) then(qvt fu a).bind fun b=>some b else some false else some false
def qyc(a:Int):Option Bool:=some (decide (8<a))
abbrev q4k:=Bs->Int->(List Bool)->Option ((List Bool)×Bool)
def q8k(fu:Nat)(e:q4k):q4k:=fun d c a=>bif decide (c<(d.length:Int)) then(am d c).bind fun b=>bif decide (128<=b) then bif decide (a.length=256) then bif decide (a.length=a.length)&&decide (a.length=256) then bif decide (a.length=256)&&(true&&true) then some (a,false) else none else none else none else(a[b.toNat]?).bind fun f=>e d (af (c+1)) (List.set a b.toNat true) else bif decide (a.length=256) then bif decide (a.length=a.length)&&decide (a.length=256) then bif decide (a.length=256)&&(true&&true) then some (a,true) else none else none else none
def qyb(fu:Nat):Nat->q4k|0=>fun _ _ _=>none|n+1=>q8k fu (qyb fu n)
def qc2(a:Bs):Option ((List Bool)×Bool):=qyb fu fu a 0 (List.replicate 256 false)
def qht(b:Bs)(a:UInt8):Option Int:=(vn b a).bind fun c=>some c
def qir(b:Bs)(a:UInt8):Option Int:=(qht b a).bind fun c=>some c
def qox(a:Int):Option Bool:=bif decide (0<=a) then bif decide (a<55296) then some true else bif decide (57343<a) then bif decide (a<=1114111) then some true else some false else some false else bif decide (57343<a) then bif decide (a<=1114111) then some true else some false else some false
abbrev q46:=Bs->Nat->Option Int
abbrev q47:=Bs->Bs->Int->Int->Int->Option Int
abbrev z29:=Bs->Bs->Int->Int->Option Int
abbrev qfc:=Bs->Bs->Int->Int->Option Int
abbrev z28:=Bs->Int->Bool->Option Int
def qxt(fu:Nat)(c:q46):q46:=fun b a=>bif Nat.blt a (b.length) then bif(((e7 b a).1:Nat):Int)==65533 then some ((a:Nat):Int) else c b (a+(e7 b a).2) else some (-1)
def qit(fu:Nat):Nat->q46|0=>fun _ _=>none|n+1=>qxt fu (qit fu n)
def q8c(fu:Nat)(i:qfc)(h:q47):q47:=fun e c d b a=>bif decide (a<(c.length:Int)) then(am e (af (b-a))).bind fun g=>(am c (af (d-a))).bind fun f=>bif g != f then none else h e c d b (af (a+1)) else some (af (b-d))
def qxw(fu:Nat)(a:qfc):Nat->q47|0=>fun _ _ _ _ _=>none|n+1=>q8c fu a (qxw fu a n)
def qxv(b:qfc):z29:=fun e c d a=>qxw fu b fu e c d a 1
def qxu(f:qfc):qfc:=fun b c d a=>bif decide (a<(b.length:Int)) then(am b a).bind fun h=>(am c d).bind fun g=>bif h != g then bif decide (0<=af (a+1)/\af (a+1)<=(b.length:Int)) then(am c d).bind fun i=>(qir (List.drop (af (a+1)).toNat b) i).bind fun e=>bif decide (e<0) then some (-1) else qxv fu f b c d (af (a+(af (e+1)))) else none else qxv fu f b c d a else some (-1)
def qoo(fu:Nat):Nat->qfc|0=>fun _ _ _ _=>none|n+1=>qxu fu (qoo fu n)
def qis:z28:=fun c a b=>bif b then(qir c (gn a)).bind fun e=>some e else bif a==65533 then qit fu fu c 0 else(qox a).bind fun d=>bif !d then some (-1) else qoo fu fu c (ot a) (af ((List.length (ot a):Int)-1)) (af ((List.length (ot a):Int)-1))
def v7(b:Bs)(a:Int):Option Int:=bif decide (0<=a) then qis fu b a (decide (a<128)) else qis fu b a false
def qc1(b:UInt8)(a:List Bool):Option (Bool×(List Bool)):=(a[b.toNat]?).bind fun c=>some (c,a)
abbrev z5v:=Bs->Int->Option Int
abbrev q5p:=Bs->Int->(List Bool)->Option Int
abbrev q5q:=Bs->Bs->Nat->Option Int
abbrev z5w:=Bs->Bs->Option Int
def qxs:z5v:=fun b a=>(v7 fu b a).bind fun c=>some c
def qxq(fu:Nat)(f:q5p):q5p:=fun c a b=>bif decide (a<(c.length:Int)) then(am c a).bind fun e=>(qc1 e b).bind fun d=>bif d.1 then some a else f c (af (a+1)) d.2 else some (-1)
def qip(fu:Nat):Nat->q5p|0=>fun _ _ _=>none|n+1=>qxq fu (qip fu n)
def qxr(d:q5q):q5q:=fun c b a=>bif Nat.blt a (b.length) then(v7 fu c (((e7 b a).1:Nat):Int)).bind fun e=>bif decide (0<=e) then some ((a:Nat):Int) else d c b (a+(e7 b a).2) else some (-1)
def qiq(fu:Nat):Nat->q5q|0=>fun _ _ _=>none|n+1=>qxr fu (qiq fu n)
def qon:z5w:=fun b a=>qiq fu fu a b 0
def qom(a:Bs)(b:Bs):Option Int:=bif b==([]:Bs) then some (-1) else bif(b.length:Int)==1 then(am b 0).bind fun d=>bif decide (128<=(d.toNat:Int)) then qxs fu a 65533 else qxs fu a (d.toNat:Int) else(qyc (a.length:Int)).bind fun e=>bif e then(qc2 fu b).bind fun c=>bif decide (c.1.length=List.length (List.replicate 256 false))&&decide (c.1.length=256) then bif c.2 then qip fu fu a 0 c.1 else qon fu a b else none else qon fu a b
def qoi(b:Bs)(a:Bs):Option Bool:=(qom fu b a).bind fun c=>some (decide (0<=c))
def qv5(a:Bs):Option Bool:=(qoi fu a ([13,10,0]:Bs)).bind fun b=>some b
def vm(a:UInt8):Option Bool:=bif a==32 then some true else some (a==9)
def qnk(a:Bs):Option Bool:=(qv5 fu a).bind fun f=>bif !f then bif a==([]:Bs) then some true else(am a 0).bind fun b=>(vm b).bind fun c=>bif !c then(am a (af ((a.length:Int)-1))).bind fun e=>(vm e).bind fun d=>some (!d) else some false else some false
abbrev vca:=Bs->Int->Int->Bool->Option Int
abbrev qs9:=Bs->Int->Int->Option Int
def qnj(fu:Nat)(d:qs9):vca:=fun e b a c=>bif c then d e b (af (a+1)) else bif decide (0<b) then bif decide (78<a) then some b else d e a (af (a+1)) else d e a (af (a+1))
def qv6(d:qs9):qs9:=fun b c a=>bif decide (a<(b.length:Int)) then(am b a).bind fun e=>(vm e).bind fun h=>bif !h then qnj fu d b c a true else(am b (af (a-1))).bind fun f=>(vm f).bind fun g=>qnj fu d b c a g else some c
def qhm(fu:Nat):Nat->qs9|0=>fun _ _ _=>none|n+1=>qv6 fu (qhm fu n)
def qni(b:Bs)(a:Int):Option Int:=qhm fu fu b 0 (if 1>a then 1 else a)
def gq:Option ((Int×Int)):=some (0,0)
abbrev q57:=Int->Int->(Int×Int)->(List Bs)->Option ((Int×Int)×(List Bs))
abbrev vch:=Bs->(Int×Int)->(List Bs)->Option ((Int×Int)×(List Bs))
abbrev q56:=Bs->Int->(Int×Int)->(List Bs)->Option ((Int×Int)×(List Bs))
def qv4(fu:Nat)(h:q57):q57:=fun c a d b=>bif decide (a<c) then bif decide (0<=a/\a.toNat<b.length) then(b[a.toNat]?).bind fun f=>bif decide (998<(f.length:Int)) then(cw 1 a).bind fun g=>some (g,[]) else h c (af (a+1)) d b else none else(gq).bind fun e=>some (e,b)
def qhl(fu:Nat):Nat->q57|0=>fun _ _ _ _=>none|n+1=>qv4 fu (qhl fu n)
def qhk:vch:=fun c b a=>bif decide (List.length (a++([c]:List Bs))<=a8) then qhl fu fu (List.length (a++([c]:List Bs)):Int) 0 b (a++([c]:List Bs)) else none
def qv3(e:q56):q56:=fun a f d b=>bif decide (78<(a.length:Int)) then(qni fu a f).bind fun c=>bif c==0 then qhk fu a d b else bif decide (0<=c/\c<=(a.length:Int)) then bif decide (List.length (b++([List.take c.toNat a]:List Bs))<=a8) then bif decide (0<=c/\c<=(a.length:Int)) then e (List.drop c.toNat a) 0 d (b++([List.take c.toNat a]:List Bs)) else none else none else none else qhk fu a d b
def qhj(fu:Nat):Nat->q56|0=>fun _ _ _ _=>none|n+1=>qv3 fu (qhj fu n)
def zb(a:Bs)(b:Bs):Option ((Int×Int)×(List Bs)):=(qng fu a).bind fun g=>bif !g then(cw 10 (-1)).bind fun f=>some (f,[]) else bif decide (4000<(b.length:Int)) then(cw 1 (-1)).bind fun c=>some (c,[]) else(qnk fu b).bind fun e=>bif !e then(cw 11 (-1)).bind fun d=>some (d,[]) else bif decide (a.length+List.length ([58,32]:Bs)<=ar) then bif decide (List.length (a++([58,32]:Bs))+b.length<=ar) then qhj fu fu ((a++([58,32]:Bs))++b) (af ((a.length:Int)+2)) (0,0) [] else none else none
def ew(a:Int×Int):Option Bool:=some (a.1 != 0)
abbrev q58:=wV->Int->Int->(Int×Int)->Option ((Int×Int))
def qv9(h:q58):q58:=fun b c a d=>bif decide (a<c) then(am b a).bind fun e=>(zb fu e.1 e.2).bind fun f=>(ew f.1).bind fun g=>bif g then(cw f.1.1 a).bind fun j=>some j else h b c (af (a+1)) d else(gq).bind fun i=>some i
def qhq(fu:Nat):Nat->q58|0=>fun _ _ _ _=>none|n+1=>qv9 fu (qhq fu n)
def qhp(a:List (Bs×Bs)):Option ((Int×Int)):=bif decide (60<(a.length:Int)) then(cw 2 (-1)).bind fun b=>some b else qhq fu fu a (a.length:Int) 0 (0,0)
abbrev q59:=Int->Int->Bs->Option (Bs)
def qnd(fu:Nat)(d:q59):q59:=fun c a b=>bif decide (a<c) then bif decide (0<=a/\a.toNat<b.length) then(b[a.toNat]?).bind fun e=>bif decide (65<=e) then bif decide (e<=90) then bif decide (0<=a/\a.toNat<b.length) then(b[a.toNat]?).bind fun f=>d c (af (a+1)) (List.set b a.toNat ((e+97)-65)) else none else d c (af (a+1)) b else d c (af (a+1)) b else none else some b
def qci(fu:Nat):Nat->q59|0=>fun _ _ _=>none|n+1=>qnd fu (qci fu n)
def qhh(a:Bs):Option (Bs):=bif decide (a.length<=maxLen) then qci fu fu (a.length:Int) 0 a else none
def ld(b:Bs)(a:Bs):Option Bool:=bif(b.length:Int)==(a.length:Int) then(qhh fu b).bind fun d=>(qhh fu a).bind fun c=>some (d==c) else some false
abbrev q6a:=Bs->UInt8->Option (Bs)
def q8l(fu:Nat)(d:q6a):q6a:=fun a b=>bif decide (0<(a.length:Int)) then(am a 0).bind fun c=>bif c==b then bif decide (0<=(1:Int)/\1<=(a.length:Int)) then d (List.drop (1:Int).toNat a) b else none else some a else some a
def qyf(fu:Nat):Nat->q6a|0=>fun _ _=>none|n+1=>q8l fu (qyf fu n)
def qye(a:Bs)(b:UInt8):Option (Bs):=qyf fu fu a b
abbrev q6b:=Bs->(List Bool)->Option (Bs×(List Bool))
def qyd(fu:Nat)(e:q6b):q6b:=fun a c=>bif decide (0<(a.length:Int)) then(am a 0).bind fun d=>(qc1 d c).bind fun b=>bif !b.1 then some (a,b.2) else bif decide (0<=(1:Int)/\1<=(a.length:Int)) then e (List.drop (1:Int).toNat a) b.2 else none else some (a,c)
def qi2(fu:Nat):Nat->q6b|0=>fun _ _=>none|n+1=>qyd fu (qi2 fu n)
def qi1(a:Bs)(b:List Bool):Option (Bs×(List Bool)):=qi2 fu fu a b
abbrev vc9:=UInt8->UInt8->UInt8->UInt8->Option (Int×Int)
abbrev vc8:=UInt8->UInt8->UInt8->UInt8->Bool->Option (Int×Int)
abbrev vc7:=Bs->UInt8->Int->UInt8->UInt8->Option (Int×Int)
abbrev vc6:=Bs->UInt8->Int->UInt8->UInt8->Bool->Option (Int×Int)
abbrev vc5:=Bs->UInt8->Int->UInt8->Option (Int×Int)
abbrev vc4:=Bs->UInt8->Int->UInt8->Bool->Option (Int×Int)
def q8u:vc9:=fun d c a b=>some (IntKind.i32.wrap (((BitVec.ofInt 32 (IntKind.i32.wrap (((BitVec.ofInt 32 (IntKind.i32.wrap (((BitVec.ofInt 32 (IntKind.i32.wrap (((d&&&7).toNat:Int)*2 ^ min (18:Int).toNat 32))|||BitVec.ofInt 32 (IntKind.i32.wrap (((c&&&63).toNat:Int)*2 ^ min (12:Int).toNat 32))).toNat:Int)))|||BitVec.ofInt 32 (IntKind.i32.wrap (((a&&&63).toNat:Int)*2 ^ min (6:Int).toNat 32))).toNat:Int)))|||BitVec.ofInt 32 ((b&&&63).toNat:Int)).toNat:Int)),4)
def qyu:vc8:=fun e d a c b=>bif b then some (65533,1) else q8u e d a c
def q8t:vc7:=fun f d e b a=>bif decide (e<=3) then some (IntKind.i32.wrap (((BitVec.ofInt 32 (IntKind.i32.wrap (((BitVec.ofInt 32 (IntKind.i32.wrap (((d&&&15).toNat:Int)*2 ^ min (12:Int).toNat 32))|||BitVec.ofInt 32 (IntKind.i32.wrap (((b&&&63).toNat:Int)*2 ^ min (6:Int).toNat 32))).toNat:Int)))|||BitVec.ofInt 32 ((a&&&63).toNat:Int)).toNat:Int)),3) else(am f 3).bind fun c=>bif decide (c<128) then qyu d b a c true else qyu d b a c (decide (191<c))
def qyt:vc6:=fun f d e c a b=>bif b then some (65533,1) else q8t f d e c a
def q8s:vc5:=fun e c d a=>bif decide (d<=2) then some (IntKind.i32.wrap (((BitVec.ofInt 32 (IntKind.i32.wrap (((c&&&31).toNat:Int)*2 ^ min (6:Int).toNat 32))|||BitVec.ofInt 32 ((a&&&63).toNat:Int)).toNat:Int)),2) else(am e 2).bind fun b=>bif decide (b<128) then qyt e c d a b true else qyt e c d a b (decide (191<b))
def qys:vc4:=fun e c d b a=>bif a then some (65533,1) else q8s e c d b
def qyr(a:Bs):Option (Int×Int):=bif decide ((a.length:Int)<1) then some (65533,0) else(am a 0).bind fun d=>(qr8[d.toNat]?).bind fun b=>bif decide (240<=b) then(am a 0).bind fun f=>some (IntKind.i32.wrap (((BitVec.ofInt 32 (IntKind.i32.wrap (((BitVec.ofInt 32 (f.toNat:Int) &&& ~~~ BitVec.ofInt 32 (Int.fdiv (IntKind.i32.wrap ((b.toNat:Int)*2 ^ min (31:Int).toNat 32)) (2 ^ min (31:Int).toNat 32))).toNat:Int)))|||BitVec.ofInt 32 (IntKind.i32.wrap (((BitVec.ofInt 32 65533&&&BitVec.ofInt 32 (Int.fdiv (IntKind.i32.wrap ((b.toNat:Int)*2 ^ min (31:Int).toNat 32)) (2 ^ min (31:Int).toNat 32))).toNat:Int)))).toNat:Int)),1) else(qr9[(tc b (min (4:Int).toNat 8)).toNat]?).bind fun e=>bif decide ((a.length:Int)<((b&&&7).toNat:Int)) then some (65533,1) else(am a 1).bind fun c=>bif decide (c<e.1) then qys a d ((b&&&7).toNat:Int) c true else qys a d ((b&&&7).toNat:Int) c (decide (e.2<c))
def qyq(a:Bs):Option (Int×Int):=bif !(a==([]:Bs)) then(am a 0).bind fun d=>bif decide (d<128) then(am a 0).bind fun b=>some ((b.toNat:Int),1) else(qyr a).bind fun c=>some c else(qyr a).bind fun e=>some e
def qoj(b:Bs)(a:Int):Option Bool:=(v7 fu b a).bind fun c=>some (decide (0<=c))
abbrev q6c:=Bs->Bs->Option (Bs)
def q8m(e:q6c):q6c:=fun a c=>bif decide (0<(a.length:Int)) then(qyq a).bind fun b=>(qoj fu c b.1).bind fun d=>bif !d then some a else bif decide (0<=b.2/\b.2<=(a.length:Int)) then e (List.drop b.2.toNat a) c else none else some a
def qyh(fu:Nat):Nat->q6c|0=>fun _ _=>none|n+1=>q8m fu (qyh fu n)
def qyg(a:Bs)(b:Bs):Option (Bs):=qyh fu fu a b
abbrev vdp:=Bs->Bs->Option (Bs)
abbrev vdo:=Bs->Bs->Bool->Option (Bs)
abbrev vdn:=Bs->Bs->Option (Bs)
abbrev vdm:=Bs->Bs->Bool->Option (Bs)
def qx4:vdp:=fun c b=>(qc2 fu b).bind fun a=>bif decide (a.1.length=List.length (List.replicate 256 false))&&decide (a.1.length=256) then bif a.2 then(qi1 fu c a.1).bind fun e=>some e.1 else(qyg fu c b).bind fun d=>some d else none
def qos:vdo:=fun c b a=>bif a then(am b 0).bind fun d=>(qye fu c d).bind fun e=>some e else qx4 fu c b
def qx3:vdn:=fun b a=>bif(a.length:Int)==1 then(am a 0).bind fun c=>qos fu b a (decide (c<128)) else qos fu b a false
def qor:vdm:=fun b c a=>bif a then some b else qx3 fu b c
def qoq(a:Bs)(b:Bs):Option (Bs):=bif a==([]:Bs) then qor fu a b true else qor fu a b (b==([]:Bs))
def vv(a:Bs):Option (Bs):=(qoq fu a ([32,9]:Bs)).bind fun b=>some b
def o8(a:UInt8):Option Bool:=bif decide (33<=a) then bif decide (a<=126) then(qir ([40,41,60,62,64,44,59,58,92,34,47,91,93,63,61,42,37,39]:Bs) a).bind fun b=>some (decide (b<0)) else some false else some false
abbrev vd0:=Int->Bs->Option (Bs×Bs)
abbrev vdz:=Int->Bool->Bs->Option (Bs×Bs)
abbrev qly:=Int->Bs->Option (Bs×Bs)
def q7h(fu:Nat)(c:qly):vd0:=fun a b=>c (af (a+1)) b
def qwp(d:qly):vdz:=fun a c b=>bif c then q7h fu d a b else bif decide (0<=a/\a<=(b.length:Int)) then bif decide (0<=a/\a<=(b.length:Int)) then some (List.take a.toNat b,List.drop a.toNat b) else none else none
def q7g(c:qly):qly:=fun a b=>bif decide (a<(b.length:Int)) then(am b a).bind fun d=>(o8 d).bind fun e=>qwp fu c a e b else qwp fu c a false b
def qia(fu:Nat):Nat->qly|0=>fun _ _=>none|n+1=>q7g fu (qia fu n)
def qh9(a:Bs):Option (Bs×Bs):=(vv fu a).bind fun b=>qia fu fu 0 b
def zg(c:UInt8)(d:Bs):Option (Bool×Bs):=(vv fu d).bind fun a=>bif a==([]:Bs) then some (false,a) else(am a 0).bind fun b=>bif b != c then some (false,a) else bif decide (0<=(1:Int)/\1<=(a.length:Int)) then some (true,List.drop (1:Int).toNat a) else none
def qh8(a:UInt8):Option Bool:=(o8 a).bind fun b=>bif b then some true else some (a==42)
abbrev ved:=Int->Bs->Option (Bs×Bs)
abbrev vec:=Int->Bool->Bs->Option (Bs×Bs)
abbrev qlz:=Int->Bs->Option (Bs×Bs)
def q7j(fu:Nat)(c:qlz):ved:=fun a b=>c (af (a+1)) b
def qwq(d:qlz):vec:=fun a c b=>bif c then q7j fu d a b else bif decide (0<=a/\a<=(b.length:Int)) then bif decide (0<=a/\a<=(b.length:Int)) then some (List.take a.toNat b,List.drop a.toNat b) else none else none
def q7i(c:qlz):qlz:=fun a b=>bif decide (a<(b.length:Int)) then(am b a).bind fun d=>(qh8 d).bind fun e=>qwq fu c a e b else qwq fu c a false b
def qib(fu:Nat):Nat->qlz|0=>fun _ _=>none|n+1=>q7i fu (qib fu n)
def qnv(a:Bs):Option (Bs×Bs):=(vv fu a).bind fun b=>qib fu fu 0 b
def qid(a:UInt8):Option Bool:=(o8 a).bind fun b=>bif b then some true else bif a==37 then some true else bif a==39 then some true else some (a==42)
abbrev ven:=Int->Bs->Option (Bs×Bs)
abbrev vem:=Int->Bool->Bs->Option (Bs×Bs)
abbrev ql0:=Int->Bs->Option (Bs×Bs)
def q7l(fu:Nat)(c:ql0):ven:=fun a b=>c (af (a+1)) b
def qwr(d:ql0):vem:=fun a c b=>bif c then q7l fu d a b else bif decide (0<=a/\a<=(b.length:Int)) then bif decide (0<=a/\a<=(b.length:Int)) then some (List.take a.toNat b,List.drop a.toNat b) else none else none
def q7k(c:ql0):ql0:=fun a b=>bif decide (a<(b.length:Int)) then(am b a).bind fun d=>(qid d).bind fun e=>qwr fu c a e b else qwr fu c a false b
def qic(fu:Nat):Nat->ql0|0=>fun _ _=>none|n+1=>q7k fu (qic fu n)
def qnw(a:Bs):Option (Bs×Bs):=(vv fu a).bind fun b=>qic fu fu 0 b
abbrev q6e:=Int->Bs->Bs->Option (Bs×Bool×Bs)
def qws(fu:Nat)(f:q6e):q6e:=fun c b a=>bif decide (c<(b.length:Int)) then(am b c).bind fun d=>bif d==34 then bif decide (0<=af (c+1)/\af (c+1)<=(b.length:Int)) then some (a,(true,List.drop (af (c+1)).toNat b)) else none else bif d==92 then bif(af (c+1))==(b.length:Int) then some (([]:Bs),(false,b)) else(am b (af (c+1))).bind fun e=>bif decide (List.length (a++([e]:Bs))<=a8) then f (af ((af (c+1))+1)) b (a++([e]:Bs)) else none else bif decide (List.length (a++([d]:Bs))<=a8) then f (af (c+1)) b (a++([d]:Bs)) else none else some (([]:Bs),(false,b))
def qie(fu:Nat):Nat->q6e|0=>fun _ _ _=>none|n+1=>qws fu (qie fu n)
def qnx(c:Bs):Option (Bs×Bool×Bs):=(zg fu 34 c).bind fun a=>bif !a.1 then(qnw fu a.2).bind fun b=>some (b.1,(true,b.2)) else qie fu fu 0 a.2 []
abbrev veu:=Bs->Bs->Int->Bool->Option Int
def qcl:veu:=fun c f b a=>bif a then some 0 else bif b==1 then(am f 0).bind fun d=>(qht c d).bind fun e=>some e else bif decide ((c.length:Int)<=b) then some (-1) else none
def qck(b:Bs)(a:Bs):Option Int:=bif(a.length:Int)==0 then qcl b a (a.length:Int) true else qcl b a (a.length:Int) (a==b)
def qhr(b:Bs)(c:Bs):Option (Bs×Bs×Bool):=(qck b c).bind fun a=>bif decide (0<=a) then bif decide (0<=a/\a<=(b.length:Int)) then bif decide (0<=af (a+(c.length:Int))/\af (a+(c.length:Int))<=(b.length:Int)) then some (List.take a.toNat b,(List.drop (af (a+(c.length:Int))).toNat b,true)) else none else none else some (b,(([]:Bs),false))
def tx(b:Bs)(a:Bs):Option (Bs×Bs×Bool):=(qhr b a).bind fun c=>some c
def qhs(a:Bs)(b:Bs):Option Bool:=bif decide ((b.length:Int)<=(a.length:Int)) then bif decide (0<=af ((a.length:Int)-(b.length:Int))/\af ((a.length:Int)-(b.length:Int))<=(a.length:Int)) then some ((List.drop (af ((a.length:Int)-(b.length:Int))).toNat a)==b) else none else some false
def qwa(a:Bs)(b:Bs):Option (Bs×Bool):=(qhs a b).bind fun c=>bif !c then some (a,false) else bif decide (0<=af ((a.length:Int)-(b.length:Int))/\af ((a.length:Int)-(b.length:Int))<=(a.length:Int)) then some (List.take (af ((a.length:Int)-(b.length:Int))).toNat a,true) else none
def qok(b:Bs)(a:Bs):Option (Bs×Bool):=(qwa b a).bind fun c=>some c
abbrev zk6:=(Bs×Int×Bool×Bs)×Bool×Bs
def qnu(g:Bs):Option zk6:=(qnv fu g).bind fun f=>(zg fu 61 f.2).bind fun e=>bif !e.1 then some ((([]:Bs),(0,(false,([]:Bs)))),(false,e.2)) else(qnx fu e.2).bind fun a=>(tx f.1 ([42]:Bs)).bind fun b=>bif b.2.2 then(qok b.2.1 ([42]:Bs)).bind fun c=>(za c.1 1099511627776).bind fun d=>bif a.2.1 then bif d.2 then some ((b.1,(d.1,(c.2,a.1))),(!(b.1==([]:Bs)),a.2.2)) else some ((b.1,(d.1,(c.2,a.1))),(false,a.2.2)) else some ((b.1,(d.1,(c.2,a.1))),(false,a.2.2)) else bif a.2.1 then some ((b.1,((-1),(false,a.1))),(!(b.1==([]:Bs)),a.2.2)) else some ((b.1,((-1),(false,a.1))),(false,a.2.2))
abbrev zk5:=Bool×(Bs×Int×Bool×Bs)
def qh2(b:Bs×Int×Bool×Bs)(a:Bs×Int×Bool×Bs):Option zk5:=(ld fu b.1 a.1).bind fun c=>some (c,a)
abbrev q81:=Int×(Bs×Int×Bool×Bs)
abbrev q6g:=(List (Bs×Int×Bool×Bs))->Int->Int->(Bs×Int×Bool×Bs)->Option q81
def qxp(g:q6g):q6g:=fun e d a c=>bif decide (a<d) then(am e a).bind fun f=>(qh2 fu f c).bind fun b=>bif b.1 then some (a,b.2) else g e d (af (a+1)) b.2 else some ((-1),c)
def qio(fu:Nat):Nat->q6g|0=>fun _ _ _ _=>none|n+1=>qxp fu (qio fu n)
def qxo(a:List (Bs×Int×Bool×Bs))(b:Bs×Int×Bool×Bs):Option q81:=qio fu fu a (a.length:Int) 0 b
abbrev zlf:=Bool×(Bs×Int×Bool×Bs)
def qof(c:List (Bs×Int×Bool×Bs))(b:Bs×Int×Bool×Bs):Option zlf:=(qxo fu c b).bind fun a=>some (decide (0<=a.1),a.2)
abbrev vfr:=UInt8->Bool->Option (UInt8×Bool)
abbrev vfq:=UInt8->Bool->Option (UInt8×Bool)
def qvy:vfr:=fun a b=>bif b then some ((a-65)+10,true) else bif decide (97<=a) then bif decide (a<=102) then some ((a-97)+10,true) else some (0,false) else some (0,false)
def qvx:vfq:=fun a b=>bif b then some (a-48,true) else bif decide (65<=a) then qvy a (decide (a<=70)) else qvy a false
def qch(a:UInt8):Option (UInt8×Bool):=bif decide (48<=a) then qvx a (decide (a<=57)) else qvx a false
def qhi(b:Bs):Option (UInt8×Bool):=bif decide ((b.length:Int)<2) then some (0,false) else(am b 0).bind fun d=>(qch d).bind fun c=>(am b 1).bind fun e=>(qch e).bind fun a=>bif c.2 then some ((qo c.1 (min (4:Int).toNat 8))|||a.1,a.2) else some ((qo c.1 (min (4:Int).toNat 8))|||a.1,false)
abbrev q6i:=Bs->Int->Bs->Option (Bs)
abbrev vf1:=Bs->Option (Bs)
abbrev vf0:=Bs->Bool->Option (Bs)
def qwn(fu:Nat)(e:q6i):q6i:=fun c b a=>bif decide (b<(c.length:Int)) then(am c b).bind fun h=>bif h==37 then bif decide (0<=af (b+1)/\af (b+1)<=(c.length:Int)) then(qhi (List.drop (af (b+1)).toNat c)).bind fun d=>bif d.2 then bif decide (List.length (a++([d.1]:Bs))<=a8) then e c (af ((af (b+2))+1)) (a++([d.1]:Bs)) else none else(am c b).bind fun f=>bif decide (List.length (a++([f]:Bs))<=a8) then e c (af (b+1)) (a++([f]:Bs)) else none else none else(am c b).bind fun g=>bif decide (List.length (a++([g]:Bs))<=a8) then e c (af (b+1)) (a++([g]:Bs)) else none else some a
def qh6(fu:Nat):Nat->q6i|0=>fun _ _ _=>none|n+1=>qwn fu (qh6 fu n)
def qcr:vf1:=fun a=>qh6 fu fu a 0 []
def vt:vf0:=fun b a=>bif a then bif decide (0<=(6:Int)/\6<=(b.length:Int)) then qcr fu (List.drop (6:Int).toNat b) else none else qcr fu b
def qns(a:Bs×Int×Bool×Bs):Option (Bs):=bif !a.2.2.1 then some a.2.2.2 else bif a.2.1==0 then bif decide (6<=(a.2.2.2.length:Int)) then bif decide (0<=(6:Int)/\6<=(a.2.2.2.length:Int)) then(ld fu (List.take (6:Int).toNat a.2.2.2) ([117,116,102,56,39,39]:Bs)).bind fun b=>vt fu a.2.2.2 b else none else vt fu a.2.2.2 false else vt fu a.2.2.2 false
abbrev q6j:=Int->Int->(Bs×Bs)->(Bs×Bs)->(List (Bs×Int×Bool×Bs))->Option ((Bs×Bs)×Bool)
def qwg(i:q6j):q6j:=fun d a e b c=>bif decide (a<d) then bif decide (0<=a/\a.toNat<c.length) then(c[a.toNat]?).bind fun f=>bif f.2.1 != a then some (b,false) else(qns fu f).bind fun g=>bif decide (b.2.length+g.length<=ar) then i d (af (a+1)) e (b.1,b.2++g) c else none else none else(zt b.2 ([239,191,189]:Bs)).bind fun h=>some ((b.1,h),true)
def qhz(fu:Nat):Nat->q6j|0=>fun _ _ _ _ _=>none|n+1=>qwg fu (qhz fu n)
def qhy(a:List (Bs×Int×Bool×Bs)):Option ((Bs×Bs)×Bool):=bif decide (0<=(0:Int)/\(0:Int).toNat<a.length) then(a[(0:Int).toNat]?).bind fun b=>bif decide (0<=(0:Int)/\(0:Int).toNat<a.length) then(a[(0:Int).toNat]?).bind fun e=>bif decide (0<=(0:Int)/\(0:Int).toNat<a.length) then(a[(0:Int).toNat]?).bind fun d=>bif decide (d.2.1<0) then some ((b.1,e.2.2.2),(a.length:Int)==1) else(zq a).bind fun c=>qhz fu fu (c.length:Int) 0 (([]:Bs),([]:Bs)) (b.1,([]:Bs)) c else none else none else none
abbrev qi6:=Bool×wV
abbrev vga:=(List (Bs×Int×Bool×Bs))->(List (Bs×Int×Bool×Bs))->Int->Int->(List (Bs×Int×Bool×Bs))->Int->Int->(Bs×Int×Bool×Bs)->(List (Bs×Int×Bool×Bs))->wV->Option qi6
abbrev qte:=(List (Bs×Int×Bool×Bs))->(List (Bs×Int×Bool×Bs))->Int->Int->(List (Bs×Int×Bool×Bs))->Int->Int->(Bs×Int×Bool×Bs)->wV->(List (Bs×Int×Bool×Bs))->Option qi6
abbrev yf:=(List (Bs×Int×Bool×Bs))->(List (Bs×Int×Bool×Bs))->Int->Int->wV->Option qi6
def qh4(fu:Nat)(l:yf)(j:qte):vga:=fun k e h a c b g i f d=>j k e h a c b (af (g+1)) i d f
def qwk(k:yf)(p:qte):qte:=fun o g h d f e c i b a=>bif decide (c<e) then(am f c).bind fun l=>(qh2 fu l i).bind fun m=>bif m.1 then bif decide (List.length (a++([l]:List (Bs×Int×Bool×Bs)))<=a8) then qh4 fu k p o g h d f e c m.2 (a++([l]:List (Bs×Int×Bool×Bs))) b else none else qh4 fu k p o g h d f e c m.2 a b else(qhy fu a).bind fun j=>bif !j.2 then some (false,[]) else bif decide (List.length (b++([(i.1,j.1.2)]:List (Bs×Bs)))<=a8) then k o g h (af (d+1)) (b++([(i.1,j.1.2)]:List (Bs×Bs))) else none
def qh3(fu:Nat)(a:yf):Nat->qte|0=>fun _ _ _ _ _ _ _ _ _ _=>none|n+1=>qwk fu a (qh3 fu a n)
def qwj(f:yf):yf:=fun e b c a d=>bif decide (a<c) then(am b a).bind fun h=>bif decide (0<=a/\a<=(e.length:Int)) then(qof fu (List.take a.toNat e) h).bind fun g=>bif g.1 then f e b c (af (a+1)) d else qh3 fu f fu e b c a e (e.length:Int) 0 g.2 d [] else none else some (true,d)
def qcq(fu:Nat):Nat->yf|0=>fun _ _ _ _ _=>none|n+1=>qwj fu (qcq fu n)
def qcp(a:List (Bs×Int×Bool×Bs)):Option qi6:=qcq fu fu a a (a.length:Int) 0 []
abbrev qi7:=(Bs×Bs×Bool) ⊕ (Bs×Bs×Bool×wV)
abbrev q6k:=Bs->Bs->Bs->Bs->Bs->(List (Bs×Int×Bool×Bs))->Option qi7
abbrev vgj:=Bs->Bs->Bs->Bs->Bs->Option qi7
abbrev vgi:=Bool->Bs->Bs->Bs->Bs->Bs->Option qi7
def qwl(k:q6k):q6k:=fun c e h a b d=>(zg fu 59 h).bind fun i=>bif i.1 then(qnu fu i.2).bind fun f=>bif !f.2.1 then some (.inl (a,(b,false))) else bif decide (List.length (d++([f.1]:List (Bs×Int×Bool×Bs)))<=a8) then k c e f.2.2 a b (d++([f.1]:List (Bs×Int×Bool×Bs))) else none else(vv fu i.2).bind fun j=>(qcp fu d).bind fun g=>bif g.1 then some (.inr (a,(b,(j==([]:Bs),g.2)))) else some (.inr (a,(b,(false,g.2))))
def qh5(fu:Nat):Nat->q6k|0=>fun _ _ _ _ _ _=>none|n+1=>qwl fu (qh5 fu n)
def qwm:vgj:=fun b c e a d=>qh5 fu fu b c e a d []
def vq:vgi:=fun f c d e a b=>bif f then some (.inl (a,(b,false))) else qwm fu c d e a b
def qnr(d:Bs):Option qi7:=(qh9 fu d).bind fun b=>(zg fu 47 b.2).bind fun c=>(qh9 fu c.2).bind fun a=>bif b.1==([]:Bs) then vq fu true ([]:Bs) ([]:Bs) a.2 b.1 a.1 else bif !c.1 then vq fu true ([]:Bs) ([]:Bs) a.2 b.1 a.1 else vq fu (a.1==([]:Bs)) ([]:Bs) ([]:Bs) a.2 b.1 a.1
abbrev q6l:=Bs->Int->Int->Option Bool
def q7c(fu:Nat)(f:q6l):q6l:=fun c b a=>bif decide (a<b) then(am c a).bind fun d=>(o8 d).bind fun e=>bif !e then some false else f c b (af (a+1)) else some true
def qhe(fu:Nat):Nat->q6l|0=>fun _ _ _=>none|n+1=>q7c fu (qhe fu n)
def qna(a:Bs):Option Bool:=qhe fu fu a (a.length:Int) 0
def zh(a:Bs):Option Bool:=bif !(a==([]:Bs)) then bif decide ((a.length:Int)<=60) then(qna fu a).bind fun b=>some b else some false else some false
def qwd(b:Bs×Bs)(a:Bs×Bs):Option (Bool×(Bs×Bs)):=(ld fu b.1 a.1).bind fun c=>some (c,a)
abbrev q6m:=wV->Int->Int->(Bs×Bs)->Option (Int×(Bs×Bs))
def qxl(g:q6m):q6m:=fun e d a c=>bif decide (a<d) then(am e a).bind fun f=>(qwd fu f c).bind fun b=>bif b.1 then some (a,b.2) else g e d (af (a+1)) b.2 else some ((-1),c)
def qin(fu:Nat):Nat->q6m|0=>fun _ _ _ _=>none|n+1=>qxl fu (qin fu n)
def qxk(a:List (Bs×Bs))(b:Bs×Bs):Option (Int×(Bs×Bs)):=qin fu fu a (a.length:Int) 0 b
def qoe(c:List (Bs×Bs))(b:Bs×Bs):Option (Bool×(Bs×Bs)):=(qxk fu c b).bind fun a=>some (decide (0<=a.1),a.2)
abbrev vg5:=Int->wV->Int->Int->Bool->(Bs×Bs×wV)->(Int×Int)->(Bs×Bs)->Option ((Int×Int))
abbrev qtg:=wV->Int->Int->(Bs×Bs×wV)->(Int×Int)->Option ((Int×Int))
abbrev vg4:=(Bs×Bs×wV)->(Int×Int)->Option ((Int×Int))
abbrev vg3:=Bool->(Bs×Bs×wV)->(Int×Int)->Option ((Int×Int))
def zf(p:qtg):vg5:=fun a e h g i b f c=>bif i then(cw 10 a).bind fun m=>some m else bif decide (0<=a/\a<=(b.2.2.length:Int)) then(qoe fu (List.take a.toNat b.2.2) c).bind fun d=>bif d.1 then(cw 7 a).bind fun j=>some j else bif decide (500<(d.2.2.length:Int)) then(cw 1 a).bind fun o=>some o else(zu d.2.2).bind fun k=>bif !k then(cw 5 a).bind fun l=>some l else p e h (af (g+1)) b f else none
def qwe(g:qtg):qtg:=fun b c a e d=>bif decide (a<c) then(am b a).bind fun f=>(zh fu f.1).bind fun i=>bif !i then zf fu g a b c a true e d f else zf fu g a b c a (decide (20<(f.1.length:Int))) e d f else(gq).bind fun h=>some h
def qcn(fu:Nat):Nat->qtg|0=>fun _ _ _ _ _=>none|n+1=>qwe fu (qcn fu n)
def qwf:vg4:=fun a b=>bif decide (60<(a.2.2.length:Int)) then(cw 2 (-3)).bind fun c=>some c else qcn fu fu a.2.2 (a.2.2.length:Int) 0 a b
def qcm:vg3:=fun b c a=>bif b then(cw 10 (-2)).bind fun d=>some d else qwf fu c a
def tu(a:Bs×Bs×wV):Option ((Int×Int)):=(zh fu a.1).bind fun c=>bif !c then qcm fu true a (0,0) else(zh fu a.2.1).bind fun b=>qcm fu (!b) a (0,0)
abbrev q8v:=(Bs×Bs×Int×Int) ⊕ (Bs×Bs×Int×Int×wV)
def qhw(h:Bs):Option q8v:=bif decide (4000<(h.length:Int)) then(cw 1 (-1)).bind fun p=>some (.inl (([]:Bs),(([]:Bs),p))) else(qnr fu h).bind fun l=>ck l (fun d=>bif !d.2.2 then(cw 11 (-5)).bind fun k=>some (.inl (([]:Bs),(([]:Bs),k))) else(tu fu (d.1,(d.2.1,[]))).bind fun i=>(ew i).bind fun o=>bif o then(cw i.1 (-6)).bind fun j=>some (.inl (([]:Bs),(([]:Bs),j))) else(gq).bind fun m=>some (.inl (d.1,(d.2.1,m)))) (fun a=>bif !a.2.2.1 then(cw 11 (-5)).bind fun g=>some (.inl (([]:Bs),(([]:Bs),g))) else(tu fu (a.1,(a.2.1,a.2.2.2))).bind fun c=>(ew c).bind fun f=>bif f then(cw c.1 (-6)).bind fun e=>some (.inl (([]:Bs),(([]:Bs),e))) else(gq).bind fun b=>some (.inr (a.1,(a.2.1,(b.1,(b.2,a.2.2.2))))))
abbrev qoz:=(Bs×Bs×Int×Bool) ⊕ (Bs×Bs×Int×Bool×wV)
abbrev vhc:=wV->Int->wV->Int->Int->Bs->Bs->Option qoz
abbrev qtj:=wV->Int->wV->Int->Int->Bs->Bs->Option qoz
def qcu(fu:Nat)(g:qtj):vhc:=fun h f e c d a b=>g h f e c (af (d+1)) a b
def qnz(j:qtj):qtj:=fun i f e d c a b=>bif decide (c<d) then(am e c).bind fun l=>(ld fu l.1 ([67,111,110,116,101,110,116,45,84,121,112,101]:Bs)).bind fun o=>bif o then bif decide (0<=f) then some (.inl (([]:Bs),(([]:Bs),(0,false)))) else qcu fu j i c e d c a b else qcu fu j i f e d c a b else bif decide (f<0) then some (.inl (([]:Bs),(([]:Bs),(0,false)))) else(am i f).bind fun p=>(qhw fu p.2).bind fun m=>ck m (fun h=>(ew h.2.2).bind fun q=>some (.inl (h.1,(h.2.1,(f,!q))))) (fun g=>(ew (g.2.2.1,g.2.2.2.1)).bind fun k=>some (.inr (g.1,(g.2.1,(f,(!k,g.2.2.2.2))))))
def vx(fu:Nat):Nat->qtj|0=>fun _ _ _ _ _ _ _=>none|n+1=>qnz fu (vx fu n)
def zj(a:List (Bs×Bs)):Option qoz:=vx fu fu a (-1) a (a.length:Int) 0 ([]:Bs) ([]:Bs)
abbrev q6o:=Bs->wV->Int->Int->(Int×Int)->Option (Bs×Bool×(Int×Int))
def qwb(h:q6o):q6o:=fun f c b a d=>bif decide (a<b) then(am c a).bind fun e=>(ld fu e.1 f).bind fun j=>bif j then(gq).bind fun g=>some (e.2,(true,g)) else h f c b (af (a+1)) d else(gq).bind fun i=>some (([]:Bs),(false,i))
def qhv(fu:Nat):Nat->q6o|0=>fun _ _ _ _ _=>none|n+1=>qwb fu (qhv fu n)
def qhu(a:Bs×Bs×wV)(d:Bs):Option (Bs×Bool×(Int×Int)):=(tu fu a).bind fun b=>(ew b).bind fun c=>bif c then some (([]:Bs),(false,b)) else qhv fu fu d a.2.2 (a.2.2.length:Int) 0 (0,0)
def qh0(a:UInt8):Option Bool:=bif decide (32<=a) then some (decide (a<=126)) else some false
abbrev q6p:=Bs->Int->Int->Option Bool
def q7d(fu:Nat)(f:q6p):q6p:=fun c b a=>bif decide (a<b) then(am c a).bind fun d=>(qh0 d).bind fun e=>bif !e then some false else f c b (af (a+1)) else some true
def qhf(fu:Nat):Nat->q6p|0=>fun _ _ _=>none|n+1=>q7d fu (qhf fu n)
def qnb(a:Bs):Option Bool:=qhf fu fu a (a.length:Int) 0
def qiu(a:List Bs):Option (Int×Int×Int×(List Bs)):=bif(Int.tmod (a.length:Int) 2)==1 then none else bif decide (a.length<=a8) then some (0,(0,(0,a))) else none
abbrev v8:=Int×Int×Int×Bs×(List Bs)
abbrev vh0:=Bool->Int->Int->Int->Int->(List Bs)->Option v8
abbrev q6s:=Int->Int->Int->Int->(List Bs)->Bs->Option v8
abbrev q6q:=Int->Int->Int->Int->(List Bs)->Bs->Option v8
abbrev q6r:=Int->Int->Int->Int->(List Bs)->(List Bs)->Option v8
abbrev qtk:=Bool->Int->Int->Int->Int->(List Bs)->Option v8
abbrev vhz:=Int->Int->Int->(List Bs)->Option v8
abbrev vhy:=Bool->Int->Int->Int->(List Bs)->Option v8
def qxz(fu:Nat)(g:qtk):vh0:=fun f e b a c d=>g f (af (e+2)) b a c d
def q8h(fu:Nat)(h:q6s):q6s:=fun d c b e a f=>bif decide (0<=d) then bif decide (0<=d/\d.toNat<a.length) then(a[d.toNat]?).bind fun i=>(am i 0).bind fun g=>bif decide (0<=af (d+1)/\(af (d+1)).toNat<a.length) then(a[(af (d+1)).toNat]?).bind fun j=>(am j 0).bind fun k=>(f[g.toNat]?).bind fun l=>h (af (d-2)) c b e a (List.set f g.toNat k) else none else none else some (c,(b,(e,(f,a))))
def qx2(fu:Nat):Nat->q6s|0=>fun _ _ _ _ _ _=>none|n+1=>q8h fu (qx2 fu n)
def q8f(g:q6q):q6q:=fun a c b d f e=>bif decide (a<256) then bif decide (0<=a)&&decide (a<256) then(e[a.toNat]?).bind fun h=>g (af (a+1)) c b d f (List.set e a.toNat (gn a)) else none else qx2 fu fu (af ((f.length:Int)-2)) c b d f e
def qx0(fu:Nat):Nat->q6q|0=>fun _ _ _ _ _ _=>none|n+1=>q8f fu (qx0 fu n)
def q8g(fu:Nat)(j:q6r):q6r:=fun a d c e b g=>bif decide (0<=a) then bif decide (0<=a/\a.toNat<b.length) then(b[a.toNat]?).bind fun f=>(am f 0).bind fun h=>bif decide (0<=af (a+1)/\(af (a+1)).toNat<b.length) then(b[(af (a+1)).toNat]?).bind fun i=>none else none else none else none
def qx1(fu:Nat):Nat->q6r|0=>fun _ _ _ _ _ _=>none|n+1=>q8g fu (qx1 fu n)
def q8e(g:qtk):qtk:=fun f e c b d a=>bif decide (e<(a.length:Int)) then bif decide (0<=e/\e.toNat<a.length) then(a[e.toNat]?).bind fun h=>bif(h.length:Int) != 1 then none else bif decide (0<=af (e+1)/\(af (e+1)).toNat<a.length) then(a[(af (e+1)).toNat]?).bind fun i=>bif(i.length:Int) != 1 then qxz fu g false e c b d a else qxz fu g f e c b d a else none else none else bif f then bif decide (List.length (List.replicate 256 0)=List.length (List.replicate 256 0))&&decide (List.length (List.replicate 256 0)=256) then qx0 fu fu 0 c b d a (List.replicate 256 0) else none else bif decide (0<=(0:Int)/\0=af (Int.tdiv (a.length:Int) 2)/\(0:Int)<=4294967296) then qx1 fu fu (af ((a.length:Int)-2)) c b d a (List.replicate (0:Int).toNat ([]:Bs)) else none
def qxy(fu:Nat):Nat->qtk|0=>fun _ _ _ _ _ _=>none|n+1=>q8e fu (qxy fu n)
def q8i:vhz:=fun b a c d=>qxy fu fu true 0 b a c d
def qxx:vhy:=fun e c b d a=>bif e then bif decide (0<=(0:Int)/\(0:Int).toNat<a.length) then(a[(0:Int).toNat]?).bind fun f=>bif decide (0<=(1:Int)/\(1:Int).toNat<a.length) then(a[(1:Int).toNat]?).bind fun g=>none else none else none else q8i fu c b d a
def q8d(c:Int)(d:Int)(b:Int)(a:List Bs):Option v8:=bif(a.length:Int)==2 then bif decide (0<=(0:Int)/\(0:Int).toNat<a.length) then(a[(0:Int).toNat]?).bind fun e=>qxx fu (decide (1<(e.length:Int))) c d b a else none else qxx fu false c d b a
abbrev zlg:=Int×Int×Int×Bs×(List Bs)
def qop(c:Int)(e:Int)(b:Int)(d:List Bs):Option zlg:=(q8d fu c e b d).bind fun a=>some (a.1,(a.2.1,(a.2.2.1,(a.2.2.2.1,[]))))
abbrev vh6:=Bs->Int->UInt8->Bs->Bs->Option (Bs×Bs)
abbrev qtl:=Bs->Int->Bs->Bs->Option (Bs×Bs)
abbrev q6t:=Bs->Int->Bs->Option (Bs×Bs)
def qiz(fu:Nat)(e:qtl):vh6:=fun f b g c a=>(c[g.toNat]?).bind fun d=>bif decide (0<=b/\b.toNat<a.length) then(a[b.toNat]?).bind fun h=>e f (af (b+1)) c (List.set a b.toNat d) else none
def qya(f:qtl):qtl:=fun c d b a=>bif decide (d<(c.length:Int)) then(am c d).bind fun e=>(b[e.toNat]?).bind fun g=>bif g != e then bif decide (0<a.length) then qiz fu f c d e b a else none else f c (af (d+1)) b a else bif decide (0<a.length) then some (a,b) else none
def qi0(fu:Nat):Nat->qtl|0=>fun _ _ _ _=>none|n+1=>qya fu (qi0 fu n)
def qx9(f:q6t):q6t:=fun a c b=>bif decide (c<(a.length:Int)) then(am a c).bind fun d=>(b[d.toNat]?).bind fun e=>bif e != d then bif decide (a.length<=maxLen) then qiz fu (qi0 fu fu) a c d b a else none else f a (af (c+1)) b else some (a,b)
def qiy(fu:Nat):Nat->q6t|0=>fun _ _ _=>none|n+1=>qx9 fu (qiy fu n)
def qix(a:Bs)(b:Bs):Option (Bs×Bs):=qiy fu fu a 0 b
def zo(fu:Nat)(s:Bs)(p0 p1 p2:Int)(on:List Bs):Option (Bs×Int×Int×Int×Bs):=
 bif decide (p0=0)&&decide (p1=0) then
 (qop fu 0 1 p2 on).bind fun x=>
 bif decide (x.1=0)&&decide (x.2.1=1) then
 (qix fu s x.2.2.2.1).bind fun y=>
 some (y.1,1,0,x.2.2.1,y.2)
 else none else none
def zp(fu:Nat)(s:Bs)(p0 p1 p2:Int)(tab:Bs):Option (Bs×Int×Int×Int×Bs):=
 bif !decide (p0=0) then
 (qix fu s tab).bind fun y=>
 some (y.1,p0,p1,p2,y.2)
 else none
def o7(a:UInt8):Option UInt8:=(([48,49,50,51,52,53,54,55,56,57,65,66,67,68,69,70]:Bs)[(a&&&15).toNat]?).bind fun b=>some b
abbrev vif:=Bs->Bs->Int->Int->(List Bs)->Option ((List Bs))
abbrev qtn:=Bs->Int->Int->(List Bs)->Option ((List Bs))
def qh7(fu:Nat)(e:qtn):vif:=fun g b d c a=>bif decide (0<=af ((a.length:Int)-1)/\(af ((a.length:Int)-1)).toNat<a.length) then(a[(af ((a.length:Int)-1)).toNat]?).bind fun h=>bif decide ((af ((h.length:Int)+(b.length:Int)))<=60) then bif decide (0<=af ((a.length:Int)-1)/\(af ((a.length:Int)-1)).toNat<a.length) then(a[(af ((a.length:Int)-1)).toNat]?).bind fun f=>bif decide (f.length+b.length<=ar) then bif decide (0<=af ((a.length:Int)-1)/\(af ((a.length:Int)-1)).toNat<a.length) then(a[(af ((a.length:Int)-1)).toNat]?).bind fun i=>e g d (af (c+1)) (List.set a ((af ((a.length:Int)-1)).toNat) (f++b)) else none else none else none else bif decide (List.length (a++([b]:List Bs))<=a8) then e g d (af (c+1)) (a++([b]:List Bs)) else none else none
def qwo(e:qtn):qtn:=fun c d a b=>bif decide (a<d) then bif decide (0<=a/\a<=af (a+1)/\af (a+1)<=(c.length:Int)) then(am c a).bind fun f=>(o8 f).bind fun k=>bif !k then(am c a).bind fun g=>(o7 (tc g (min (4:Int).toNat 8))).bind fun h=>(am c a).bind fun i=>(o7 i).bind fun j=>qh7 fu e c ([37,h,j]:Bs) d a b else qh7 fu e c (List.take ((af (a+1)).toNat-a.toNat) (List.drop a.toNat c)) d a b else none else some b
def qcs(fu:Nat):Nat->qtn|0=>fun _ _ _ _=>none|n+1=>qwo fu (qcs fu n)
def qnt(a:Bs):Option ((List Bs)):=qcs fu fu a (a.length:Int) 0 ([([117,116,102,56,39,39]:Bs)]:List Bs)
abbrev q6u:=Bs->Int->Int->(Bs×Bs)->(List Bs)->Option (Bs)
abbrev vim:=(Bs×Bs)->Option (Bs)
abbrev vil:=Bool->(Bs×Bs)->Option (Bs)
def qwh(fu:Nat)(h:q6u):q6u:=fun g d b a c=>bif decide (b<d) then bif decide (0<=b/\b.toNat<c.length) then(c[b.toNat]?).bind fun f=>bif decide (List.length ([59,32]:Bs)+a.1.length<=ar) then bif decide (List.length (([59,32]:Bs)++a.1)+List.length ([42]:Bs)<=ar) then(tw b).bind fun e=>bif decide (List.length ((([59,32]:Bs)++a.1)++([42]:Bs))+e.length<=ar) then bif decide (List.length (((([59,32]:Bs)++a.1)++([42]:Bs))++e)+List.length ([42,61]:Bs)<=ar) then bif decide (List.length ((((([59,32]:Bs)++a.1)++([42]:Bs))++e)++([42,61]:Bs))+f.length<=ar) then bif decide (g.length+List.length (((((([59,32]:Bs)++a.1)++([42]:Bs))++e)++([42,61]:Bs))++f)<=ar) then h (g++(((((([59,32]:Bs)++a.1)++([42]:Bs))++e)++([42,61]:Bs))++f)) d (af (b+1)) a c else none else none else none else none else none else none else none else some g
def qh1(fu:Nat):Nat->q6u|0=>fun _ _ _ _ _=>none|n+1=>qwh fu (qh1 fu n)
def qwi:vim:=fun a=>(qnt fu a.2).bind fun b=>qh1 fu fu ([]:Bs) (b.length:Int) 0 a b
def qco:vil:=fun c a=>bif c then bif decide (List.length ([59,32]:Bs)+a.1.length<=ar) then bif decide (List.length (([59,32]:Bs)++a.1)+List.length ([61,34]:Bs)<=ar) then(qiu ([([92]:Bs),([92,92]:Bs),([34]:Bs),([92,34]:Bs)]:List Bs)).bind fun b=>(vz a.2 b.1 b.2.1 b.2.2.1 b.2.2.2).bind fun d=>bif decide (List.length ((([59,32]:Bs)++a.1)++([61,34]:Bs))+d.length<=ar) then bif decide (List.length (((([59,32]:Bs)++a.1)++([61,34]:Bs))++d)+List.length ([34]:Bs)<=ar) then some ((((([59,32]:Bs)++a.1)++([61,34]:Bs))++d)++([34]:Bs)) else none else none else none else none else qwi fu a
def qnq(a:Bs×Bs):Option (Bs):=(zh fu a.2).bind fun c=>bif c then bif decide (List.length ([59,32]:Bs)+a.1.length<=ar) then bif decide (List.length (([59,32]:Bs)++a.1)+List.length ([61]:Bs)<=ar) then bif decide (List.length ((([59,32]:Bs)++a.1)++([61]:Bs))+a.2.length<=ar) then some (((([59,32]:Bs)++a.1)++([61]:Bs))++a.2) else none else none else none else bif decide ((a.2.length:Int)<=60) then(qnb fu a.2).bind fun b=>qco fu b a else qco fu false a
abbrev q6w:=Bs->wV->Int->Int->(Int×Int)->Option (Bs×(Int×Int))
def qwc(h:q6w):q6w:=fun d b c a e=>bif decide (a<c) then(am b a).bind fun i=>(qnq fu i).bind fun f=>bif decide (d.length+f.length<=ar) then h (d++f) b c (af (a+1)) e else none else bif decide (4000<(d.length:Int)) then(cw 1 (-4)).bind fun g=>some (([]:Bs),g) else(gq).bind fun j=>some (d,j)
def qhx(fu:Nat):Nat->q6w|0=>fun _ _ _ _ _=>none|n+1=>qwc fu (qhx fu n)
def vp(a:Bs×Bs×wV):Option (Bs×(Int×Int)):=(tu fu a).bind fun b=>(ew b).bind fun c=>bif c then some (([]:Bs),b) else bif decide (a.1.length+List.length ([47]:Bs)<=ar) then bif decide (List.length (a.1++([47]:Bs))+a.2.1.length<=ar) then qhx fu fu ((a.1++([47]:Bs))++a.2.1) a.2.2 (a.2.2.length:Int) 0 (0,0) else none else none
abbrev vix:=Int->wU->Bs->Bs->wV->Option Int
abbrev viw:=Int->Bool->wU->Bs->Bs->wV->Option Int
def qxf:vix:=fun g e b a c=>(qhu fu (b,(a,c)) ([98,111,117,110,100,97,114,121]:Bs)).bind fun i=>(vp fu (b,(a,c))).bind fun d=>bif i.2.1 then some 5 else bif decide (60<=(c.length:Int)) then some 5 else(ew d.2).bind fun f=>bif f then some 5 else(am e.val.1 g).bind fun h=>bif !(d.1==h.2) then some 5 else bif decide (2000<(d.1.length:Int)) then some 5 else some 0
def o9:viw:=fun f e c b a d=>bif e then some 5 else qxf fu f (Tree.node c.val c.kids) b a d
def qod(a:Tree (wV×Bs)):Option Int:=(zj fu a.val.1).bind fun f=>ck f (fun c=>bif decide (0<(a.val.2.length:Int)) then o9 fu c.2.2.1 true (Tree.node a.val a.kids) c.1 c.2.1 [] else bif !c.2.2.2 then o9 fu c.2.2.1 true (Tree.node a.val a.kids) c.1 c.2.1 [] else(ld fu c.1 ([109,117,108,116,105,112,97,114,116]:Bs)).bind fun e=>o9 fu c.2.2.1 (!e) (Tree.node a.val a.kids) c.1 c.2.1 []) (fun b=>bif decide (0<(a.val.2.length:Int)) then o9 fu b.2.2.1 true (Tree.node a.val a.kids) b.1 b.2.1 b.2.2.2.2 else bif !b.2.2.2.1 then o9 fu b.2.2.1 true (Tree.node a.val a.kids) b.1 b.2.1 b.2.2.2.2 else(ld fu b.1 ([109,117,108,116,105,112,97,114,116]:Bs)).bind fun d=>o9 fu b.2.2.1 (!d) (Tree.node a.val a.kids) b.1 b.2.1 b.2.2.2.2)
abbrev vi3:=Bs->Int->Int->UInt8->Option Int
abbrev vi2:=Bs->Int->Int->UInt8->Bool->Option Int
abbrev ql2:=Bs->Int->Int->Option Int
def qvw(fu:Nat)(d:ql2):vi3:=fun e b c a=>bif a==13 then some 11 else bif a==10 then some 11 else bif decide (998<(af (b+1))) then some 1 else d e (af (b+1)) (af (c+1))
def qcg(c:ql2):vi2:=fun d f b e a=>bif a then c d 0 (af ((af (b+1))+1)) else qvw fu c d f b e
def qvv(e:ql2):ql2:=fun b d a=>bif decide (a<(b.length:Int)) then(am b a).bind fun c=>bif c==13 then bif decide ((af (a+1))<(b.length:Int)) then(am b (af (a+1))).bind fun f=>qcg fu e b d a c (f==10) else qcg fu e b d a c false else qcg fu e b d a c false else some 0
def y9(fu:Nat):Nat->ql2|0=>fun _ _ _=>none|n+1=>qvv fu (y9 fu n)
def qcf(a:Bs):Option Int:=y9 fu fu a 0 0
def qii(a:UInt8):Option Bool:=bif decide (32<=a) then some (decide (a<=126)) else some false
abbrev q6y:=Bs->Int->Int->Option Bool
def q7e(fu:Nat)(f:q6y):q6y:=fun c b a=>bif decide (a<b) then(am c a).bind fun d=>(qii d).bind fun e=>bif !e then some false else f c b (af (a+1)) else some true
def qhg(fu:Nat):Nat->q6y|0=>fun _ _ _=>none|n+1=>q7e fu (qhg fu n)
def qnc(a:Bs):Option Bool:=qhg fu fu a (a.length:Int) 0
def qol(b:Bs)(a:Bs):Option Bool:=(qhs b a).bind fun c=>some c
abbrev vji:=Bs->Bs->wV->Option (Bs×Bool)
abbrev vjh:=Bool->Bs->Bs->wV->Option (Bs×Bool)
def qw2:vji:=fun b c d=>(qhu fu (b,(c,d)) ([98,111,117,110,100,97,114,121]:Bs)).bind fun a=>bif !(a.1==([]:Bs)) then bif decide ((a.1.length:Int)<=60) then(qnc fu a.1).bind fun f=>bif f then(qol a.1 ([32]:Bs)).bind fun e=>bif a.2.1 then some (a.1,!e) else some (a.1,false) else bif a.2.1 then some (a.1,false) else some (a.1,false) else bif a.2.1 then some (a.1,false) else some (a.1,false) else bif a.2.1 then some (a.1,false) else some (a.1,false)
def zk:vjh:=fun c b a d=>bif c then some (([]:Bs),false) else qw2 fu b a d
def qn0(e:List (Bs×Bs)):Option (Bs×Bool):=(zj fu e).bind fun f=>ck f (fun b=>bif !b.2.2.2 then zk fu true b.1 b.2.1 [] else(ld fu b.1 ([109,117,108,116,105,112,97,114,116]:Bs)).bind fun d=>zk fu (!d) b.1 b.2.1 []) (fun a=>bif !a.2.2.2.1 then zk fu true a.1 a.2.1 a.2.2.2.2 else(ld fu a.1 ([109,117,108,116,105,112,97,114,116]:Bs)).bind fun c=>zk fu (!c) a.1 a.2.1 a.2.2.2.2)
def qoa(a:Bs):Option (Bs):=some a
abbrev q60:=Bs->UInt8->Option (Bs)
def q8n(fu:Nat)(d:q60):q60:=fun a b=>bif decide (0<(a.length:Int)) then(am a (af ((a.length:Int)-1))).bind fun c=>bif c==b then bif decide (0<=af ((a.length:Int)-1)/\af ((a.length:Int)-1)<=(a.length:Int)) then d (List.take (af ((a.length:Int)-1)).toNat a) b else none else some a else some a
def qyk(fu:Nat):Nat->q60|0=>fun _ _=>none|n+1=>q8n fu (qyk fu n)
def qyj(a:Bs)(b:UInt8):Option (Bs):=qyk fu fu a b
abbrev q61:=Bs->(List Bool)->Option (Bs×(List Bool))
def qyi(fu:Nat)(e:q61):q61:=fun a c=>bif decide (0<(a.length:Int)) then(am a (af ((a.length:Int)-1))).bind fun d=>(qc1 d c).bind fun b=>bif !b.1 then some (a,b.2) else bif decide (0<=af ((a.length:Int)-1)/\af ((a.length:Int)-1)<=(a.length:Int)) then e (List.take (af ((a.length:Int)-1)).toNat a) b.2 else none else some (a,c)
def qi4(fu:Nat):Nat->q61|0=>fun _ _=>none|n+1=>qyi fu (qi4 fu n)
def qi3(a:Bs)(b:List Bool):Option (Bs×(List Bool)):=qi4 fu fu a b
def q8r(a:UInt8):Option Bool:=some ((a&&&192) != 128)
abbrev vj0:=Bs->Int->Int->Option (Int×Int)
abbrev vjz:=Bs->Int->Int->Option (Int×Int)
abbrev q62:=Bs->Int->Int->Int->Option (Int×Int)
def qyp(fu:Nat):vj0:=fun c b a=>bif decide (0<=a/\a<=b/\b<=(c.length:Int)) then(qyq (List.take (b.toNat-a.toNat) (List.drop a.toNat c))).bind fun d=>bif(af (a+d.2)) != b then some (65533,1) else some d else none
def qyo:vjz:=fun c a b=>bif decide (b<0) then qyp fu c a 0 else qyp fu c a b
def q8q(g:q62):q62:=fun b c a d=>bif decide (d<=a) then(am b a).bind fun e=>(q8r e).bind fun f=>bif f then qyo fu b c a else g b c (af (a-1)) d else qyo fu b c a
def qyn(fu:Nat):Nat->q62|0=>fun _ _ _ _=>none|n+1=>q8q fu (qyn fu n)
def q8p(a:Bs):Option (Int×Int):=bif(a.length:Int)==0 then some (65533,0) else(am a (af ((a.length:Int)-1))).bind fun b=>bif decide ((b.toNat:Int)<128) then some ((b.toNat:Int),1) else qyn fu fu a (a.length:Int) (af ((af ((a.length:Int)-1))-1)) (if 0>af ((a.length:Int)-4) then 0 else af ((a.length:Int)-4))
abbrev q63:=Bs->Bs->Option (Bs)
def q8o(e:q63):q63:=fun a c=>bif decide (0<(a.length:Int)) then(am a (af ((a.length:Int)-1))).bind fun d=>bif decide (128<=(d.toNat:Int)) then(q8p fu a).bind fun b=>(qoj fu c b.1).bind fun f=>bif !f then some a else bif decide (0<=af ((a.length:Int)-b.2)/\af ((a.length:Int)-b.2)<=(a.length:Int)) then e (List.take (af ((a.length:Int)-b.2)).toNat a) c else none else(qoj fu c (d.toNat:Int)).bind fun g=>bif !g then some a else bif decide (0<=af ((a.length:Int)-1)/\af ((a.length:Int)-1)<=(a.length:Int)) then e (List.take (af ((a.length:Int)-1)).toNat a) c else none else some a
def qym(fu:Nat):Nat->q63|0=>fun _ _=>none|n+1=>q8o fu (qym fu n)
def qyl(a:Bs)(b:Bs):Option (Bs):=qym fu fu a b
abbrev vkb:=Bs->Bs->Option (Bs)
abbrev vka:=Bs->Bs->Bool->Option (Bs)
abbrev vj9:=Bs->Bs->Option (Bs)
abbrev vj8:=Bs->Bs->Bool->Option (Bs)
def qx6:vkb:=fun c b=>(qc2 fu b).bind fun a=>bif decide (a.1.length=List.length (List.replicate 256 false))&&decide (a.1.length=256) then bif a.2 then(qi3 fu c a.1).bind fun e=>some e.1 else(qyl fu c b).bind fun d=>some d else none
def qou:vka:=fun c b a=>bif a then(am b 0).bind fun d=>(qyj fu c d).bind fun e=>some e else qx6 fu c b
def qx5:vj9:=fun b a=>bif(a.length:Int)==1 then(am a 0).bind fun c=>qou fu b a (decide (c<128)) else qou fu b a false
def qot:vj8:=fun b c a=>bif a then some b else qx5 fu b c
def qiw(a:Bs)(b:Bs):Option (Bs):=bif a==([]:Bs) then qot fu a b true else qot fu a b (b==([]:Bs))
def qn9(c:Bs)(a:Bs):Option Int:=(qiw fu c ([32,9]:Bs)).bind fun b=>bif decide (List.length ([45,45]:Bs)+a.length<=ar) then bif b==(([45,45]:Bs)++a) then some 1 else bif decide (List.length ([45,45]:Bs)+a.length<=ar) then bif decide (List.length (([45,45]:Bs)++a)+List.length ([45,45]:Bs)<=ar) then bif b==((([45,45]:Bs)++a)++([45,45]:Bs)) then some 2 else some 0 else none else none else none
abbrev zla:=(Bs×Bs×Int×(List Bs)×(List Bs)) ⊕ (Bs×Bs×Int×(List Bs))
def qcx(b:Int)(f:Bs)(c:Bs)(d:Bs)(a:Int)(h:List Bs)(e:List Bs):Option zla:=(qn9 fu f d).bind fun g=>bif g==0 then some (.inl (c,(d,(a,(h,e))))) else bif decide (0<=a) then bif decide (0<=a/\a<=(if af (b-2)>a then af (b-2) else a)/\(if af (b-2)>a then af (b-2) else a)<=(c.length:Int)) then bif decide (List.length (e++([List.take ((if af (b-2)>a then af (b-2) else a).toNat-a.toNat) (List.drop a.toNat c)]:List Bs))<=a8) then bif g==2 then some (.inr (c,(d,(a,e++([List.take ((if af (b-2)>a then af (b-2) else a).toNat-a.toNat) (List.drop a.toNat c)]:List Bs))))) else some (.inl (c,(d,(if(c.length:Int)<af ((af (b+(f.length:Int)))+2) then(c.length:Int) else af ((af (b+(f.length:Int)))+2),(h,e++([List.take ((if af (b-2)>a then af (b-2) else a).toNat-a.toNat) (List.drop a.toNat c)]:List Bs)))))) else none else none else bif g==2 then some (.inr (c,(d,(a,e)))) else some (.inl (c,(d,(if(c.length:Int)<af ((af (b+(f.length:Int)))+2) then(c.length:Int) else af ((af (b+(f.length:Int)))+2),(h,e)))))
abbrev qy2:=(Bs×Bs×Bs×Int×(List Bs)) ⊕ (Bs×Bs×Bs×Int×(List Bs)×(List Bs))
abbrev q64:=Int->Bs->Bs->Bs->Int->(List Bs)->(List Bs)->Option qy2
def qxa(k:q64):q64:=fun a b i j h d c=>bif decide (a<(b.length:Int)) then bif decide (0<=a/\a<=(b.length:Int)) then bif decide (0<List.length ([13,10]:Bs)) then(tr (List.drop a.toNat b) ([13,10]:Bs)).bind fun g=>bif decide (0<=g) then bif decide (0<=a/\a<=af (a+g)/\af (a+g)<=(b.length:Int)) then(qcx fu a (List.take ((af (a+g)).toNat-a.toNat) (List.drop a.toNat b)) i j h d c).bind fun o=>ck o (fun f=>k (af ((af (a+g))+2)) b f.1 f.2.1 f.2.2.1 f.2.2.2.1 f.2.2.2.2) (fun p=>some (.inl (b,p))) else none else bif decide (0<=a/\a<=(b.length:Int)/\(b.length:Int)<=(b.length:Int)) then(qcx fu a (List.take ((b.length:Int).toNat-a.toNat) (List.drop a.toNat b)) i j h d c).bind fun l=>ck l (fun e=>k (b.length:Int) b e.1 e.2.1 e.2.2.1 e.2.2.2.1 e.2.2.2.2) (fun m=>some (.inl (b,m))) else none else none else none else some (.inr (b,(i,(j,(h,(d,c))))))
def zm(fu:Nat):Nat->q64|0=>fun _ _ _ _ _ _ _=>none|n+1=>qxa fu (zm fu n)
def qw9(b:Bs)(f:Bs)(a:Bs)(c:Int)(d:List Bs)(e:List Bs):Option qy2:=zm fu fu 0 b f a c d e
def qn2(b:Bs)(d:Bs):Option ((List Bs)):=(qoa b).bind fun f=>(qw9 fu f b d (-1) [] []).bind fun c=>ck c (fun e=>some e.2.2.2.2) (fun a=>bif decide (0<=a.2.2.2.1) then bif decide (0<=a.2.2.2.1/\a.2.2.2.1<=(a.2.1.length:Int)) then bif decide (List.length (a.2.2.2.2.2++([List.drop a.2.2.2.1.toNat a.2.1]:List Bs))<=a8) then some (a.2.2.2.2.2++([List.drop a.2.2.2.1.toNat a.2.1]:List Bs)) else none else none else some a.2.2.2.2.2)
def zl(c:List (Bs×Bs))(e:Bs)(b:Int):Option ((List Bs)):=(qn0 fu c).bind fun a=>bif !a.2 then some [] else bif decide (8<=b) then some [] else(qn2 fu e a.1).bind fun d=>some d
def qn1(a:wU×Int):Option Int:=(qhp fu a.1.val.1).bind fun c=>(ew c).bind fun f=>bif f then some c.1 else bif decide (0<(a.1.kids.length:Int)) then(qod fu (Tree.node a.1.val a.1.kids)).bind fun d=>some d else bif decide (12000<(a.1.val.2.length:Int)) then some 1 else(qcf fu a.1.val.2).bind fun b=>bif b != 0 then some b else(zl fu a.1.val.1 a.1.val.2 a.2).bind fun e=>bif decide (0<(e.length:Int)) then some 5 else some 0
def qw1(c:Int)(h:List (Bs×Bs))(b:Bs)(e:List wU)(f:Int)(g:Int×Int):Option (((Int×Int)) ⊕ ((Int×Int))):=(qn1 fu ((Tree.node (h,b) e),f)).bind fun a=>bif a != 0 then(cw a c).bind fun d=>some (.inl d) else some (.inr g)
abbrev qo1:=(Int×(Int×Int)) ⊕ (Int×(Int×Int))
abbrev qsm:=wU->Int->Int->(Int×Int)->Option qo1
abbrev q4f:=Int->(List wU)->Int->Int->Int->(Int×Int)->Option qo1
def qw4(c:qsm)(fu:Nat)(l:q4f):q4f:=fun i b d a e f=>bif decide (a<d) then(am b a).bind fun g=>(c (Tree.node g.val g.kids) (af (i+1)) e f).bind fun k=>ck k (fun j=>some (.inl j)) (fun h=>l i b d (af (a+1)) h.1 h.2) else some (.inr (e,f))
def qik(a:qsm)(fu:Nat):Nat->q4f|0=>fun _ _ _ _ _ _=>none|n+1=>qw4 a fu (qik a fu n)
def qn6(b:qsm)(fu:Nat)(a:Tree (wV×Bs))(d:Int)(c:Int)(f:Int×Int):Option qo1:=(qw1 fu c a.val.1 a.val.2 a.kids d f).bind fun h=>ck h (fun e=>some (.inl (c,e))) (fun g=>qik b fu fu d a.kids (a.kids.length:Int) 0 (af (c+1)) g)
def qcz(fu:Nat):Nat->qsm|0=>fun _ _ _ _=>none|n+1=>qn6 (qcz fu n) fu
def q7q(a:Tree (wV×Bs))(d:Int)(c:Int)(b:Int×Int):Option qo1:=qcz fu fu a d c b
abbrev zld:=(wU×(Int×Int)) ⊕ (wU×(Int×Int))
def qn7(a:Tree (wV×Bs))(e:Int×Int):Option zld:=(q7q fu (Tree.node a.val a.kids) 0 0 e).bind fun c=>ck c (fun b=>some (.inl ((Tree.node a.val a.kids),b.2))) (fun d=>some (.inr ((Tree.node a.val a.kids),d.2)))
def qcv(a:Tree (wV×Bs)):Option ((Int×Int)):=(qn3 (Tree.node a.val a.kids)).bind fun e=>(qn4 fu (Tree.node e.val e.kids) (0,0) false).bind fun g=>ck g (fun j=>some j.2.1) (fun c=>bif c.2.2 then(cw 2 (-2)).bind fun f=>some f else(qn3 (Tree.node a.val a.kids)).bind fun d=>(qn7 fu (Tree.node d.val d.kids) c.2.1).bind fun i=>ck i (fun h=>some h.2) (fun k=>(gq).bind fun b=>some b))
abbrev q4h:=Bs->wV->Int->Int->Int->Int->(List Bs)->Bs->Option (Bs)
abbrev qla:=Bs->wV->Int->Int->Bs->Option (Bs)
def q75(fu:Nat)(j:qla)(k:q4h):q4h:=fun i f e g d a c b=>bif decide (a<d) then bif decide (0<=a/\a.toNat<c.length) then(c[a.toNat]?).bind fun h=>bif decide (List.length (b++h)<=a8) then bif decide (List.length ((b++h)++([13,10]:Bs))<=a8) then k i f e g d (af (a+1)) c ((b++h)++([13,10]:Bs)) else none else none else none else j i f e (af (g+1)) b
def qxh(fu:Nat)(a:qla):Nat->q4h|0=>fun _ _ _ _ _ _ _ _=>none|n+1=>q75 fu a (qxh fu a n)
def q74(h:qla):qla:=fun e d c b a=>bif decide (b<c) then(am d b).bind fun f=>(zb fu f.1 f.2).bind fun g=>qxh fu h fu e d c b (g.2.length:Int) 0 g.2 a else bif decide (List.length (a++([13,10]:Bs))<=a8) then bif decide (List.length ((a++([13,10]:Bs))++e)<=a8) then some ((a++([13,10]:Bs))++e) else none else none
def qxg(fu:Nat):Nat->qla|0=>fun _ _ _ _ _=>none|n+1=>q74 fu (qxg fu n)
def q73(a:List (Bs×Bs))(b:Bs):Option (Bs):=qxg fu fu b a (a.length:Int) 0 []
abbrev qo2:=wV×Bs
abbrev xx:=wU->Option qo2
def q7u(a:xx)(fu:Nat)(b:Tree (wV×Bs)):Option (Bs):=(a (Tree.node b.val b.kids)).bind fun c=>(q73 fu c.1 c.2).bind fun d=>some d
abbrev q4i:=(List wU)->Int->Int->(List Bs)->Option ((List Bs))
def q71(b:xx)(fu:Nat)(h:q4i):q4i:=fun g d c a=>bif decide (c<d) then(am g c).bind fun e=>(q7u b fu (Tree.node e.val e.kids)).bind fun f=>bif decide (List.length (a++([f]:List Bs))<=a8) then h g d (af (c+1)) (a++([f]:List Bs)) else none else some a
def qxd(a:xx)(fu:Nat):Nat->q4i|0=>fun _ _ _ _=>none|n+1=>q71 a fu (qxd a fu n)
def q70(a:xx)(fu:Nat)(b:List wU):Option ((List Bs)):=qxd a fu fu b (b.length:Int) 0 []
def q7f(b:Bs)(a:Bs):Option Bool:=bif decide ((a.length:Int)<=(b.length:Int)) then bif decide (0<=(a.length:Int)/\(a.length:Int)<=(b.length:Int)) then some ((List.take (a.length:Int).toNat b)==a) else none else some false
def q8b(b:Bs)(a:Bs):Option Bool:=(q7f b a).bind fun c=>some c
abbrev zle:=(Bs×Bool) ⊕ (Bs×Bool)
def qw5(e:Int)(d:Bs)(a:Bs)(b:Bool):Option zle:=bif decide (List.length ([45,45]:Bs)+a.length<=ar) then(q8b d (([45,45]:Bs)++a)).bind fun c=>bif c then some (.inl (a,true)) else some (.inr (a,b)) else none
abbrev q8x:=(Bs×Bs×Bool) ⊕ (Bs×Bs×Bool)
abbrev q4j:=Int->Bs->Bs->Bool->Option q8x
def q7x(fu:Nat)(h:q4j):q4j:=fun a b e d=>bif decide (a<(b.length:Int)) then bif decide (0<=a/\a<=(b.length:Int)) then bif decide (0<List.length ([13,10]:Bs)) then(tr (List.drop a.toNat b) ([13,10]:Bs)).bind fun c=>bif decide (0<=c) then bif decide (0<=a/\a<=af (a+c)/\af (a+c)<=(b.length:Int)) then(qw5 a (List.take ((af (a+c)).toNat-a.toNat) (List.drop a.toNat b)) e d).bind fun k=>ck k (fun l=>some (.inl (b,l))) (fun g=>h (af ((af (a+c))+2)) b g.1 g.2) else none else bif decide (0<=a/\a<=(b.length:Int)/\(b.length:Int)<=(b.length:Int)) then(qw5 a (List.take ((b.length:Int).toNat-a.toNat) (List.drop a.toNat b)) e d).bind fun i=>ck i (fun j=>some (.inl (b,j))) (fun f=>h (b.length:Int) b f.1 f.2) else none else none else none else some (.inr (b,(e,d)))
def qxb(fu:Nat):Nat->q4j|0=>fun _ _ _ _=>none|n+1=>q7x fu (qxb fu n)
def q7w(a:Bs)(c:Bs)(b:Bool):Option q8x:=qxb fu fu 0 a c b
def q7s(b:Bs)(e:Bs):Option (Bool×Bs):=(qoa b).bind fun f=>(q7w fu f e false).bind fun d=>ck d (fun a=>some (a.2.2,a.2.1)) (fun c=>some (false,c.2.1))
abbrev q4l:=(List Bs)->Int->Int->Bs->Option (Int×Bs)
def q8a(g:q4l):q4l:=fun e d a c=>bif decide (a<d) then(am e a).bind fun f=>(q7s fu f c).bind fun b=>bif b.1 then some (a,b.2) else g e d (af (a+1)) b.2 else some ((-1),c)
def qxn(fu:Nat):Nat->q4l|0=>fun _ _ _ _=>none|n+1=>q8a fu (qxn fu n)
def q79(a:List Bs)(b:Bs):Option (Int×Bs):=qxn fu fu a (a.length:Int) 0 b
def q76(c:List Bs)(b:Bs):Option (Bool×Bs):=(q79 fu c b).bind fun a=>some (decide (0<=a.1),a.2)
abbrev q4m:=(List Bs)->Int->Option (Bs)
def q7t(e:q4m):q4m:=fun c b=>(tw b).bind fun d=>bif decide (List.length ([98]:Bs)+d.length<=ar) then(q76 fu c (([98]:Bs)++d)).bind fun a=>bif !a.1 then some a.2 else e c (af (b+1)) else none
def qw6(fu:Nat):Nat->q4m|0=>fun _ _=>none|n+1=>q7t fu (qw6 fu n)
def q7r(a:List Bs):Option (Bs):=qw6 fu fu a 0
abbrev q4n:=Bs->Int->Int->wV->(List Bs)->Bs->Option qo2
def q7v(h:xx)(fu:Nat)(i:q4n):q4n:=fun b e c f d a=>bif decide (c<e) then bif decide (0<=c/\c.toNat<d.length) then(d[c.toNat]?).bind fun g=>bif decide (List.length ([45,45]:Bs)+b.length<=ar) then bif decide (List.length (([45,45]:Bs)++b)+List.length ([13,10]:Bs)<=ar) then bif decide (List.length (a++((([45,45]:Bs)++b)++([13,10]:Bs)))<=a8) then bif decide (List.length ((a++((([45,45]:Bs)++b)++([13,10]:Bs)))++g)<=a8) then bif decide (List.length (((a++((([45,45]:Bs)++b)++([13,10]:Bs)))++g)++([13,10]:Bs))<=a8) then i b e (af (c+1)) f d (((a++((([45,45]:Bs)++b)++([13,10]:Bs)))++g)++([13,10]:Bs)) else none else none else none else none else none else none else bif decide (List.length ([45,45]:Bs)+b.length<=ar) then bif decide (List.length (([45,45]:Bs)++b)+List.length ([45,45,13,10]:Bs)<=ar) then bif decide (List.length (a++((([45,45]:Bs)++b)++([45,45,13,10]:Bs)))<=a8) then some (f,a++((([45,45]:Bs)++b)++([45,45,13,10]:Bs))) else none else none else none
def qn8(a:xx)(fu:Nat):Nat->q4n|0=>fun _ _ _ _ _ _=>none|n+1=>q7v a fu (qn8 a fu n)
def qw7(a:xx)(fu:Nat)(d:Tree (wV×Bs)):Option qo2:=bif(d.kids.length:Int)==0 then some d.val else(q70 a fu d.kids).bind fun h=>(q7r fu h).bind fun e=>(zj fu d.val.1).bind fun m=>ck m (fun f=>(cz []).bind fun l=>bif decide (List.length (l++([(([98,111,117,110,100,97,114,121]:Bs),e)]:List (Bs×Bs)))<=a8) then(cz d.val.1).bind fun k=>(vp fu (f.1,(f.2.1,l++([(([98,111,117,110,100,97,114,121]:Bs),e)]:List (Bs×Bs))))).bind fun o=>bif decide (0<=f.2.2.1/\f.2.2.1.toNat<k.length) then(k[f.2.2.1.toNat]?).bind fun p=>qn8 a fu fu e (h.length:Int) 0 (List.set k f.2.2.1.toNat (p.1,o.1)) h [] else none else none) (fun b=>(cz b.2.2.2.2).bind fun g=>bif decide (List.length (g++([(([98,111,117,110,100,97,114,121]:Bs),e)]:List (Bs×Bs)))<=a8) then(cz d.val.1).bind fun c=>(vp fu (b.1,(b.2.1,g++([(([98,111,117,110,100,97,114,121]:Bs),e)]:List (Bs×Bs))))).bind fun j=>bif decide (0<=b.2.2.1/\b.2.2.1.toNat<c.length) then(c[b.2.2.1.toNat]?).bind fun i=>qn8 a fu fu e (h.length:Int) 0 (List.set c b.2.2.1.toNat (i.1,j.1)) h [] else none else none)
def qw8(fu:Nat):Nat->xx|0=>fun _=>none|n+1=>qw7 (qw8 fu n) fu
def zkx(a:Tree (wV×Bs)):Option qo2:=qw8 fu fu a
abbrev q4o:=wV->Int->Int->Int->Int->(wV×Bs)->(List Bs)->Bs->Option (Bs)
abbrev qlb:=wV->Int->Int->(wV×Bs)->Bs->Option (Bs)
def qwv(fu:Nat)(j:qlb)(k:q4o):q4o:=fun d g f e a h c b=>bif decide (a<e) then bif decide (0<=a/\a.toNat<c.length) then(c[a.toNat]?).bind fun i=>bif decide (List.length (b++i)<=a8) then bif decide (List.length ((b++i)++([13,10]:Bs))<=a8) then k d g f e (af (a+1)) h c ((b++i)++([13,10]:Bs)) else none else none else none else j d g (af (f+1)) h b
def qct(fu:Nat)(a:qlb):Nat->q4o|0=>fun _ _ _ _ _ _ _ _=>none|n+1=>qwv fu a (qct fu a n)
def qwu(h:qlb):qlb:=fun d e b c a=>bif decide (b<e) then(am d b).bind fun f=>(zb fu f.1 f.2).bind fun g=>qct fu h fu d e b (g.2.length:Int) 0 c g.2 a else bif decide (List.length (a++([13,10]:Bs))<=a8) then bif decide (List.length ((a++([13,10]:Bs))++c.2)<=a8) then some ((a++([13,10]:Bs))++c.2) else none else none
def zi(fu:Nat):Nat->qlb|0=>fun _ _ _ _ _=>none|n+1=>qwu fu (zi fu n)
def qwt(a:wV×Bs):Option (Bs):=zi fu fu a.1 (a.1.length:Int) 0 a []
def qny(d:Bs):Option ((Int×Int)):=(qcf fu d).bind fun a=>bif a==11 then(cw 11 (-5)).bind fun e=>some e else bif a==1 then(cw 1 (-6)).bind fun b=>some b else(gq).bind fun c=>some c
def qif(a:wV×Bs):Option ((Int×Int)):=(qhp fu a.1).bind fun b=>(ew b).bind fun f=>bif f then some b else(qwt fu a).bind fun c=>bif decide (12000<(c.length:Int)) then(cw 1 (-4)).bind fun e=>some e else(qny fu a.2).bind fun d=>some d
abbrev zk7:=(wV×Bs)×(Int×Int)
def q7m(a:Tree (wV×Bs)):Option zk7:=(qcv fu (Tree.node a.val a.kids)).bind fun f=>(ew f).bind fun h=>bif h then some (([],[]),f) else(zkx fu (Tree.node a.val a.kids)).bind fun b=>(cz b.1).bind fun d=>(cz b.2).bind fun c=>(qif fu (d,c)).bind fun e=>(ew e).bind fun j=>bif j then(cw e.1 (-3)).bind fun g=>some (([],[]),g) else(gq).bind fun i=>some ((d,c),i)
def qcw(a:Bs×Bs):Option Bool:=(ld fu a.1 ([98,111,117,110,100,97,114,121]:Bs)).bind fun b=>some b
abbrev q4r:=wV->Int->Int->Option Int
def qxm(f:q4r):q4r:=fun c b a=>bif decide (a<b) then(am c a).bind fun d=>(qcw fu d).bind fun e=>bif e then some a else f c b (af (a+1)) else some (-1)
def qc0(fu:Nat):Nat->q4r|0=>fun _ _ _=>none|n+1=>qxm fu (qc0 fu n)
def qoh(a:List (Bs×Bs)):Option Int:=qc0 fu fu a (a.length:Int) 0
abbrev q4s:=wV->Int->Int->Option (wV)
def q78(f:q4s):q4s:=fun a b c=>bif decide (c<(a.length:Int)) then(am a c).bind fun d=>(qcw fu d).bind fun e=>bif !e then(am a b).bind fun g=>none else f a b (af (c+1)) else bif decide (0<=b/\b<=(a.length:Int)) then none else none
def qxi(fu:Nat):Nat->q4s|0=>fun _ _ _=>none|n+1=>q78 fu (qxi fu n)
def q77(a:List (Bs×Bs)):Option (wV):=(qoh fu a).bind fun b=>bif b==(-1) then some a else qxi fu fu a b (af (b+1))
abbrev q4t:=Int->Int->wV->Option (wV)
def qxj(d:q4t):q4t:=fun b c a=>bif decide (c<(a.length:Int)) then bif decide (0<=c/\c.toNat<a.length) then(a[c.toNat]?).bind fun e=>(qcw fu e).bind fun f=>bif !f then bif decide (0<=b/\b.toNat<a.length) then(a[b.toNat]?).bind fun g=>d (af (b+1)) (af (c+1)) (List.set a b.toNat e) else none else d b (af (c+1)) a else none else bif decide (0<=b/\b.toNat<a.length) then bif decide (0<=b/\b<=(List.length (List.take b.toNat a++List.replicate (a.length-b.toNat) (([]:Bs),([]:Bs))):Int)) then some (List.take b.toNat (List.take b.toNat a++List.replicate (a.length-b.toNat) (([]:Bs),([]:Bs)))) else none else none
def qim(fu:Nat):Nat->q4t|0=>fun _ _ _=>none|n+1=>qxj fu (qim fu n)
def qog(a:List (Bs×Bs)):Option (wV):=(qoh fu a).bind fun b=>bif b==(-1) then some a else qim fu fu b (af (b+1)) a
abbrev zk9:=Bool×wV
def qih(f:List (Bs×Bs)):Option zk9:=(zj fu f).bind fun o=>ck o (fun c=>(q77 fu []).bind fun j=>(vp fu (c.1,(c.2.1,j))).bind fun i=>(ew i.2).bind fun k=>bif k then some (false,[]) else(cz f).bind fun g=>bif decide (0<=c.2.2.1/\c.2.2.1.toNat<g.length) then(g[c.2.2.1.toNat]?).bind fun l=>some (true,List.set g c.2.2.1.toNat (l.1,i.1)) else none) (fun b=>(qog fu b.2.2.2.2).bind fun m=>(vp fu (b.1,(b.2.1,m))).bind fun d=>(ew d.2).bind fun h=>bif h then some (false,[]) else(cz f).bind fun a=>bif decide (0<=b.2.2.1/\b.2.2.1.toNat<a.length) then(a[b.2.2.1.toNat]?).bind fun e=>some (true,List.set a b.2.2.1.toNat (e.1,d.1)) else none)
def qne(b:Bs)(a:UInt8):Option Int:=(vn b a).bind fun c=>some c
def qv1(a:Bs)(b:Bs):Option Bool:=some (a==b)
def qv2(a:Bs)(b:Bs):Option Bool:=bif decide ((b.length:Int)<=(a.length:Int)) then bif decide (0<=af ((a.length:Int)-(b.length:Int))/\af ((a.length:Int)-(b.length:Int))<=(a.length:Int)) then(qv1 (List.drop (af ((a.length:Int)-(b.length:Int))).toNat a) b).bind fun c=>some c else none else some false
def qnf(a:Bs)(b:Bs):Option (Bs):=(qv2 a b).bind fun c=>bif c then bif decide (0<=af ((a.length:Int)-(b.length:Int))/\af ((a.length:Int)-(b.length:Int))<=(a.length:Int)) then some (List.take (af ((a.length:Int)-(b.length:Int))).toNat a) else none else some a
def qno(a:Bs):Option (Bs×Int):=(qne a 10).bind fun b=>bif decide (b<0) then some (a,(a.length:Int)) else bif decide (0<=b/\b<=(a.length:Int)) then bif decide (0<List.length ([13]:Bs)) then(qnf (List.take b.toNat a) ([13]:Bs)).bind fun c=>some (c,af (b+1)) else none else none
def qnp(a:Bs):Option Bool:=(zb fu a ([]:Bs)).bind fun c=>(ew c.1).bind fun b=>some (!b)
def qnn(d:Bs):Option ((Bs×Bs)×Bool):=(tx d ([58]:Bs)).bind fun a=>(qiw fu a.1 ([32,9]:Bs)).bind fun b=>bif a.2.2 then(qnp fu b).bind fun c=>some ((b,a.2.1),c) else some ((b,a.2.1),false)
abbrev z08:=Bs->Bs->Option (Bs)
abbrev z07:=Bs->Bs->Bool->Option (Bs)
abbrev z06:=Bs->Bs->Option (Bs)
abbrev z05:=Bs->Bs->Bool->Option (Bs)
def qx8:z08:=fun d b=>(qc2 fu b).bind fun a=>bif decide (a.1.length=List.length (List.replicate 256 false))&&decide (a.1.length=256) then bif a.2 then(qi3 fu d a.1).bind fun c=>(qi1 fu c.1 c.2).bind fun e=>some e.1 else(qyl fu d b).bind fun g=>(qyg fu g b).bind fun f=>some f else none
def qow:z07:=fun c a b=>bif b then(am a 0).bind fun d=>(qyj fu c d).bind fun g=>(am a 0).bind fun e=>(qye fu g e).bind fun f=>some f else qx8 fu c a
def qx7:z06:=fun b a=>bif(a.length:Int)==1 then(am a 0).bind fun c=>qow fu b a (decide (c<128)) else qow fu b a false
def qov:z05:=fun b c a=>bif a then some b else qx7 fu b c
def qiv(a:Bs)(b:Bs):Option (Bs):=bif a==([]:Bs) then qov fu a b true else qov fu a b (b==([]:Bs))
abbrev zz:=Int×(Int×Int)×wV
abbrev q4w:=Int->Int->Int->(Int×Int)->wV->Int->Int->Int->Bs->Option zz
abbrev q4v:=Int->Int->(Int×Int)->Int->Int->Int->(List Bs)->wV->Option zz
abbrev z1g:=Int->(Int×Int)->wV->Option zz
abbrev z1i:=Bs->Int->Bs->Int->(Int×Int)->wV->Option zz
abbrev z1h:=Bs->Int->Bs->Int->Bool->(Int×Int)->wV->Option zz
abbrev qld:=Bs->Int->(Int×Int)->wV->Option zz
def qv8(o:q4w):q4w:=fun k f a i b c e d h=>bif decide (a<f) then bif decide (0<=a/\a.toNat<b.length) then(b[a.toNat]?).bind fun p=>(zp fu p.2 c e d h).bind fun g=>(qiv fu g.1 ([32,9]:Bs)).bind fun j=>bif decide (4000<(j.length:Int)) then(cw 1 a).bind fun q=>some (0,(q,[])) else bif decide (0<=a/\a.toNat<b.length) then(b[a.toNat]?).bind fun m=>o k f (af (a+1)) i (List.set b a.toNat (m.1,j)) g.2.1 g.2.2.1 g.2.2.2.1 g.2.2.2.2 else none else none else(gq).bind fun l=>some (k,(l,b))
def qho(fu:Nat):Nat->q4w|0=>fun _ _ _ _ _ _ _ _ _=>none|n+1=>qv8 fu (qho fu n)
def qhn(p:q4v):q4v:=fun j e h d b c g a=>bif decide (0<e) then bif decide (0<=(0:Int)/\(0:Int).toNat<a.length) then(a[(0:Int).toNat]?).bind fun k=>(zo fu k.2 d b c g).bind fun f=>(qiv fu f.1 ([32,9]:Bs)).bind fun i=>bif decide (4000<(i.length:Int)) then(cw 1 0).bind fun l=>some (0,(l,[])) else bif decide (0<=(0:Int)/\(0:Int).toNat<a.length) then(a[(0:Int).toNat]?).bind fun o=>qho fu fu j e 1 h (List.set a ((0:Int).toNat) (o.1,i)) f.2.1 f.2.2.1 f.2.2.2.1 f.2.2.2.2 else none else none else(gq).bind fun m=>some (j,(m,a))
def vo(fu:Nat):Nat->q4v|0=>fun _ _ _ _ _ _ _ _=>none|n+1=>qhn fu (vo fu n)
def qcj:z1g:=fun d c a=>bif decide (60<(a.length:Int)) then(cw 2 (-2)).bind fun e=>some (0,(e,[])) else(qiu ([([0]:Bs),([32]:Bs),([13]:Bs),([32]:Bs)]:List Bs)).bind fun b=>vo fu fu d (a.length:Int) c b.1 b.2.1 b.2.2.1 b.2.2.2 a
def qnm(e:qld):z1i:=fun h d f g b a=>(qnn fu f).bind fun c=>bif !c.2 then qcj fu d b a else bif decide (List.length (a++([c.1]:List (Bs×Bs)))<=a8) then e h (af (d+g)) b (a++([c.1]:List (Bs×Bs))) else none
def ze(e:qld):z1h:=fun i g d h c b a=>bif c then bif decide (0<=af ((a.length:Int)-1)/\(af ((a.length:Int)-1)).toNat<a.length) then(a[(af ((a.length:Int)-1)).toNat]?).bind fun f=>bif decide (f.2.length+d.length<=ar) then bif decide (0<=af ((a.length:Int)-1)/\(af ((a.length:Int)-1)).toNat<a.length) then(a[(af ((a.length:Int)-1)).toNat]?).bind fun j=>e i (af (g+h)) b (List.set a ((af ((a.length:Int)-1)).toNat) (j.1,f.2++d)) else none else none else none else qnm fu e i g d h b a
def qv7(f:qld):qld:=fun e c b a=>bif decide (c<(e.length:Int)) then bif decide (0<=c/\c<=(e.length:Int)) then(qno (List.drop c.toNat e)).bind fun d=>bif d.1==([]:Bs) then qcj fu (af (c+d.2)) b a else(am d.1 0).bind fun g=>(vm g).bind fun h=>bif h then ze fu f e c d.1 d.2 (decide (0<(a.length:Int))) b a else ze fu f e c d.1 d.2 false b a else none else qcj fu c b a
def zd(fu:Nat):Nat->qld|0=>fun _ _ _ _=>none|n+1=>qv7 fu (zd fu n)
def qnl(a:Bs):Option zz:=bif decide (12000<(a.length:Int)) then(cw 1 (-1)).bind fun b=>some (0,(b,[])) else zd fu fu a 0 (0,0) []
abbrev qo3:=wU×Bool×(Int×Int×Int)
abbrev qe9:=Bs->Int->(Int×Int×Int)->Option qo3
abbrev q80:=wU×Bool×(Int×Int×Int)
abbrev q4x:=Int->Int->Int->(Int×Int×Int)->(List Bs)->wV->(List wU)->Option q80
def qxe(c:qe9)(fu:Nat)(k:q4x):q4x:=fun h f a i d g b=>bif decide (a<f) then bif decide (0<=a/\a.toNat<d.length) then(d[a.toNat]?).bind fun j=>(c j (af (h+1)) i).bind fun e=>bif !e.2.1 then some ((Tree.node ([],[]) []),(false,e.2.2)) else bif decide (List.length (b++([(Tree.node e.1.val e.1.kids)]:List wU))<=a8) then k h f (af (a+1)) e.2.2 d g (b++([(Tree.node e.1.val e.1.kids)]:List wU)) else none else none else some ((Tree.node (g,[]) b),(true,i))
def zn(a:qe9)(fu:Nat):Nat->q4x|0=>fun _ _ _ _ _ _ _=>none|n+1=>qxe a fu (zn a fu n)
def vy(a:qe9)(fu:Nat)(f:Bs)(h:Int)(b:Int×Int×Int)(d:List (Bs×Bs)):Option q80:=(cz d).bind fun i=>(cz f).bind fun g=>(zl fu d f h).bind fun c=>bif(c.length:Int)==0 then some ((Tree.node (i,g) []),(true,(af (b.1+1),b.2))) else(qih fu d).bind fun e=>bif !e.1 then some ((Tree.node (i,g) []),(true,(af (b.1+1),b.2))) else zn a fu fu h (c.length:Int) 0 (af (b.1+1),b.2) c e.2 []
def qoc(a:qe9)(fu:Nat)(e:Bs)(i:Int)(c:Int×Int×Int):Option qo3:=(qnl fu e).bind fun b=>(ew b.2.1).bind fun h=>bif h then(cw b.2.1.1 (-8)).bind fun f=>some ((Tree.node ([],[]) []),(false,(c.1,f))) else bif c.1==40 then(cw 2 (-7)).bind fun g=>some ((Tree.node ([],[]) []),(false,(c.1,g))) else bif decide (0<=b.1/\b.1<=(e.length:Int)) then(vy a fu (List.drop b.1.toNat e) i c b.2.2).bind fun d=>some ((Tree.node d.1.val d.1.kids),d.2) else none
def tv(fu:Nat):Nat->qe9|0=>fun _ _ _=>none|n+1=>qoc (tv fu n) fu
def zky(a:Bs)(c:Int)(b:Int×Int×Int):Option qo3:=tv fu fu a c b
abbrev q8z:=wU×Bool×(Int×Int×Int)
abbrev q4y:=Int->Int->Int->(Int×Int×Int)->(List Bs)->wV->(List wU)->Option q8z
def q72(j:q4y):q4y:=fun g e a h c f b=>bif decide (a<e) then bif decide (0<=a/\a.toNat<c.length) then(c[a.toNat]?).bind fun i=>(zky fu i (af (g+1)) h).bind fun d=>bif !d.2.1 then some ((Tree.node ([],[]) []),(false,d.2.2)) else bif decide (List.length (b++([(Tree.node d.1.val d.1.kids)]:List wU))<=a8) then j g e (af (a+1)) d.2.2 c f (b++([(Tree.node d.1.val d.1.kids)]:List wU)) else none else none else some ((Tree.node (f,[]) b),(true,h))
def qil(fu:Nat):Nat->q4y|0=>fun _ _ _ _ _ _ _=>none|n+1=>q72 fu (qil fu n)
def qob(c:List (Bs×Bs))(g:Bs)(d:Int)(a:Int×Int×Int):Option q8z:=(cz c).bind fun h=>(cz g).bind fun f=>(zl fu c g d).bind fun b=>bif(b.length:Int)==0 then some ((Tree.node (h,f) []),(true,(af (a.1+1),a.2))) else(qih fu c).bind fun e=>bif !e.1 then some ((Tree.node (h,f) []),(true,(af (a.1+1),a.2))) else qil fu fu d (b.length:Int) 0 (af (a.1+1),a.2) b e.2 []
abbrev zk8:=wU×(Int×Int)
def qig(b:wV×Bs):Option zk8:=(qif fu b).bind fun d=>(ew d).bind fun g=>bif g then some ((Tree.node ([],[]) []),d) else(qob fu b.1 b.2 0 (0,(0,0))).bind fun a=>bif !a.2.1 then some ((Tree.node ([],[]) []),a.2.2.2) else(qcv fu (Tree.node a.1.val a.1.kids)).bind fun c=>(ew c).bind fun e=>bif e then(cw c.1 (-9)).bind fun f=>some ((Tree.node ([],[]) []),f) else(gq).bind fun h=>some ((Tree.node a.1.val a.1.kids),h)
abbrev qy0:=wU
abbrev qle:=wU->Option qy0
abbrev q8y:=(List wU)
abbrev q4z:=(List wU)->Int->Int->(List wU)->Option q8y
def q7z(c:qle)(fu:Nat)(h:q4z):q4z:=fun g e b a=>bif decide (b<e) then(am g b).bind fun f=>(c (Tree.node f.val f.kids)).bind fun d=>bif decide (List.length (a++([(Tree.node d.val d.kids)]:List wU))<=a8) then h g e (af (b+1)) (a++([(Tree.node d.val d.kids)]:List wU)) else none else some a
def qxc(a:qle)(fu:Nat):Nat->q4z|0=>fun _ _ _ _=>none|n+1=>q7z a fu (qxc a fu n)
def q7y(a:qle)(fu:Nat)(b:List wU):Option q8y:=qxc a fu fu b (b.length:Int) 0 []
def qww(a:qle)(fu:Nat)(b:Tree (wV×Bs)):Option qy0:=(cz b.val.1).bind fun e=>(cz b.val.2).bind fun d=>(q7y a fu b.kids).bind fun c=>some (Tree.node (e,d) c)
def qwx(fu:Nat):Nat->qle|0=>fun _=>none|n+1=>qww (qwx fu n) fu
def zkw(a:Tree (wV×Bs)):Option qy0:=qwx fu fu a
abbrev qy1:=wU×(Int×Int)
abbrev z13:=Int->Int->Int->Int->Bool->wU->(Int×Int)->(List Int)->Option qy1
abbrev qss:=Int->Int->wU->(Int×Int)->(List Int)->Option qy1
def qwz(fu:Nat)(h:qss):z13:=fun i j f d a e b c=>bif a then(cw 3 i).bind fun k=>some ((Tree.node ([],[]) []),k) else(am e.kids j).bind fun g=>h f (af (d+1)) (Tree.node g.val g.kids) b c
def q7o(g:qss):qss:=fun d a b e c=>bif decide (a<d) then bif decide (0<=a/\a.toNat<c.length) then(c[a.toNat]?).bind fun f=>bif decide (f<0) then qwz fu g a f d a true (Tree.node b.val b.kids) e c else qwz fu g a f d a (decide ((b.kids.length:Int)<=f)) (Tree.node b.val b.kids) e c else none else(zkw fu (Tree.node b.val b.kids)).bind fun h=>(gq).bind fun i=>some ((Tree.node h.val h.kids),i)
def qwy(fu:Nat):Nat->qss|0=>fun _ _ _ _ _=>none|n+1=>q7o fu (qwy fu n)
def q7n(a:Tree (wV×Bs))(c:List Int):Option qy1:=(qcv fu (Tree.node a.val a.kids)).bind fun b=>(ew b).bind fun d=>bif d then some ((Tree.node ([],[]) []),b) else qwy fu fu (c.length:Int) 0 (Tree.node a.val a.kids) (0,0) c
abbrev q40:=wV->wV->Int->Option Bool
def qun(fu:Nat)(f:q40):q40:=fun b d a=>bif decide (a<(b.length:Int)) then(am b a).bind fun c=>(am d a).bind fun e=>bif !((c.1==e.1)&&((c.2==e.2)&&true)) then some false else f b d (af (a+1)) else some true
def qgf(fu:Nat):Nat->q40|0=>fun _ _ _=>none|n+1=>qun fu (qgf fu n)
def qms(a:List (Bs×Bs))(b:List (Bs×Bs)):Option Bool:=bif(a.length:Int) != (b.length:Int) then some false else qgf fu fu a b 0
def ql7(a:Bs)(b:Bs):Option Bool:=some (a==b)
abbrev qfa:=wU->wU->Option Bool
abbrev q41:=Int->wU->wU->Option Bool
abbrev z2h:=wU->wU->Option Bool
abbrev z2g:=Bool->wU->wU->Option Bool
def qvi(b:qfa)(fu:Nat)(h:q41):q41:=fun d a c=>bif decide (d<(a.kids.length:Int)) then(am a.kids d).bind fun e=>(am c.kids d).bind fun f=>(b (Tree.node e.val e.kids) (Tree.node f.val f.kids)).bind fun g=>bif !g then some false else h (af (d+1)) (Tree.node a.val a.kids) (Tree.node c.val c.kids) else some true
def qg6(a:qfa)(fu:Nat):Nat->q41|0=>fun _ _ _=>none|n+1=>qvi a fu (qg6 a fu n)
def qvj(a:qfa)(fu:Nat):z2h:=fun c b=>qg6 a fu fu 0 (Tree.node c.val c.kids) (Tree.node b.val b.kids)
def qg5(a:qfa)(fu:Nat):z2g:=fun d c b=>bif d then some false else qvj a fu (Tree.node c.val c.kids) (Tree.node b.val b.kids)
def qm8(a:qfa)(fu:Nat)(b:Tree (wV×Bs))(c:Tree (wV×Bs)):Option Bool:=(qms fu b.val.1 c.val.1).bind fun e=>bif !e then qg5 a fu true (Tree.node b.val b.kids) (Tree.node c.val c.kids) else(ql7 b.val.2 c.val.2).bind fun d=>bif !d then qg5 a fu true (Tree.node b.val b.kids) (Tree.node c.val c.kids) else qg5 a fu ((b.kids.length:Int) != (c.kids.length:Int)) (Tree.node b.val b.kids) (Tree.node c.val c.kids)
def qcc(fu:Nat):Nat->qfa|0=>fun _ _=>none|n+1=>qm8 (qcc fu n) fu
def qm7(a:Tree (wV×Bs))(b:Tree (wV×Bs)):Option Bool:=qcc fu fu a b
def qvs:Option Bool:=(qvr).bind fun e=>(q7m fu (Tree.node e.val e.kids)).bind fun b=>(qig fu b.1).bind fun a=>(q7n fu (Tree.node a.1.val a.1.kids) ([1]:List Int)).bind fun c=>bif b.2.1==0 then bif a.2.1==0 then bif c.2.1==0 then bif(b.1.1.length:Int)==1 then(am b.1.1 0).bind fun f=>bif f.2==([109,117,108,116,105,112,97,114,116,47,109,105,120,101,100,59,32,98,111,117,110,100,97,114,121,61,98,48]:Bs) then bif b.1.2==([45,45,98,48,13,10,13,10,97,13,10,45,45,98,48,13,10,13,10,98,13,10,13,10,45,45,98,48,45,45,13,10]:Bs) then(qvr).bind fun d=>(qm7 fu (Tree.node a.1.val a.1.kids) (Tree.node d.val d.kids)).bind fun g=>bif g then some (c.1.val.2==([98,13,10]:Bs)) else some false else some false else some false else some false else some false else some false else some false
abbrev qoy:=(List wU)×(List Int)
abbrev qsu:=wU->Int->Option qoy
abbrev q42:=Int->Int->wU->(List wU)->(List Int)->Option qoy
def qvb(d:qsu)(fu:Nat)(i:q42):q42:=fun h f a c b=>bif decide (f<(a.kids.length:Int)) then(am a.kids f).bind fun g=>(d (Tree.node g.val g.kids) (af (h+1))).bind fun e=>bif decide (List.length (c++e.1)<=a8) then bif decide (List.length (b++e.2)<=a8) then i h (af (f+1)) (Tree.node a.val a.kids) (c++e.1) (b++e.2) else none else none else some (c,b)
def qg1(a:qsu)(fu:Nat):Nat->q42|0=>fun _ _ _ _ _=>none|n+1=>qvb a fu (qg1 a fu n)
def qm2(a:qsu)(fu:Nat)(b:Tree (wV×Bs))(c:Int):Option qoy:=qg1 a fu fu c 0 (Tree.node b.val b.kids) ([(Tree.node b.val b.kids)]:List wU) ([c]:List Int)
def qb9(fu:Nat):Nat->qsu|0=>fun _ _=>none|n+1=>qm2 (qb9 fu n) fu
def q69(a:Tree (wV×Bs))(b:Int):Option qoy:=qb9 fu fu a b
def ef(a:Int)(b:Int):Option ((Int×Int)):=some (a,b)
def fq(a:Int)(c:Int)(b:Int):Option Bool:=bif decide (c<=a) then some (decide (a<=b)) else some false
abbrev q43:=Bs->Int->Option Bool
def qtt(fu:Nat)(g:q43):q43:=fun a b=>bif decide (b<(a.length:Int)) then(am a b).bind fun c=>(fq (c.toNat:Int) 33 126).bind fun f=>bif !f then some false else(am a b).bind fun d=>bif d==58 then some false else g a (af (b+1)) else(fq (a.length:Int) 1 60).bind fun e=>some e
def qfp(fu:Nat):Nat->q43|0=>fun _ _=>none|n+1=>qtt fu (qfp fu n)
def qfo(a:Bs):Option Bool:=qfp fu fu a 0
abbrev q45:=UInt8->Bs->Int->Option Bool
def qmj(fu:Nat)(e:q45):q45:=fun c b a=>bif decide (a<(b.length:Int)) then(am b a).bind fun d=>bif d==c then some true else e c b (af (a+1)) else some false
def qbw(fu:Nat):Nat->q45|0=>fun _ _ _=>none|n+1=>qmj fu (qbw fu n)
def vh(a:UInt8)(b:Bs):Option Bool:=qbw fu fu a b 0
def o5(a:UInt8):Option Bool:=bif a==32 then some true else some (a==9)
abbrev z3h:=Bs->Option (Bs)
abbrev q48:=Bs->Option (Bs)
abbrev z3g:=Bs->Bool->Option (Bs)
abbrev qlg:=Bs->Option (Bs)
def qus(fu:Nat)(b:qlg):z3h:=fun a=>bif decide (0<=(1:Int)/\1<=(a.length:Int)) then b (List.drop (1:Int).toNat a) else none
def qur(fu:Nat)(b:q48):q48:=fun a=>bif decide (0<(a.length:Int)) then(am a (af ((a.length:Int)-1))).bind fun c=>(o5 c).bind fun d=>bif d then bif decide (0<=af ((a.length:Int)-1)/\af ((a.length:Int)-1)<=(a.length:Int)) then b (List.take (af ((a.length:Int)-1)).toNat a) else none else some a else some a
def qgj(fu:Nat):Nat->q48|0=>fun _=>none|n+1=>qur fu (qgj fu n)
def qgi(c:qlg):z3g:=fun b a=>bif a then qus fu c b else qgj fu fu b
def quq(b:qlg):qlg:=fun a=>bif decide (0<(a.length:Int)) then(am a 0).bind fun c=>(o5 c).bind fun d=>qgi fu b a d else qgi fu b a false
def qgh(fu:Nat):Nat->qlg|0=>fun _=>none|n+1=>quq fu (qgh fu n)
def qmt(a:Bs):Option (Bs):=qgh fu fu a
abbrev q49:=Bs->Int->Option Int
def qts(f:q49):q49:=fun a b=>bif decide (b<(a.length:Int)) then(am a b).bind fun d=>(vh fu d ([13,10,0]:Bs)).bind fun e=>bif e then some 11 else f a (af (b+1)) else(qmt fu a).bind fun c=>bif !(c==a) then some 11 else some 0
def qbk(fu:Nat):Nat->q49|0=>fun _ _=>none|n+1=>qts fu (qbk fu n)
def qfn(b:Bs)(a:Bs):Option Int:=(qfo fu b).bind fun c=>bif !c then some 10 else bif decide (4000<(a.length:Int)) then some 1 else qbk fu fu a 0
abbrev z3u:=Bs->Int->(List Int)->Option ((List Bs))
abbrev z3t:=Bs->Int->Bool->(List Int)->Option ((List Bs))
abbrev z3w:=Bs->Int->Int->Int->(List Int)->(List Bs)->Option ((List Bs))
abbrev z3v:=Bs->Int->Int->Int->Int->Bool->(List Int)->(List Bs)->Option ((List Bs))
abbrev qli:=Bs->Int->Int->Int->(List Int)->(List Bs)->Option ((List Bs))
abbrev qbe:=Bs->Int->(List Int)->(List Bs)->Option ((List Bs))
abbrev qlh:=Bs->Int->(List Int)->Option ((List Bs))
def qmd(fu:Nat)(c:qlh):z3u:=fun b d a=>c b (af (d+1)) a
def qmc(e:qlh):z3t:=fun d b c a=>bif c then bif decide (List.length (a++([b]:List Int))<=a8) then qmd fu e d b (a++([b]:List Int)) else none else qmd fu e d b a
def qme(fu:Nat)(h:qbe)(g:qli):z3w:=fun f e d b a c=>g f e d (af (b+1)) a c
def qfu(j:qbe)(i:qli):z3v:=fun h g f b e d a c=>bif d then qme fu j i h g e b a c else qme fu j i h g f b a c
def qtw(h:qbe)(i:qli):qli:=fun f d a c b e=>bif decide (c<(b.length:Int)) then bif decide (0<=c/\c.toNat<b.length) then(b[c.toNat]?).bind fun g=>bif decide (d<g) then bif decide ((af (g-d))<=78) then qfu fu h i f d a c g true b e else qfu fu h i f d a c g (decide (a<0)) b e else qfu fu h i f d a c g false b e else none else bif decide (a<0) then bif decide (0<=d/\d<=(f.length:Int)) then bif decide (List.length (e++([List.drop d.toNat f]:List Bs))<=a8) then some (e++([List.drop d.toNat f]:List Bs)) else none else none else bif decide (0<=d/\d<=a/\a<=(f.length:Int)) then bif decide (List.length (e++([List.take (a.toNat-d.toNat) (List.drop d.toNat f)]:List Bs))<=a8) then h f a b (e++([List.take (a.toNat-d.toNat) (List.drop d.toNat f)]:List Bs)) else none else none
def yi(fu:Nat)(a:qbe):Nat->qli|0=>fun _ _ _ _ _ _=>none|n+1=>qtw fu a (yi fu a n)
def qmb(e:qbe):qbe:=fun c b d a=>bif decide (78<(af ((c.length:Int)-b))) then yi fu e fu c b (-1) 0 d a else bif decide (0<=b/\b<=(c.length:Int)) then bif decide (List.length (a++([List.drop b.toNat c]:List Bs))<=a8) then some (a++([List.drop b.toNat c]:List Bs)) else none else none
def tl(fu:Nat):Nat->qbe|0=>fun _ _ _ _=>none|n+1=>qmb fu (tl fu n)
def qma(d:qlh):qlh:=fun b c a=>bif decide (c<(b.length:Int)) then(am b c).bind fun e=>(o5 e).bind fun h=>bif h then(am b (af (c-1))).bind fun f=>(o5 f).bind fun g=>qmc fu d b c (!g) a else qmc fu d b c false a else tl fu fu b 0 a []
def qbl(fu:Nat):Nat->qlh|0=>fun _ _ _=>none|n+1=>qma fu (qbl fu n)
def qft(a:Bs)(b:Bs):Option ((List Bs)):=bif decide (a.length+List.length ([58,32]:Bs)<=ar) then bif decide (List.length (a++([58,32]:Bs))+b.length<=ar) then qbl fu fu ((a++([58,32]:Bs))++b) (af ((a.length:Int)+3)) [] else none else none
abbrev q5a:=Int->(Int×Int)->(List Bs)->Option ((Int×Int))
def qtv(fu:Nat)(d:q5a):q5a:=fun b c a=>bif decide (b<(a.length:Int)) then bif decide (0<=b/\b.toNat<a.length) then(a[b.toNat]?).bind fun e=>bif decide (998<(e.length:Int)) then(ef 1 b).bind fun f=>some f else d (af (b+1)) c a else none else some (0,0)
def qfs(fu:Nat):Nat->q5a|0=>fun _ _ _=>none|n+1=>qtv fu (qfs fu n)
def ql9(a:Bs)(b:Bs):Option ((Int×Int)):=(qfn fu a b).bind fun f=>bif f != 0 then(qfn fu a b).bind fun e=>(ef e (-1)).bind fun c=>some c else(qft fu a b).bind fun d=>qfs fu fu 0 (0,0) d
abbrev q5b:=wV->Int->(Int×Int)->Option ((Int×Int))
def qtu(e:q5b):q5b:=fun b a c=>bif decide (a<(b.length:Int)) then(am b a).bind fun f=>(am b a).bind fun h=>(ql9 fu f.1 h.2).bind fun d=>bif d.1 != 0 then(ef d.1 a).bind fun g=>some g else e b (af (a+1)) c else some (0,0)
def qfr(fu:Nat):Nat->q5b|0=>fun _ _ _=>none|n+1=>qtu fu (qfr fu n)
def qfq(a:List (Bs×Bs)):Option ((Int×Int)):=bif decide (60<(a.length:Int)) then(ef 2 (-1)).bind fun b=>some b else qfr fu fu a 0 (0,0)
abbrev q5d:=Int->Bs->Option (Bs)
def qmg(fu:Nat)(c:q5d):q5d:=fun b a=>bif decide (b<(a.length:Int)) then bif decide (0<=b/\b.toNat<a.length) then(a[b.toNat]?).bind fun d=>(fq (d.toNat:Int) 65 90).bind fun e=>bif e then bif decide (0<=b/\b.toNat<a.length) then(a[b.toNat]?).bind fun f=>bif decide (0<=b/\b.toNat<a.length) then(a[b.toNat]?).bind fun g=>c (af (b+1)) (List.set a b.toNat (f+32)) else none else none else c (af (b+1)) a else none else some a
def qbo(fu:Nat):Nat->q5d|0=>fun _ _=>none|n+1=>qmg fu (qbo fu n)
def ve(a:Bs):Option (Bs):=bif decide (a.length<=maxLen) then qbo fu fu 0 a else none
def jc(b:Bs)(a:Bs):Option Bool:=(ve fu b).bind fun d=>(ve fu a).bind fun c=>some (d==c)
abbrev q5e:=wV->Bs->Int->(List Bs)->Option ((List Bs))
def qux(e:q5e):q5e:=fun c d b a=>bif decide (b<(c.length:Int)) then(am c b).bind fun g=>(jc fu g.1 d).bind fun h=>bif h then(am c b).bind fun f=>bif decide (List.length (a++([f.2]:List Bs))<=a8) then e c d (af (b+1)) (a++([f.2]:List Bs)) else none else e c d (af (b+1)) a else some a
def qb4(fu:Nat):Nat->q5e|0=>fun _ _ _ _=>none|n+1=>qux fu (qb4 fu n)
def qmu(a:List (Bs×Bs))(b:Bs):Option ((List Bs)):=qb4 fu fu a b 0 []
abbrev q5f:=Bs->Int->Option Int
def qu3(fu:Nat)(e:q5f):q5f:=fun b a=>bif decide (a<(b.length:Int)) then(am b a).bind fun c=>(o5 c).bind fun d=>bif d then e b (af (a+1)) else some a else some a
def qgt(fu:Nat):Nat->q5f|0=>fun _ _=>none|n+1=>qu3 fu (qgt fu n)
def qx(a:Bs)(b:Int):Option Int:=qgt fu fu a b
def qb3(a:UInt8):Option Bool:=(fq (a.toNat:Int) 33 126).bind fun c=>bif c then(vh fu a ([40,41,60,62,64,44,59,58,92,34,47,91,93,63,61,42,37,39]:Bs)).bind fun b=>some (!b) else some false
abbrev q5i:=Bs->Int->Bs->Option Int
def qu2(d:q5i):q5i:=fun b a c=>bif decide (a<(b.length:Int)) then(am b a).bind fun e=>(qb3 fu e).bind fun h=>bif h then d b (af (a+1)) c else(am b a).bind fun f=>(vh fu f c).bind fun g=>bif g then d b (af (a+1)) c else some a else some a
def qgs(fu:Nat):Nat->q5i|0=>fun _ _ _=>none|n+1=>qu2 fu (qgs fu n)
def qb6(a:Bs)(c:Int)(b:Bs):Option Int:=qgs fu fu a c b
abbrev q5j:=Bs->Bs->Int->Option Int
def ql8(fu:Nat)(d:q5j):q5j:=fun c b a=>bif decide ((af (a+(b.length:Int)))<=(c.length:Int)) then bif decide (0<=a/\a<=af (a+(b.length:Int))/\af (a+(b.length:Int))<=(c.length:Int)) then bif(List.take ((af (a+(b.length:Int))).toNat-a.toNat) (List.drop a.toNat c))==b then some a else d c b (af (a+1)) else none else some (-1)
def yh(fu:Nat):Nat->q5j|0=>fun _ _ _=>none|n+1=>ql8 fu (yh fu n)
def vd(a:Bs)(c:Bs)(b:Int):Option Int:=yh fu fu a c b
abbrev z4r:=Bs->Int->Int->Int->Int->Option Int
abbrev z4q:=Bs->Int->Int->Int->Int->Bool->Option Int
abbrev qlk:=Bs->Int->Int->Int->Int->Option Int
def qu0(fu:Nat)(g:qlk):z4r:=fun b e d f a=>(am b a).bind fun c=>g b e d (af ((af (10*f))+((c-48).toNat:Int))) (af (a+1))
def qgp(f:qlk):z4q:=fun g c b d e a=>bif a then some (-1) else qu0 fu f g c b d e
def quz(f:qlk):qlk:=fun b d c e a=>bif decide (a<(b.length:Int)) then(am b a).bind fun h=>(fq (h.toNat:Int) 48 57).bind fun i=>bif !i then qgp fu f b d c e a true else qgp fu f b d c e a (decide (9<=a)) else(fq (b.length:Int) d c).bind fun g=>bif !g then some (-1) else some e
def qgo(fu:Nat):Nat->qlk|0=>fun _ _ _ _ _=>none|n+1=>quz fu (qgo fu n)
def qgn(a:Bs)(c:Int)(b:Int):Option Int:=qgo fu fu a c b 0 0
abbrev ziv:=Int->Option (Bs)
def qmv(b:ziv)(fu:Nat)(a:Int):Option (Bs):=bif decide (a<10) then bif decide (0<=a/\a<=IntKind.u64.wrap (a+1)/\IntKind.u64.wrap (a+1)<=(List.length ([48,49,50,51,52,53,54,55,56,57]:Bs):Int)) then some (List.take ((IntKind.u64.wrap (a+1)).toNat-a.toNat) (List.drop a.toNat ([48,49,50,51,52,53,54,55,56,57]:Bs))) else none else(b (IntKind.u64.wrap (Int.tdiv a 10))).bind fun c=>bif decide (0<=Int.tmod a 10/\Int.tmod a 10<=IntKind.u64.wrap ((Int.tmod a 10)+1)/\IntKind.u64.wrap ((Int.tmod a 10)+1)<=(List.length ([48,49,50,51,52,53,54,55,56,57]:Bs):Int)) then bif decide (c.length+List.length (List.take ((IntKind.u64.wrap ((Int.tmod a 10)+1)).toNat-(Int.tmod a 10).toNat) (List.drop (Int.tmod a 10).toNat ([48,49,50,51,52,53,54,55,56,57]:Bs)))<=ar) then some (c++(List.take ((IntKind.u64.wrap ((Int.tmod a 10)+1)).toNat-(Int.tmod a 10).toNat) (List.drop (Int.tmod a 10).toNat ([48,49,50,51,52,53,54,55,56,57]:Bs)))) else none else none
def qgm(fu:Nat):Nat->ziv|0=>fun _=>none|n+1=>qmv (qgm fu n) fu
def quy(a:Int):Option (Bs):=qgm fu fu a
def vg(a:Int):Option (Bs):=bif decide (a<0) then(quy fu (IntKind.u64.wrap ((IntKind.u64.wrap (af (0-(af (a+1)))))+1))).bind fun b=>bif decide (List.length ([45]:Bs)+b.length<=ar) then some (([45]:Bs)++b) else none else(quy fu (IntKind.u64.wrap (a))).bind fun c=>some c
abbrev qyy:=(Bs×Bs×Int×Bool)×Bool
abbrev z42:=Bs->(Bs×Bs×Int×Bool)->(Bs×Bs×Int×Bool)->Option qyy
abbrev z41:=Bs->Bool->(Bs×Bs×Int×Bool)->(Bs×Bs×Int×Bool)->Option qyy
def qb5:z42:=fun c e a=>(qgn fu c 1 9).bind fun b=>bif !(a.1==([]:Bs)) then bif decide (0<=b) then(vg fu b).bind fun d=>some ((a.1,(a.2.1,(b,a.2.2.2))),d==c) else some ((a.1,(a.2.1,(b,a.2.2.2))),false) else some ((a.1,(a.2.1,(b,a.2.2.2))),false)
def qgq:z41:=fun b d c a=>bif d then bif decide (0<=af ((b.length:Int)-1)/\af ((b.length:Int)-1)<=(b.length:Int)) then qb5 fu (List.take (af ((b.length:Int)-1)).toNat b) c (a.1,(a.2.1,(a.2.2.1,true))) else none else qb5 fu b c a
def qmw(a:Bs)(c:Bs):Option qyy:=(vd fu a ([42]:Bs) 0).bind fun b=>bif decide (b<0) then some ((a,(c,((-1),false))),!(a==([]:Bs))) else bif decide (0<=af (b+1)/\af (b+1)<=(a.length:Int)) then bif decide (0<=b/\b<=(a.length:Int)) then bif decide (0<(List.length (List.drop (af (b+1)).toNat a):Int)) then(am (List.drop (af (b+1)).toNat a) (af ((List.length (List.drop (af (b+1)).toNat a):Int)-1))).bind fun d=>qgq fu (List.drop (af (b+1)).toNat a) (d==42) (([]:Bs),(([]:Bs),(0,false))) (List.take b.toNat a,(c,((-1),false))) else qgq fu (List.drop (af (b+1)).toNat a) false (([]:Bs),(([]:Bs),(0,false))) (List.take b.toNat a,(c,((-1),false))) else none else none
abbrev q5l:=Bs->Int->Int->Int->Int->Int->Option (Int×Int)
abbrev z5c:=Bs->Int->Int->Int->Int->Option (Int×Int)
abbrev z5b:=Bs->Int->Int->Int->Int->Bool->Option (Int×Int)
abbrev z5a:=Bs->Int->Int->Int->Int->Option (Int×Int)
def qmr(fu:Nat)(i:q5l):q5l:=fun g f c b d a=>bif decide (a<c) then(am g (af (f+a))).bind fun e=>(fq (e.toNat:Int) 128 191).bind fun j=>bif !j then some ((-1),1) else i g f c (af ((af ((af (64*b))+(e.toNat:Int)))-128)) d (af (a+1)) else bif decide (b<d) then some ((-1),1) else bif decide (1114111<b) then some ((-1),1) else(fq b 55296 57343).bind fun h=>bif h then some ((-1),1) else some (b,c)
def tn(fu:Nat):Nat->q5l|0=>fun _ _ _ _ _ _=>none|n+1=>qmr fu (tn fu n)
def q68:z5c:=fun e b c d a=>tn fu fu e b c d a 1
def qge:z5b:=fun f c d e b a=>bif a then some ((-1),1) else q68 fu f c d e b
def tm:z5a:=fun c b a e d=>bif a==0 then qge fu c b a e d true else qge fu c b a e d (decide ((c.length:Int)<(af (b+a))))
def qgd(c:Bs)(b:Int):Option (Int×Int):=(am c b).bind fun a=>bif decide ((a.toNat:Int)<128) then some ((a.toNat:Int),1) else(fq (a.toNat:Int) 192 223).bind fun e=>bif e then tm fu c b 2 (af ((a.toNat:Int)-192)) 128 else(fq (a.toNat:Int) 224 239).bind fun d=>bif d then tm fu c b 3 (af ((a.toNat:Int)-224)) 2048 else(fq (a.toNat:Int) 240 247).bind fun f=>bif f then tm fu c b 4 (af ((a.toNat:Int)-240)) 65536 else tm fu c b 0 0 0
abbrev z5i:=Int->Option (Bs)
abbrev z5h:=Int->Bool->Option (Bs)
def quv:z5i:=fun a=>bif decide (a<128) then some ([gn a]:Bs) else bif decide (a<2048) then some ([gn (af (192+(af (Int.tdiv a 64)))),gn (af (128+(Int.tmod a 64)))]:Bs) else bif decide (a<65536) then some ([gn (af (224+(af (Int.tdiv a 4096)))),gn (af (128+(Int.tmod (af (Int.tdiv a 64)) 64))),gn (af (128+(Int.tmod a 64)))]:Bs) else some ([gn (af (240+(af (Int.tdiv a 262144)))),gn (af (128+(Int.tmod (af (Int.tdiv a 4096)) 64))),gn (af (128+(Int.tmod (af (Int.tdiv a 64)) 64))),gn (af (128+(Int.tmod a 64)))]:Bs)
def quu:z5h:=fun b a=>bif a then quv 65533 else quv b
def qut(a:Int):Option (Bs):=(fq a 0 1114111).bind fun c=>bif !c then quu a true else(fq a 55296 57343).bind fun b=>quu a b
abbrev q5n:=Bs->Bs->Bool->Int->Option (Bs)
def qu1(e:q5n):q5n:=fun c d g a=>bif decide (a<(c.length:Int)) then(qgd fu c a).bind fun b=>bif decide (0<=b.1) then bif decide (0<=a/\a<=af (a+b.2)/\af (a+b.2)<=(c.length:Int)) then bif decide (d.length+List.length (List.take ((af (a+b.2)).toNat-a.toNat) (List.drop a.toNat c))<=ar) then e c (d++(List.take ((af (a+b.2)).toNat-a.toNat) (List.drop a.toNat c))) (decide (b.1<0)) (af (a+b.2)) else none else none else bif !g then(qut (-1)).bind fun f=>bif decide (d.length+f.length<=ar) then e c (d++f) (decide (b.1<0)) (af (a+b.2)) else none else e c d (decide (b.1<0)) (af (a+b.2)) else some d
def qgr(fu:Nat):Nat->q5n|0=>fun _ _ _ _=>none|n+1=>qu1 fu (qgr fu n)
def qmx(a:Bs):Option (Bs):=qgr fu fu a ([]:Bs) false 0
abbrev q5o:=UInt8->Int->Option Int
def qmf(f:q5o):q5o:=fun b a=>bif decide (a<16) then(am ([48,49,50,51,52,53,54,55,56,57,65,66,67,68,69,70]:Bs) a).bind fun c=>bif c==b then some a else(ve fu ([48,49,50,51,52,53,54,55,56,57,65,66,67,68,69,70]:Bs)).bind fun e=>(am e a).bind fun d=>bif d==b then some a else f b (af (a+1)) else some (-1)
def qbn(fu:Nat):Nat->q5o|0=>fun _ _=>none|n+1=>qmf fu (qbn fu n)
def yl(a:UInt8):Option Int:=qbn fu fu a 0
abbrev z56:=Bs->Bs->Int->Bool->Option (Bs)
abbrev qsw:=Bs->Bs->Int->Option (Bs)
def vk(g:qsw):z56:=fun b c a d=>bif d then(am b (af (a+1))).bind fun h=>(yl fu h).bind fun f=>(am b (af (a+2))).bind fun i=>(yl fu i).bind fun e=>bif decide (c.length+List.length ([gn (af ((af (16*f))+e))]:Bs)<=ar) then g b (c++([gn (af ((af (16*f))+e))]:Bs)) (af ((af (a+2))+1)) else none else bif decide (0<=a/\a<=af (a+1)/\af (a+1)<=(b.length:Int)) then bif decide (c.length+List.length (List.take ((af (a+1)).toNat-a.toNat) (List.drop a.toNat b))<=ar) then g b (c++(List.take ((af (a+1)).toNat-a.toNat) (List.drop a.toNat b))) (af (a+1)) else none else none
def qu4(d:qsw):qsw:=fun b c a=>bif decide (a<(b.length:Int)) then(am b a).bind fun g=>bif g==37 then bif decide ((af (a+2))<(b.length:Int)) then(am b (af (a+1))).bind fun e=>(yl fu e).bind fun f=>bif decide (0<=f) then(am b (af (a+2))).bind fun i=>(yl fu i).bind fun h=>vk fu d b c a (decide (0<=h)) else vk fu d b c a false else vk fu d b c a false else vk fu d b c a false else some c
def qb7(fu:Nat):Nat->qsw|0=>fun _ _ _=>none|n+1=>qu4 fu (qb7 fu n)
def qmy(a:Bs):Option (Bs):=qb7 fu fu a ([]:Bs) 0
abbrev eg:=(Bs×Bs×wV)×Bool
abbrev z64:=Bs->Int->Bs->Bs->Bs->Bs->Bs->Bs->(List (Bs×Bs×Int×Bool))->Option eg
abbrev z62:=Bs->Int->Bs->Bs->Bool->Bs->Bs->Bs->Bs->(List (Bs×Bs×Int×Bool))->Option eg
abbrev z61:=Bs->Int->Bs->Bs->Bs->Bs->Bs->Bs->(List (Bs×Bs×Int×Bool))->Option eg
abbrev z6y:=Bs->Int->Bs->Bs->Bs->Bs->Bs->Bs->(List (Bs×Bs×Int×Bool))->Option eg
abbrev z6z:=Bs->Int->Bs->Bs->Bool->Bs->Bs->Bs->Bs->(List (Bs×Bs×Int×Bool))->Option eg
abbrev qbf:=Bs->Int->Bs->Bs->Bs->Bs->Bs->Bs->(List (Bs×Bs×Int×Bool))->Option eg
abbrev z7e:=Bs->Int->Bs->Bs->Bool->Bs->Bs->Bs->Bs->(List (Bs×Bs×Int×Bool))->Option eg
abbrev z7d:=Bs->Int->Bs->Bs->Bs->Bs->Bs->(List (Bs×Bs×Int×Bool))->Option eg
abbrev z7c:=Bs->Int->Bs->Bool->Bs->Bs->Bs->Bs->(List (Bs×Bs×Int×Bool))->Option eg
abbrev z63:=Int->Bool->Int->Bs->Bs->Bs->Bs->(List (Bs×Bs×Int×Bool))->wV->Option eg
abbrev z60:=Int->Bool->Int->Int->Bs->Bs->Bs->Bs->(List (Bs×Bs×Int×Bool))->wV->Option eg
abbrev z67:=Int->Int->Bs->Int->Int->Int->Bs->Bs->Bs->Bs->(List (Bs×Bs×Int×Bool))->wV->Option eg
abbrev z65:=Int->Int->Bs->Int->Int->Int->Bool->Bs->Bs->Bs->Bs->(List (Bs×Bs×Int×Bool))->wV->Option eg
abbrev z7b:=Int->Int->Bs->Int->Bs->Bs->Bs->Bs->(List (Bs×Bs×Int×Bool))->wV->Option eg
abbrev z69:=Int->Int->Bs->Int->Bs->Bs->Bs->Bs->Bs->(List (Bs×Bs×Int×Bool))->wV->Option eg
abbrev z7a:=Int->Int->Bs->Int->Bs->Bs->Bs->Bs->Bs->(List (Bs×Bs×Int×Bool))->wV->Option eg
abbrev z68:=Int->Int->Bs->Int->Bs->Bool->Bs->Bs->Bs->Bs->(List (Bs×Bs×Int×Bool))->wV->Option eg
abbrev qln:=Int->Int->Bs->Int->Int->Int->Bs->Bs->Bs->Bs->(List (Bs×Bs×Int×Bool))->wV->Option eg
abbrev me:=Int->Int->Bs->Int->Bs->Bs->Bs->Bs->(List (Bs×Bs×Int×Bool))->wV->Option eg
abbrev qsy:=Int->Bool->Int->Int->Bs->Bs->Bs->Bs->(List (Bs×Bs×Int×Bool))->wV->Option eg
abbrev qsx:=Int->Bool->Int->Bs->Bs->Bs->Bs->(List (Bs×Bs×Int×Bool))->wV->Option eg
abbrev ig:=Int->Bs->Bs->Bs->Bs->(List (Bs×Bs×Int×Bool))->wV->Option eg
abbrev kw:=Bs->Int->Bs->Bs->Bs->Bs->(List (Bs×Bs×Int×Bool))->Option eg
abbrev z6x:=Bs->Int->Bs->Bs->Bs->Bs->Option eg
abbrev z6w:=Bs->Int->Bool->Bs->Bs->Bs->Bs->Option eg
def qfz(fu:Nat)(k:kw)(i:qbf):z64:=fun f a j h b c e d g=>bif decide (0<=a/\a<=af (a+1)/\af (a+1)<=(f.length:Int)) then bif decide (h.length+List.length (List.take ((af (a+1)).toNat-a.toNat) (List.drop a.toNat f))<=ar) then i f (af (a+1)) j (h++(List.take ((af (a+1)).toNat-a.toNat) (List.drop a.toNat f))) b c e d g else none else none
def qbs(j:kw)(h:qbf):z62:=fun l i k g f a b d c e=>bif f then qfz fu j h l (af (i+1)) k g a b d c e else qfz fu j h l i k g a b d c e
def qt8(j:kw)(i:qbf):z61:=fun g f k h a b d c e=>(am g f).bind fun l=>bif l==92 then qbs fu j i g f k h (decide ((af (f+1))<(g.length:Int))) a b d c e else qbs fu j i g f k h false a b d c e
def yu(k:kw):z6y:=fun g i l h a b d c e=>(qmw fu l h).bind fun f=>bif !f.2 then some ((([]:Bs),(([]:Bs),[])),false) else bif decide (List.length (e++([f.1]:List (Bs×Bs×Int×Bool)))<=a8) then(qx fu g i).bind fun j=>k g j a b d c (e++([f.1]:List (Bs×Bs×Int×Bool))) else none
def qbr(j:kw)(l:qbf):z6z:=fun h g k i f a b d c e=>bif f then qt8 fu j l h g k i a b d c e else bif g==(h.length:Int) then some ((([]:Bs),(([]:Bs),[])),false) else yu fu j h (af (g+1)) k i a b d c e
def qmi(j:kw)(i:qbf):qbf:=fun g f k h a b d c e=>bif decide (f<(g.length:Int)) then(am g f).bind fun l=>qbr fu j i g f k h (l != 34) a b d c e else qbr fu j i g f k h false a b d c e
def vf(fu:Nat)(a:kw):Nat->qbf|0=>fun _ _ _ _ _ _ _ _ _=>none|n+1=>qmi fu a (vf fu a n)
def qf4(j:kw):z7e:=fun h e k l f a b d c g=>bif f then vf fu j fu h (af (e+1)) k l a b d c g else(qb6 fu h e ([37,39,42]:Bs)).bind fun i=>bif decide (0<=e/\e<=i/\i<=(h.length:Int)) then yu fu j h i k (List.take (i.toNat-e.toNat) (List.drop e.toNat h)) a b d c g else none
def qua(h:kw):z7d:=fun f k i a b d c e=>(qx fu f (af (k+1))).bind fun g=>bif decide (g<(f.length:Int)) then(am f g).bind fun j=>qf4 fu h f g i ([]:Bs) (j==34) a b d c e else qf4 fu h f g i ([]:Bs) false a b d c e
def qf2(h:kw):z7c:=fun j g i e a b d c f=>bif e then some ((([]:Bs),(([]:Bs),[])),false) else qua fu h j g i a b d c f
def qfy(fu:Nat)(k:ig)(j:qsx):z63:=fun h f i a b d c e g=>j h f (af (i+1)) a b d c e g
def qfx(fu:Nat)(l:ig)(k:qsy):z60:=fun i g e j a b d c f h=>k i g e (af (j+1)) a b d c f h
def qbu(fu:Nat)(p:ig)(o:me)(e:qln):z67:=fun l g k m j f a b d c h i=>e l g k m j (af (f+1)) a b d c h i
def qf0(q:ig)(l:me)(f:qln):z65:=fun m h k o p e g a b d c i j=>bif g then qbu fu q l f m h k o e e a b d c i j else qbu fu q l f m h k o p e a b d c i j
def qt9(fu:Nat)(l:ig)(i:me):z7b:=fun j e h k a b d c f g=>i j e h (af (k+1)) a b d c f g
def qbv(m:ig)(j:me):z69:=fun l g e k f b c d a h i=>bif decide (e.length+f.length<=ar) then qt9 fu m j l g (e++f) k b c d a h i else none
def qf1(m:ig)(i:me):z7a:=fun k e h j l b c d a f g=>(qmy fu l).bind fun o=>qbv fu m i k e h j o b c d a f g
def qu(o:ig)(k:me):z68:=fun m f i l e j b c d a g h=>bif j then bif decide (0<=(6:Int)/\6<=(e.length:Int)) then qf1 fu o k m f i l (List.drop (6:Int).toNat e) b c d a g h else none else qf1 fu o k m f i l e b c d a g h
def yq(p:ig)(l:me)(q:qln):qln:=fun h j k i g f e b c d a m=>bif decide (f<(a.length:Int)) then bif decide (0<=h/\h.toNat<a.length) then(a[h.toNat]?).bind fun u=>bif decide (0<=f/\f.toNat<a.length) then(a[f.toNat]?).bind fun s=>(jc fu u.1 s.1).bind fun r=>bif r then bif decide (0<=f/\f.toNat<a.length) then(a[f.toNat]?).bind fun w=>qf0 fu p l q h j k i g f (w.2.2.1==i) e b c d a m else none else qf0 fu p l q h j k i g f false e b c d a m else none else none else bif decide (g<0) then some ((([]:Bs),(([]:Bs),[])),false) else bif decide (0<=g/\g.toNat<a.length) then(a[g.toNat]?).bind fun o=>bif decide (0<=g/\g.toNat<a.length) then(a[g.toNat]?).bind fun v=>bif v.2.2.2 then bif i==0 then bif decide (6<=(o.2.1.length:Int)) then bif decide (0<=(6:Int)/\6<=(o.2.1.length:Int)) then(ve fu (List.take (6:Int).toNat o.2.1)).bind fun t=>qu fu p l h j k i o.2.1 (t==([117,116,102,56,39,39]:Bs)) e b c d a m else none else qu fu p l h j k i o.2.1 false e b c d a m else qu fu p l h j k i o.2.1 false e b c d a m else qbv fu p l h j k i o.2.1 e b c d a m else none else none
def lb(fu:Nat)(b:ig)(a:me):Nat->qln|0=>fun _ _ _ _ _ _ _ _ _ _ _ _=>none|n+1=>yq fu b a (lb fu b a n)
def yp(m:ig)(k:me):me:=fun d h i j a b e c f g=>bif decide (j<h) then lb fu m k fu d h i j (-1) 0 a b e c f g else bif decide (0<=d/\d.toNat<f.length) then(f[d.toNat]?).bind fun l=>(qmx fu i).bind fun o=>bif decide (List.length (g++([(l.1,o)]:List (Bs×Bs)))<=a8) then m (af (d+1)) a b e c f (g++([(l.1,o)]:List (Bs×Bs))) else none else none
def mh(fu:Nat)(a:ig):Nat->me|0=>fun _ _ _ _ _ _ _ _ _ _=>none|n+1=>yp fu a (mh fu a n)
def qbq(k:ig)(m:qsy):qsy:=fun a j i g f c d e b h=>bif decide (g<(b.length:Int)) then bif decide (0<=a/\a.toNat<b.length) then(b[a.toNat]?).bind fun r=>bif decide (0<=g/\g.toNat<b.length) then(b[g.toNat]?).bind fun q=>(jc fu r.1 q.1).bind fun p=>bif p then qfx fu k m a j (af (i+1)) g f c d e b h else qfx fu k m a j i g f c d e b h else none else none else bif j then k (af (a+1)) f c d e b h else bif decide (0<=a/\a.toNat<b.length) then(b[a.toNat]?).bind fun s=>bif decide (s.2.2.1<0) then bif i != 1 then some ((([]:Bs),(([]:Bs),[])),false) else bif decide (0<=a/\a.toNat<b.length) then(b[a.toNat]?).bind fun l=>bif decide (0<=a/\a.toNat<b.length) then(b[a.toNat]?).bind fun o=>bif decide (List.length (h++([(l.1,o.2.1)]:List (Bs×Bs)))<=a8) then k (af (a+1)) f c d e b (h++([(l.1,o.2.1)]:List (Bs×Bs))) else none else none else none else mh fu k fu a i ([]:Bs) 0 f c d e b h else none
def qw(fu:Nat)(a:ig):Nat->qsy|0=>fun _ _ _ _ _ _ _ _ _ _=>none|n+1=>qbq fu a (qw fu a n)
def qt6(j:ig)(k:qsx):qsx:=fun e i g a c f d b h=>bif decide (g<e) then bif i then qfy fu j k e true g a c f d b h else bif decide (0<=e/\e.toNat<b.length) then(b[e.toNat]?).bind fun m=>bif decide (0<=g/\g.toNat<b.length) then(b[g.toNat]?).bind fun o=>(jc fu m.1 o.1).bind fun l=>qfy fu j k e l g a c f d b h else none else none else qw fu j fu e i 0 0 a c f d b h
def qf3(fu:Nat)(a:ig):Nat->qsx|0=>fun _ _ _ _ _ _ _ _ _=>none|n+1=>qt6 fu a (qf3 fu a n)
def qt5(h:ig):ig:=fun g c d b a e f=>bif decide (g<(e.length:Int)) then qf3 fu h fu g false 0 c d b a e f else some ((b,(a,f)),true)
def nv(fu:Nat):Nat->ig|0=>fun _ _ _ _ _ _ _=>none|n+1=>qt5 fu (nv fu n)
def qt4(k:kw):kw:=fun e j a b d c f=>bif decide (j<(e.length:Int)) then(am e j).bind fun l=>bif l != 59 then some ((([]:Bs),(([]:Bs),[])),false) else(qx fu e (af (j+1))).bind fun g=>(qb6 fu e g ([42]:Bs)).bind fun h=>bif decide (0<=g/\g<=h/\h<=(e.length:Int)) then(qx fu e h).bind fun i=>bif i==(e.length:Int) then qf2 fu k e i (List.take (h.toNat-g.toNat) (List.drop g.toNat e)) true a b d c f else(am e i).bind fun m=>qf2 fu k e i (List.take (h.toNat-g.toNat) (List.drop g.toNat e)) (m != 61) a b d c f else none else nv fu fu 0 a b d c f []
def qbt(fu:Nat):Nat->kw|0=>fun _ _ _ _ _ _ _=>none|n+1=>qt4 fu (qbt fu n)
def qt7:z6x:=fun d i a b e g=>(qx fu d (af (i+1))).bind fun c=>(qb6 fu d c ([]:Bs)).bind fun f=>bif decide (0<=c/\c<=f/\f<=(d.length:Int)) then bif(List.take (f.toNat-c.toNat) (List.drop c.toNat d))==([]:Bs) then some ((([]:Bs),(([]:Bs),[])),false) else(qx fu d f).bind fun h=>qbt fu fu d h a b e (List.take (f.toNat-c.toNat) (List.drop c.toNat d)) [] else none
def yt:z6w:=fun g f e a b d c=>bif e then some ((([]:Bs),(([]:Bs),[])),false) else qt7 fu g f a b d c
def qfw(a:Bs):Option eg:=(qx fu a 0).bind fun b=>(qb6 fu a b ([]:Bs)).bind fun c=>bif decide (0<=b/\b<=c/\c<=(a.length:Int)) then(qx fu a c).bind fun d=>bif(List.take (c.toNat-b.toNat) (List.drop b.toNat a))==([]:Bs) then yt fu a d true ([]:Bs) ([]:Bs) (List.take (c.toNat-b.toNat) (List.drop b.toNat a)) ([]:Bs) else bif d==(a.length:Int) then yt fu a d true ([]:Bs) ([]:Bs) (List.take (c.toNat-b.toNat) (List.drop b.toNat a)) ([]:Bs) else(am a d).bind fun e=>yt fu a d (e != 47) ([]:Bs) ([]:Bs) (List.take (c.toNat-b.toNat) (List.drop b.toNat a)) ([]:Bs) else none
abbrev q5r:=Bs->Int->Option Bool
def qup(f:q5r):q5r:=fun a b=>bif decide (b<(a.length:Int)) then(am a b).bind fun d=>(qb3 fu d).bind fun e=>bif !e then some false else f a (af (b+1)) else(fq (a.length:Int) 1 60).bind fun c=>some c
def qgg(fu:Nat):Nat->q5r|0=>fun _ _=>none|n+1=>qup fu (qgg fu n)
def y5(a:Bs):Option Bool:=qgg fu fu a 0
abbrev q5s:=Bs->Int->Option Bool
def quw(d:q5s):q5s:=fun b a=>bif decide (a<(b.length:Int)) then(qgd fu b a).bind fun c=>bif decide (c.1<0) then some false else d b (af (a+c.2)) else some true
def qgl(fu:Nat):Nat->q5s|0=>fun _ _=>none|n+1=>quw fu (qgl fu n)
def qgk(a:Bs):Option Bool:=qgl fu fu a 0
abbrev q5t:=Int->Int->(Bs×Bs×wV)->(Int×Int)->(Bs×Bs)->Option ((Int×Int))
abbrev z7v:=Int->(Bs×Bs×wV)->(Int×Int)->(Bs×Bs)->Option ((Int×Int))
abbrev z7u:=Int->Bool->(Bs×Bs×wV)->(Int×Int)->(Bs×Bs)->Option ((Int×Int))
abbrev yd:=Int->(Bs×Bs×wV)->(Int×Int)->Option ((Int×Int))
abbrev z7t:=(Bs×Bs×wV)->(Int×Int)->Option ((Int×Int))
abbrev z7s:=Bool->(Bs×Bs×wV)->(Int×Int)->Option ((Int×Int))
def qt1(l:yd)(m:q5t):q5t:=fun c e b d a=>bif decide (e<c) then(am b.2.2 e).bind fun g=>(jc fu g.1 a.1).bind fun k=>bif k then(ef 7 c).bind fun f=>some f else m c (af (e+1)) b d a else bif decide (500<(a.2.length:Int)) then(ef 1 c).bind fun i=>some i else(qgk fu a.2).bind fun h=>bif !h then(ef 5 c).bind fun j=>some j else l (af (c+1)) b d
def qfv(fu:Nat)(a:yd):Nat->q5t|0=>fun _ _ _ _ _=>none|n+1=>qt1 fu a (qfv fu a n)
def qt3(d:yd):z7v:=fun e c b a=>qfv fu d fu e 0 c b a
def yn(f:yd):z7u:=fun e a d c b=>bif a then(ef 10 e).bind fun g=>some g else qt3 fu f e d c b
def qt0(e:yd):yd:=fun d a b=>bif decide (d<(a.2.2.length:Int)) then(am a.2.2 d).bind fun c=>(y5 fu c.1).bind fun f=>bif !f then yn fu e d true a b c else yn fu e d (decide (20<(c.1.length:Int))) a b c else some (0,0)
def ym(fu:Nat):Nat->yd|0=>fun _ _ _=>none|n+1=>qt0 fu (ym fu n)
def qt2:z7t:=fun a b=>bif decide (60<(a.2.2.length:Int)) then(ef 2 (-3)).bind fun c=>some c else ym fu fu 0 a b
def qbp:z7s:=fun a c b=>bif a then(ef 10 (-2)).bind fun d=>some d else qt2 fu c b
def qmh(a:Bs×Bs×wV):Option ((Int×Int)):=(y5 fu a.1).bind fun c=>bif !c then qbp fu true a (0,0) else(y5 fu a.2.1).bind fun b=>qbp fu (!b) a (0,0)
abbrev qyz:=(Bs×Bs×wV)×Bool
abbrev z71:=Bs->Bs->(List Bs)->Option qyz
abbrev z7z:=Bool->Bs->Bs->(List Bs)->Option qyz
def qvk:z71:=fun b d a=>bif decide (0<=(0:Int)/\(0:Int).toNat<a.length) then(a[(0:Int).toNat]?).bind fun f=>(qfw fu f).bind fun c=>bif !c.2 then some ((([]:Bs),(([]:Bs),[])),false) else(qmh fu c.1).bind fun e=>bif e.1 != 0 then some ((([]:Bs),(([]:Bs),[])),false) else some (c.1,true) else none
def qm9:z7z:=fun d b a c=>bif d then some ((([]:Bs),(([]:Bs),[])),false) else qvk fu b a c
def qcd(b:List (Bs×Bs)):Option qyz:=(qmu fu b ([99,111,110,116,101,110,116,45,116,121,112,101]:Bs)).bind fun a=>bif(a.length:Int) != 1 then qm9 fu true ([]:Bs) ([]:Bs) a else bif decide (0<=(0:Int)/\(0:Int).toNat<a.length) then(a[(0:Int).toNat]?).bind fun c=>qm9 fu (decide (4000<(c.length:Int))) ([]:Bs) ([]:Bs) a else none
abbrev q5w:=Bs->Int->(Bs×Bs×wV)->Option (Bs×Bool)
def quc(d:q5w):q5w:=fun c b a=>bif decide (b<(a.2.2.length:Int)) then(am a.2.2 b).bind fun e=>(jc fu e.1 c).bind fun f=>bif f then(am a.2.2 b).bind fun g=>some (g.2,true) else d c (af (b+1)) a else some (([]:Bs),false)
def qf7(fu:Nat):Nat->q5w|0=>fun _ _ _=>none|n+1=>quc fu (qf7 fu n)
def qmk(a:Bs×Bs×wV)(b:Bs):Option (Bs×Bool):=qf7 fu fu b 0 a
def qbj(a:Bs)(b:Int):Option Bool:=bif decide ((af (b+1))<(a.length:Int)) then(am a b).bind fun c=>bif c==13 then(am a (af (b+1))).bind fun d=>some (d==10) else some false else some false
abbrev z8d:=Bs->Int->Int->Bool->(Int×Int)->Option ((Int×Int))
abbrev qs0:=Bs->Int->Int->(Int×Int)->Option ((Int×Int))
def qm0(fu:Nat)(e:qs0):z8d:=fun g d c b a=>bif b then(ef 11 (-5)).bind fun h=>some h else bif decide (998<=(af (c-d))) then(ef 1 (-6)).bind fun f=>some f else e g d (af (c+1)) a
def qu7(d:qs0):qs0:=fun c e a b=>bif decide (a<(c.length:Int)) then(qbj c a).bind fun h=>bif h then d c (af ((af (a+1))+1)) (af ((af (a+1))+1)) b else(am c a).bind fun g=>bif g==13 then qm0 fu d c e a true b else(am c a).bind fun f=>qm0 fu d c e a (f==10) b else some (0,0)
def qgx(fu:Nat):Nat->qs0|0=>fun _ _ _ _=>none|n+1=>qu7 fu (qgx fu n)
def qmz(a:Bs):Option ((Int×Int)):=qgx fu fu a 0 0 (0,0)
abbrev q5x:=Bs->Bool->Int->Option (Bs×Bool)
abbrev z8j:=(Bs×Bs×wV)->Option (Bs×Bool)
abbrev z8i:=Bool->(Bs×Bs×wV)->Option (Bs×Bool)
def qu5(fu:Nat)(g:q5x):q5x:=fun a c b=>bif decide (b<(a.length:Int)) then(am a b).bind fun e=>(fq (e.toNat:Int) 32 126).bind fun f=>bif !f then some (([]:Bs),false) else g a c (af (b+1)) else bif c then(fq (a.length:Int) 1 60).bind fun d=>bif d then(am a (af ((a.length:Int)-1))).bind fun h=>some (a,h != 32) else some (a,false) else some (a,false)
def qgw(fu:Nat):Nat->q5x|0=>fun _ _ _=>none|n+1=>qu5 fu (qgw fu n)
def qu6:z8j:=fun a=>(qmk fu a ([98,111,117,110,100,97,114,121]:Bs)).bind fun b=>qgw fu fu b.1 b.2 0
def qgv:z8i:=fun b a=>bif b then some (([]:Bs),false) else qu6 fu a
def qgu(b:List (Bs×Bs)):Option (Bs×Bool):=(qcd fu b).bind fun a=>bif !a.2 then qgv fu true a.1 else(jc fu a.1.1 ([109,117,108,116,105,112,97,114,116]:Bs)).bind fun c=>qgv fu (!c) a.1
abbrev z8t:=Bs->Bs->Int->Option Int
abbrev z8s:=Bs->Bs->Int->Bool->Option Int
abbrev qlo:=Bs->Bs->Int->Option Int
def qve(fu:Nat)(c:qlo):z8t:=fun d b a=>c d b (af (a-1))
def qcb(e:qlo):z8s:=fun c b a d=>bif d then qve fu e c b a else bif decide (0<=a/\a<=(c.length:Int)) then bif decide (List.length ([45,45]:Bs)+b.length<=ar) then bif(List.take a.toNat c)==(([45,45]:Bs)++b) then some 1 else bif decide (0<=a/\a<=(c.length:Int)) then bif decide (List.length ([45,45]:Bs)+b.length<=ar) then bif decide (List.length (([45,45]:Bs)++b)+List.length ([45,45]:Bs)<=ar) then bif(List.take a.toNat c)==((([45,45]:Bs)++b)++([45,45]:Bs)) then some 2 else some 0 else none else none else none else none else none
def qvd(d:qlo):qlo:=fun b c a=>bif decide (0<a) then(am b (af (a-1))).bind fun e=>(o5 e).bind fun f=>qcb fu d b c a f else qcb fu d b c a false
def qca(fu:Nat):Nat->qlo|0=>fun _ _ _=>none|n+1=>qvd fu (qca fu n)
def qvc(a:Bs)(b:Bs):Option Int:=qca fu fu a b (a.length:Int)
abbrev z83:=Bs->Bs->Int->Int->Int->(List Bs)->Option ((List Bs))
abbrev z87:=Bs->Bs->Int->Int->Int->(List Bs)->Option ((List Bs))
abbrev z86:=Bs->Bs->Int->Int->(List Bs)->Option ((List Bs))
abbrev z88:=Bs->Bs->Int->Int->Int->Int->(List Bs)->Option ((List Bs))
abbrev z84:=Bs->Bs->Int->Int->Int->Int->(List Bs)->Option ((List Bs))
abbrev z82:=Bs->Bs->Int->Int->Int->Bool->(List Bs)->Option ((List Bs))
abbrev qlp:=Bs->Bs->Int->Int->Int->(List Bs)->Option ((List Bs))
abbrev ox:=Bs->Bs->Int->Int->(List Bs)->Option ((List Bs))
def qva(fu:Nat)(h:ox)(f:qlp):z83:=fun g b d c e a=>f g b d c (af (e+1)) a
def qb8(fu:Nat)(d:ox):z87:=fun g e f c b a=>bif b==2 then some a else d g e f c a
def y7(d:ox):z86:=fun f e c b a=>qb8 fu d f e c c b a
def y8(g:ox):z88:=fun d h b f e a c=>bif decide (0<=b/\b<=a/\a<=(d.length:Int)) then bif decide (List.length (c++([List.take (a.toNat-b.toNat) (List.drop b.toNat d)]:List Bs))<=a8) then y7 fu g d h f e (c++([List.take (a.toNat-b.toNat) (List.drop b.toNat d)]:List Bs)) else none else none
def qg0(h:ox):z84:=fun d e c b i g a=>bif decide (0<=b/\b<=i/\i<=(d.length:Int)) then(qvc fu (List.take (i.toNat-b.toNat) (List.drop b.toNat d)) e).bind fun f=>bif decide (0<f) then bif decide (0<=c) then bif decide ((af (b-2))<c) then y8 fu h d e c g f c a else y8 fu h d e c g f (af (b-2)) a else y7 fu h d e g f a else qb8 fu h d e c g f a else none
def qgz(d:ox)(i:qlp):z82:=fun c f h g b e a=>bif e then qva fu d i c f h g b a else bif b==(c.length:Int) then qg0 fu d c f h g b b a else qg0 fu d c f h g b (af (b+2)) a
def qu9(d:ox)(h:qlp):qlp:=fun c e g f b a=>bif decide (b<(c.length:Int)) then(qbj c b).bind fun i=>qgz fu d h c e g f b (!i) a else qgz fu d h c e g f b false a
def qgy(fu:Nat)(a:ox):Nat->qlp|0=>fun _ _ _ _ _ _=>none|n+1=>qu9 fu a (qgy fu a n)
def qu8(e:ox):ox:=fun c f b d a=>bif decide (d<(c.length:Int)) then qgy fu e fu c f b d d a else bif decide (0<=b) then bif decide (0<=b/\b<=(c.length:Int)) then bif decide (List.length (a++([List.drop b.toNat c]:List Bs))<=a8) then some (a++([List.drop b.toNat c]:List Bs)) else none else none else some a
def vl(fu:Nat):Nat->ox|0=>fun _ _ _ _ _=>none|n+1=>qu8 fu (vl fu n)
def qm1(a:Bs)(b:Bs):Option ((List Bs)):=vl fu fu a b (-1) 0 []
abbrev z9d:=Bs->Bs->Int->Bool->Option (Bs)
abbrev qs3:=Bs->Bs->Int->Option (Bs)
def yw(fu:Nat)(e:qs3):z9d:=fun b c a d=>bif d then bif decide (c.length+List.length ([92]:Bs)<=ar) then bif decide (0<=a/\a<=af (a+1)/\af (a+1)<=(b.length:Int)) then bif decide (List.length (c++([92]:Bs))+List.length (List.take ((af (a+1)).toNat-a.toNat) (List.drop a.toNat b))<=ar) then e b ((c++([92]:Bs))++(List.take ((af (a+1)).toNat-a.toNat) (List.drop a.toNat b))) (af (a+1)) else none else none else none else bif decide (0<=a/\a<=af (a+1)/\af (a+1)<=(b.length:Int)) then bif decide (c.length+List.length (List.take ((af (a+1)).toNat-a.toNat) (List.drop a.toNat b))<=ar) then e b (c++(List.take ((af (a+1)).toNat-a.toNat) (List.drop a.toNat b))) (af (a+1)) else none else none
def quf(d:qs3):qs3:=fun b c a=>bif decide (a<(b.length:Int)) then(am b a).bind fun f=>bif f==34 then yw fu d b c a true else(am b a).bind fun e=>yw fu d b c a (e==92) else bif decide (c.length+List.length ([34]:Bs)<=ar) then some (c++([34]:Bs)) else none
def yv(fu:Nat):Nat->qs3|0=>fun _ _ _=>none|n+1=>quf fu (yv fu n)
def qmn(a:Bs):Option (Bs):=yv fu fu a ([34]:Bs) 0
def y6(a:UInt8):Option (Bs):=bif decide (0<=((a/16).toNat:Int)/\((a/16).toNat:Int)<=(((a/16)+1).toNat:Int)/\(((a/16)+1).toNat:Int)<=(List.length ([48,49,50,51,52,53,54,55,56,57,65,66,67,68,69,70]:Bs):Int)) then bif decide (0<=((a%16).toNat:Int)/\((a%16).toNat:Int)<=(((a%16)+1).toNat:Int)/\(((a%16)+1).toNat:Int)<=(List.length ([48,49,50,51,52,53,54,55,56,57,65,66,67,68,69,70]:Bs):Int)) then bif decide (List.length (List.take ((((a/16)+1).toNat:Int).toNat-((a/16).toNat:Int).toNat) (List.drop ((a/16).toNat:Int).toNat ([48,49,50,51,52,53,54,55,56,57,65,66,67,68,69,70]:Bs)))+List.length (List.take ((((a%16)+1).toNat:Int).toNat-((a%16).toNat:Int).toNat) (List.drop ((a%16).toNat:Int).toNat ([48,49,50,51,52,53,54,55,56,57,65,66,67,68,69,70]:Bs)))<=ar) then some ((List.take ((((a/16)+1).toNat:Int).toNat-((a/16).toNat:Int).toNat) (List.drop ((a/16).toNat:Int).toNat ([48,49,50,51,52,53,54,55,56,57,65,66,67,68,69,70]:Bs)))++(List.take ((((a%16)+1).toNat:Int).toNat-((a%16).toNat:Int).toNat) (List.drop ((a%16).toNat:Int).toNat ([48,49,50,51,52,53,54,55,56,57,65,66,67,68,69,70]:Bs)))) else none else none else none
abbrev z9p:=Bool->Int->(Bs×Bs)->Option (Bs)
abbrev z9s:=Bs->Bs->Int->Int->(Bs×Bs)->Option (Bs)
abbrev z9r:=Bs->Bs->Int->Int->Bs->(Bs×Bs)->Option (Bs)
abbrev z9q:=Bs->Bs->Int->Int->Bs->(Bs×Bs)->Option (Bs)
abbrev qff:=Bs->Bs->Int->Int->(Bs×Bs)->Option (Bs)
abbrev qs4:=Bool->Int->(Bs×Bs)->Option (Bs)
def qf9(fu:Nat)(b:qs4):z9p:=fun d c a=>b d (af (c+1)) a
def qmm(fu:Nat)(c:qff):z9s:=fun b d e f a=>c b d e (af (f+1)) a
def qgb(e:qff):z9r:=fun d c f g b a=>bif decide (c.length+b.length<=ar) then qmm fu e d (c++b) f g a else none
def qga(g:qff):z9q:=fun b c f h e a=>bif decide (60<(af ((c.length:Int)+(e.length:Int)))) then bif decide (b.length+List.length ([59,32]:Bs)<=ar) then bif decide (List.length (b++([59,32]:Bs))+a.1.length<=ar) then bif decide (List.length ((b++([59,32]:Bs))++a.1)+List.length ([42]:Bs)<=ar) then(vg fu f).bind fun d=>bif decide (List.length (((b++([59,32]:Bs))++a.1)++([42]:Bs))+d.length<=ar) then bif decide (List.length ((((b++([59,32]:Bs))++a.1)++([42]:Bs))++d)+List.length ([42,61]:Bs)<=ar) then bif decide (List.length (((((b++([59,32]:Bs))++a.1)++([42]:Bs))++d)++([42,61]:Bs))+c.length<=ar) then qgb fu g ((((((b++([59,32]:Bs))++a.1)++([42]:Bs))++d)++([42,61]:Bs))++c) ([]:Bs) (af (f+1)) h e a else none else none else none else none else none else none else qgb fu g b c f h e a
def que(h:qff):qff:=fun c e f b a=>bif decide (b<(a.2.length:Int)) then(am a.2 b).bind fun i=>(y6 i).bind fun g=>bif decide (List.length ([37]:Bs)+g.length<=ar) then(am a.2 b).bind fun j=>(qb3 fu j).bind fun k=>bif k then bif decide (0<=b/\b<=af (b+1)/\af (b+1)<=(a.2.length:Int)) then qga fu h c e f b (List.take ((af (b+1)).toNat-b.toNat) (List.drop b.toNat a.2)) a else none else qga fu h c e f b (([37]:Bs)++g) a else none else bif decide (c.length+List.length ([59,32]:Bs)<=ar) then bif decide (List.length (c++([59,32]:Bs))+a.1.length<=ar) then bif decide (List.length ((c++([59,32]:Bs))++a.1)+List.length ([42]:Bs)<=ar) then(vg fu f).bind fun d=>bif decide (List.length (((c++([59,32]:Bs))++a.1)++([42]:Bs))+d.length<=ar) then bif decide (List.length ((((c++([59,32]:Bs))++a.1)++([42]:Bs))++d)+List.length ([42,61]:Bs)<=ar) then bif decide (List.length (((((c++([59,32]:Bs))++a.1)++([42]:Bs))++d)++([42,61]:Bs))+e.length<=ar) then some ((((((c++([59,32]:Bs))++a.1)++([42]:Bs))++d)++([42,61]:Bs))++e) else none else none else none else none else none else none
def qbx(fu:Nat):Nat->qff|0=>fun _ _ _ _ _=>none|n+1=>que fu (qbx fu n)
def qud(d:qs4):qs4:=fun e b a=>bif decide (b<(a.2.length:Int)) then bif e then(am a.2 b).bind fun f=>(fq (f.toNat:Int) 32 126).bind fun g=>qf9 fu d g b a else qf9 fu d false b a else bif e then bif decide (List.length ([59,32]:Bs)+a.1.length<=ar) then bif decide (List.length (([59,32]:Bs)++a.1)+List.length ([61]:Bs)<=ar) then(qmn fu a.2).bind fun c=>bif decide (List.length ((([59,32]:Bs)++a.1)++([61]:Bs))+c.length<=ar) then some (((([59,32]:Bs)++a.1)++([61]:Bs))++c) else none else none else none else qbx fu fu ([]:Bs) ([117,116,102,56,39,39]:Bs) 0 0 a
def qf8(fu:Nat):Nat->qs4|0=>fun _ _ _=>none|n+1=>qud fu (qf8 fu n)
def qml(a:Bs×Bs):Option (Bs):=(y5 fu a.2).bind fun b=>bif b then bif decide (List.length ([59,32]:Bs)+a.1.length<=ar) then bif decide (List.length (([59,32]:Bs)++a.1)+List.length ([61]:Bs)<=ar) then bif decide (List.length ((([59,32]:Bs)++a.1)++([61]:Bs))+a.2.length<=ar) then some (((([59,32]:Bs)++a.1)++([61]:Bs))++a.2) else none else none else none else qf8 fu fu (decide ((a.2.length:Int)<=60)) 0 a
abbrev q5y:=Bs->Int->(Bs×Bs×wV)->Option (Bs)
def qub(e:q5y):q5y:=fun c b a=>bif decide (b<(a.2.2.length:Int)) then(am a.2.2 b).bind fun f=>(qml fu f).bind fun d=>bif decide (c.length+d.length<=ar) then e (c++d) (af (b+1)) a else none else some c
def qf6(fu:Nat):Nat->q5y|0=>fun _ _ _=>none|n+1=>qub fu (qf6 fu n)
def qf5(a:Bs×Bs×wV):Option (Bs):=bif decide (a.1.length+List.length ([47]:Bs)<=ar) then bif decide (List.length (a.1++([47]:Bs))+a.2.1.length<=ar) then qf6 fu fu ((a.1++([47]:Bs))++a.2.1) 0 a else none else none
abbrev z94:=Option Int
abbrev z93:=Bool->Option Int
abbrev z92:=wU->(Bs×Bs×wV)->Option Int
abbrev z91:=Bool->wU->(Bs×Bs×wV)->Option Int
def q7a(fu:Nat):z94:=some 0
def qg2:z93:=fun a=>bif a then some 5 else q7a fu
def qvf:z92:=fun b a=>(qf5 fu a).bind fun d=>bif decide (2000<(d.length:Int)) then qg2 fu true else(qmu fu b.val.1 ([99,111,110,116,101,110,116,45,116,121,112,101]:Bs)).bind fun c=>bif decide (0<=(0:Int)/\(0:Int).toNat<c.length) then(c[(0:Int).toNat]?).bind fun e=>qg2 fu (!(e==d)) else none
def o6:z91:=fun b a c=>bif b then some 5 else qvf fu (Tree.node a.val a.kids) c
def qm4(a:Tree (wV×Bs))(h:Int):Option Int:=(qfq fu a.val.1).bind fun e=>bif e.1 != 0 then some e.1 else bif decide (0<(a.kids.length:Int)) then(qcd fu a.val.1).bind fun b=>(qmk fu b.1 ([98,111,117,110,100,97,114,121]:Bs)).bind fun f=>bif !b.2 then o6 fu true (Tree.node a.val a.kids) b.1 else bif f.2 then o6 fu true (Tree.node a.val a.kids) b.1 else(jc fu b.1.1 ([109,117,108,116,105,112,97,114,116]:Bs)).bind fun g=>bif !g then o6 fu true (Tree.node a.val a.kids) b.1 else bif decide (0<(a.val.2.length:Int)) then o6 fu true (Tree.node a.val a.kids) b.1 else o6 fu (decide (60<=(b.1.2.2.length:Int))) (Tree.node a.val a.kids) b.1 else bif decide (12000<(a.val.2.length:Int)) then some 1 else(qmz fu a.val.2).bind fun c=>bif c.1 != 0 then some c.1 else(qgu fu a.val.1).bind fun d=>bif d.2 then bif decide (h<8) then(qm1 fu a.val.2 d.1).bind fun i=>bif decide (0<(i.length:Int)) then some 5 else some 0 else some 0 else some 0
abbrev q51:=(List wU)->(List Int)->Int->(Int×Int)->Option ((Int×Int))
abbrev q50:=(List wU)->(List Int)->Int->(Int×Int)->Option ((Int×Int))
def qvh(h:q51):q51:=fun b f a c=>bif decide (a<(b.length:Int)) then(am b a).bind fun e=>(am f a).bind fun i=>(qm4 fu (Tree.node e.val e.kids) i).bind fun d=>bif d != 0 then(ef d a).bind fun g=>some g else h b f (af (a+1)) c else some (0,0)
def qg4(fu:Nat):Nat->q51|0=>fun _ _ _ _=>none|n+1=>qvh fu (qg4 fu n)
def qvg(e:q50):q50:=fun d c b a=>bif decide (b<(d.length:Int)) then(am c b).bind fun f=>bif decide (8<f) then(ef 2 (-2)).bind fun g=>some g else e d c (af (b+1)) a else qg4 fu fu d c 0 a
def qg3(fu:Nat):Nat->q50|0=>fun _ _ _ _=>none|n+1=>qvg fu (qg3 fu n)
def qm5(b:Tree (wV×Bs)):Option ((Int×Int)):=(q69 fu (Tree.node b.val b.kids) 0).bind fun a=>bif decide (40<(a.1.length:Int)) then(ef 2 (-1)).bind fun c=>some c else qg3 fu fu a.1 a.2 0 (0,0)
abbrev q52:=wV->Bs->Int->Int->(List Bs)->Option (Bs)
abbrev qlr:=wV->Bs->Int->Option (Bs)
def qtz(fu:Nat)(g:qlr)(h:q52):q52:=fun f c e b a=>bif decide (b<(a.length:Int)) then bif decide (0<=b/\b.toNat<a.length) then(a[b.toNat]?).bind fun d=>bif decide (c.length+d.length<=ar) then bif decide (List.length (c++d)+List.length ([13,10]:Bs)<=ar) then h f ((c++d)++([13,10]:Bs)) e (af (b+1)) a else none else none else none else g f c (af (e+1))
def qbm(fu:Nat)(a:qlr):Nat->q52|0=>fun _ _ _ _ _=>none|n+1=>qtz fu a (qbm fu a n)
def qty(g:qlr):qlr:=fun c b a=>bif decide (a<(c.length:Int)) then(am c a).bind fun e=>(am c a).bind fun f=>(qft fu e.1 f.2).bind fun d=>qbm fu g fu c b a 0 d else bif decide (b.length+List.length ([13,10]:Bs)<=ar) then bif decide (List.length (b++([13,10]:Bs))<=maxLen) then some (b++([13,10]:Bs)) else none else none
def yj(fu:Nat):Nat->qlr|0=>fun _ _ _=>none|n+1=>qty fu (yj fu n)
def qtx(a:List (Bs×Bs)):Option (Bs):=yj fu fu a ([]:Bs) 0
def qm3(a:wV×Bs):Option ((Int×Int)):=(qfq fu a.1).bind fun b=>bif b.1 != 0 then some b else bif decide (12000<(a.2.length:Int)) then(ef 1 (-4)).bind fun f=>some f else(qtx fu a.1).bind fun c=>bif decide (12000<(af ((c.length:Int)+(a.2.length:Int)))) then(ef 1 (-4)).bind fun e=>some e else(qmz fu a.2).bind fun d=>some d
abbrev q53:=wV->Bs->Int->wV->Option (wV)
def qvq(f:q53):q53:=fun e c d a=>bif decide (d<(e.length:Int)) then(am e d).bind fun b=>(jc fu b.1 ([99,111,110,116,101,110,116,45,116,121,112,101]:Bs)).bind fun g=>bif g then bif decide (List.length (a++([(b.1,c)]:List (Bs×Bs)))<=a8) then f e c (af (d+1)) (a++([(b.1,c)]:List (Bs×Bs))) else none else bif decide (List.length (a++([b]:List (Bs×Bs)))<=a8) then f e c (af (d+1)) (a++([b]:List (Bs×Bs))) else none else some a
def qhc(fu:Nat):Nat->q53|0=>fun _ _ _ _=>none|n+1=>qvq fu (qhc fu n)
def qvp(a:List (Bs×Bs))(b:Bs):Option (wV):=qhc fu fu a b 0 []
abbrev ft:=Int×(Int×Int)×wV
abbrev vbc:=Bs->Int->Int->(Int×Int)->wV->Option ft
abbrev va9:=Int->Int->Int->(Int×Int)->wV->Bs->Option ft
abbrev va8:=Int->Int->Int->Bool->(Int×Int)->wV->Bs->Option ft
abbrev qlu:=Int->Int->Int->(Int×Int)->wV->Bs->Option ft
abbrev qbg:=Int->Int->(Int×Int)->wV->Option ft
abbrev vba:=Int->(Int×Int)->wV->Option ft
abbrev va7:=Bs->Int->Int->Bs->Int->Bs->(Int×Int)->wV->Option ft
abbrev va6:=Bs->Int->Int->Bs->Int->Bs->Bool->(Int×Int)->wV->Option ft
abbrev qlt:=Bs->Int->Int->Bs->Int->Bs->(Int×Int)->wV->Option ft
abbrev va5:=Bs->Int->Int->Bs->(Int×Int)->wV->Option ft
abbrev vbg:=Bs->Int->Int->Bs->Bool->(Int×Int)->wV->Option ft
abbrev vbf:=Bs->Int->Int->Int->(Int×Int)->wV->Option ft
abbrev vbe:=Bs->Int->Int->Int->(Int×Int)->wV->Option ft
abbrev vbd:=Bs->Int->Int->Int->Bool->(Int×Int)->wV->Option ft
abbrev vbb:=Bs->Int->Int->Bool->(Int×Int)->wV->Option ft
abbrev qls:=Bs->Int->Int->(Int×Int)->wV->Option ft
abbrev jy:=Bs->Int->(Int×Int)->wV->Option ft
def q67(fu:Nat)(g:jy)(e:qls):vbc:=fun f d c b a=>e f d (af (c+1)) b a
def qmq(fu:Nat)(h:qbg)(a:qlu):va9:=fun g d b f e c=>a g d (af (b+1)) f e c
def qmp(h:qbg)(c:qlu):va8:=fun i d a e g f b=>bif e then bif decide (0<=a/\a.toNat<b.length) then(b[a.toNat]?).bind fun j=>qmq fu h c i d a g f (List.set b a.toNat 32) else none else qmq fu h c i d a g f b
def quj(h:qbg)(f:qlu):qlu:=fun j a b e d c=>bif decide (b<(c.length:Int)) then bif decide (0<=b/\b.toNat<c.length) then(c[b.toNat]?).bind fun k=>bif k==0 then qmp fu h f j a b true e d c else bif decide (0<=b/\b.toNat<c.length) then(c[b.toNat]?).bind fun o=>qmp fu h f j a b (o==13) e d c else none else none else(qmt fu c).bind fun g=>bif decide (0<=a/\a.toNat<d.length) then(d[a.toNat]?).bind fun i=>bif decide (0<=a/\a.toNat<List.length (List.set d a.toNat (i.1,g))) then((List.set d a.toNat (i.1,g))[a.toNat]?).bind fun l=>bif decide (4000<(l.2.length:Int)) then(ef 1 a).bind fun m=>some (0,(m,[])) else h j (af (a+1)) e (List.set d a.toNat (i.1,g)) else none else none
def yx(fu:Nat)(a:qbg):Nat->qlu|0=>fun _ _ _ _ _ _=>none|n+1=>quj fu a (yx fu a n)
def quk(f:qbg):qbg:=fun e a c b=>bif decide (a<(b.length:Int)) then bif decide (0<=a/\a.toNat<b.length) then(b[a.toNat]?).bind fun d=>bif decide (d.2.length<=maxLen) then yx fu f fu e a 0 c b d.2 else none else none else some (e,((0,0),b))
def y4(fu:Nat):Nat->qbg|0=>fun _ _ _ _=>none|n+1=>quk fu (y4 fu n)
def yy:vba:=fun c b a=>bif decide (60<(a.length:Int)) then(ef 2 (-2)).bind fun d=>some (0,(d,[])) else y4 fu fu c 0 b a
def qum(fu:Nat)(j:jy)(f:qlt):va7:=fun i h g e c a b d=>bif decide (0<=af ((a.length:Int)-1)/\af ((a.length:Int)-1)<=(a.length:Int)) then f i h g e c (List.take (af ((a.length:Int)-1)).toNat a) b d else none
def qby(i:jy)(g:qlt):va6:=fun k j h d a c f e b=>bif f then qum fu i g k j h d a c e b else(qfo fu c).bind fun l=>bif !l then yy fu j e b else bif decide (0<=af (a+1)/\af (a+1)<=(d.length:Int)) then bif decide (List.length (b++([(c,List.drop (af (a+1)).toNat d)]:List (Bs×Bs)))<=a8) then i k h e (b++([(c,List.drop (af (a+1)).toNat d)]:List (Bs×Bs))) else none else none
def qui(h:jy)(f:qlt):qlt:=fun j i g e c a b d=>bif decide (0<(a.length:Int)) then(am a (af ((a.length:Int)-1))).bind fun k=>(o5 k).bind fun l=>qby fu h f j i g e c a l b d else qby fu h f j i g e c a false b d
def qgc(fu:Nat)(a:jy):Nat->qlt|0=>fun _ _ _ _ _ _ _ _=>none|n+1=>qui fu a (qgc fu a n)
def qul(g:jy):va5:=fun h e f a b c=>(vd fu a ([58]:Bs) 0).bind fun d=>bif decide (d<0) then yy fu e b c else bif decide (0<=d/\d<=(a.length:Int)) then qgc fu g fu h e f a d (List.take d.toNat a) b c else none
def qb2(f:jy):vbg:=fun h i e b d c a=>bif d then bif decide (0<=af ((a.length:Int)-1)/\(af ((a.length:Int)-1)).toNat<a.length) then(a[(af ((a.length:Int)-1)).toNat]?).bind fun g=>bif decide (g.2.length+b.length<=ar) then bif decide (0<=af ((a.length:Int)-1)/\(af ((a.length:Int)-1)).toNat<a.length) then(a[(af ((a.length:Int)-1)).toNat]?).bind fun j=>f h e c (List.set a ((af ((a.length:Int)-1)).toNat) (j.1,g.2++b)) else none else none else none else qul fu f h i e b c a
def qb1(g:jy):vbf:=fun d a e f c b=>bif decide (0<=a/\a<=e/\e<=(d.length:Int)) then bif(List.take (e.toNat-a.toNat) (List.drop a.toNat d))==([]:Bs) then yy fu f c b else bif decide (0<(b.length:Int)) then(am (List.take (e.toNat-a.toNat) (List.drop a.toNat d)) 0).bind fun h=>(o5 h).bind fun i=>qb2 fu g d a f (List.take (e.toNat-a.toNat) (List.drop a.toNat d)) i c b else qb2 fu g d a f (List.take (e.toNat-a.toNat) (List.drop a.toNat d)) false c b else none
def qb0(e:jy):vbe:=fun d f c g b a=>bif c==(d.length:Int) then qb1 fu e d f g c b a else qb1 fu e d f g (af (c+1)) b a
def qbz(d:jy):vbd:=fun h f e g c b a=>bif c then qb0 fu d h f e (af (g-1)) b a else qb0 fu d h f e g b a
def yz(f:jy)(i:qls):vbb:=fun d e a g c b=>bif g then q67 fu f i d e a c b else bif decide (a<(d.length:Int)) then bif decide (e<a) then(am d (af (a-1))).bind fun h=>qbz fu f d e a a (h==13) c b else qbz fu f d e a a false c b else qbz fu f d e a a false c b
def quh(e:jy)(g:qls):qls:=fun d f c b a=>bif decide (c<(d.length:Int)) then(am d c).bind fun h=>yz fu e g d f c (h != 10) b a else yz fu e g d f c false b a
def vj(fu:Nat)(a:jy):Nat->qls|0=>fun _ _ _ _ _=>none|n+1=>quh fu a (vj fu a n)
def qug(e:jy):jy:=fun d c b a=>bif decide (c<(d.length:Int)) then vj fu e fu d c c b a else yy fu c b a
def vi(fu:Nat):Nat->jy|0=>fun _ _ _ _=>none|n+1=>qug fu (vi fu n)
def qmo(a:Bs):Option ft:=bif decide (12000<(a.length:Int)) then(ef 1 (-1)).bind fun b=>some (0,(b,[])) else vi fu fu a 0 (0,0) []
abbrev pa:=wU×Int×(Int×Int)
abbrev nu:=wV->Bs->Int->Int->Option pa
abbrev vbs:=wV->Int->Int->Int->(Int×Int)->wV->Bs->(List Bs)->(Bs×Bs×wV)->Bs->Bs->wV->Option pa
abbrev q54:=Int->Int->Int->(Int×Int)->wV->Bs->(List Bs)->wV->(List wU)->Option pa
abbrev vbu:=wV->Int->Int->Bs->(Int×Int)->wV->Bs->(List Bs)->Option pa
abbrev vbt:=wV->Int->Int->Bs->Bool->(Int×Int)->wV->Bs->(List Bs)->Option pa
abbrev qs7:=wV->Int->Int->Int->(Int×Int)->wV->Bs->(List Bs)->(Bs×Bs×wV)->Bs->Bs->wV->Option pa
abbrev vbr:=wV->Bs->Int->Int->Bs->(Int×Int)->wV->Bs->Option pa
abbrev vbq:=wV->Bs->Int->Int->Bs->Bool->(Int×Int)->wV->Bs->Option pa
def qg9(g:nu)(fu:Nat)(m:qs7):vbs:=fun o l k j i a b h f d c e=>m o l k (af (j+1)) i a b h f d c e
def qvm(f:nu)(fu:Nat)(p:q54):q54:=fun l g a k b c d j h=>bif decide (a<(d.length:Int)) then bif decide (0<=a/\a.toNat<d.length) then(d[a.toNat]?).bind fun q=>(qmo fu q).bind fun i=>bif i.2.1.1 != 0 then(ef i.2.1.1 (-8)).bind fun o=>some ((Tree.node (b,c) []),(g,o)) else bif decide (0<=a/\a.toNat<d.length) then(d[a.toNat]?).bind fun m=>bif decide (0<=i.1/\i.1<=(m.length:Int)) then(f i.2.2 (List.drop i.1.toNat m) (af (l+1)) g).bind fun e=>bif e.2.2.1 != 0 then some ((Tree.node (b,c) []),e.2) else bif decide (List.length (h++([(Tree.node e.1.val e.1.kids)]:List wU))<=a8) then p l e.2.1 (af (a+1)) k b c d j (h++([(Tree.node e.1.val e.1.kids)]:List wU)) else none else none else none else none else some ((Tree.node (j,[]) h),(g,(0,0)))
def qhb(a:nu)(fu:Nat):Nat->q54|0=>fun _ _ _ _ _ _ _ _ _=>none|n+1=>qvm a fu (qhb a fu n)
def qvo(b:nu)(fu:Nat):vbu:=fun i h g e f a c d=>(qvp fu i e).bind fun j=>qhb b fu fu h (af (g+1)) 0 f a c d j []
def qha(c:nu)(fu:Nat):vbt:=fun j i h f d g a b e=>bif d then some ((Tree.node (a,b) []),(af (h+1),(0,0))) else qvo c fu j i h f g a b e
def qvl(b:nu)(fu:Nat)(p:qs7):qs7:=fun k m l g i a c h f e d j=>bif decide (g<(f.2.2.length:Int)) then(am f.2.2 g).bind fun s=>(jc fu s.1 ([98,111,117,110,100,97,114,121]:Bs)).bind fun r=>bif !r then(am f.2.2 g).bind fun q=>bif decide (List.length (j++([q]:List (Bs×Bs)))<=a8) then qg9 b fu p k m l g i a c h f e d (j++([q]:List (Bs×Bs))) else none else qg9 b fu p k m l g i a c h f e d j else(qf5 fu (e,(d,j))).bind fun o=>bif(h.length:Int)==0 then qha b fu k m l o true i a c h else qha b fu k m l o (decide (4000<(o.length:Int))) i a c h
def qg8(a:nu)(fu:Nat):Nat->qs7|0=>fun _ _ _ _ _ _ _ _ _ _ _ _=>none|n+1=>qvl a fu (qg8 a fu n)
def qvn(b:nu)(fu:Nat):vbr:=fun g j i h f e a c=>(qm1 fu j f).bind fun k=>(qcd fu g).bind fun d=>qg8 b fu fu g i h 0 e a c k d.1 d.1.1 d.1.2.1 []
def tp(c:nu)(fu:Nat):vbq:=fun j i h g f d e a b=>bif d then some ((Tree.node (a,b) []),(af (g+1),(0,0))) else qvn c fu j i h g f e a b
def qg7(a:nu)(fu:Nat)(b:List (Bs×Bs))(c:Bs)(e:Int)(d:Int):Option pa:=bif decide (40<=d) then(ef 2 (-7)).bind fun g=>some ((Tree.node (b,c) []),(af (d+1),g)) else(qgu fu b).bind fun f=>bif !f.2 then tp a fu b c e d f.1 true (0,0) b c else tp a fu b c e d f.1 (e==8) (0,0) b c
def nw(fu:Nat):Nat->nu|0=>fun _ _ _ _=>none|n+1=>qg7 (nw fu n) fu
def q7b(a:List (Bs×Bs))(d:Bs)(c:Int)(b:Int):Option pa:=nw fu fu a d c b
abbrev zk3:=wU×(Int×Int)
def qm6(c:wV×Bs):Option zk3:=(qm3 fu c).bind fun d=>bif d.1 != 0 then some ((Tree.node ([],[]) []),d) else(q7b fu c.1 c.2 0 0).bind fun a=>bif a.2.2.1 != 0 then some ((Tree.node ([],[]) []),a.2.2) else(qm5 fu (Tree.node a.1.val a.1.kids)).bind fun b=>bif b.1 != 0 then(ef b.1 (-9)).bind fun e=>some ((Tree.node ([],[]) []),e) else some ((Tree.node a.1.val a.1.kids),b)
def qce(c:wV×Bs):Option Bool:=(qvs fu).bind fun f=>bif !f then some false else(qig fu c).bind fun a=>(qm6 fu c).bind fun b=>bif b.2.1 != 0 then bif((a.2.1==b.2.1)&&((a.2.2==b.2.2)&&true)) then(qm7 fu (Tree.node a.1.val a.1.kids) (Tree.node ([],[]) [])).bind fun e=>some e else some false else bif a.2.1==0 then(qm7 fu (Tree.node a.1.val a.1.kids) (Tree.node b.1.val b.1.kids)).bind fun d=>some d else some false
end
end Go.Sym

