/- What the claim rests on, part 6: gathered texts. -/
import Derived.Test.YtbcijcbgdaggdabGreatDoorSyY5
set_option linter.defProp false
set_option linter.unusedSimpArgs false
set_option linter.unusedVariables false
namespace Go.Sym
def isK(kd sb:Bs)(t:TP):Bool:=decide (t.kids.length=0)&&(lk (ta t.val.1).1 kd&&lk (ta t.val.1).2.1 sb)
def qac(kd sb:Bs):List (TP×Int)->Option TP|[]=>none|x::L=>if isK kd sb x.1=true then some x.1 else qac kd sb L
def zza(kd sb:Bs):∀L M:List (TP×Int),qac kd sb (L++M)=match qac kd sb L with|some q=>some q|none=>qac kd sb M
 |[],_=>rfl|x::L,M=>by
  rw[wK,qac,qac];by_cases h:isK kd sb x.1=true
  ·rw[qX h,qX h]
  ·rw[qW h,qW h,zza kd sb L M]
def zzj(kd sb:Bs):∀(L:List (TP×Int))(q:TP),qac kd sb L=some q->∃x∈L,x.1=q
 |[],_,h=>by cases h
 |x::L,q,h=>by
  rw[qac]at h;split at h
  ·cases h;exact⟨x,qH,rfl⟩
  ·obtain⟨y,h1,h2⟩:=zzj kd sb L q h;exact⟨y,qE _ h1,h2⟩
def z38(l:List bm):(ta l).1.length<=4000000/\(ta l).2.1.length<=4000000:=⟨(zkc l).1.1,(zkc l).1.2.1⟩
def z6a(fu:Nat)(hfu:90000000<=fu)(i:Int)(t:TP)(ht:Fv t)(kd sb:Bs)(hk:kd.length<=4000000)(hb:sb.length<=4000000)(q:TP)(g:Bool) :
  qzg fu i t.val.1 t.val.2 t.kids kd sb q g=some (if isK kd sb t=true then .inl (kd,(sb,(t,true))) else .inr (kd,(sb,(q,g)))):=by
 have hsm:∀x∈t.val.1,x.1.length<=4000000/\x.2.length<=4000000:=fun x hx=>by have:=ht.2 x hx;omega
 obtain⟨m1,m2⟩:=z38 t.val.1;unfold qzg isK;rw[show((Tree.node (t.val.1,t.val.2) t.kids:TP))=t from jh t,q7d fu hfu t (by have:=ht.1;omega) hsm,qB,g7]
 simp only[jh];by_cases h0:t.kids.length=0
 ·rw[qX (by omega),ig fu hfu _ _ m1 hk,qB,decide_eq_true h0]
  cases lk (ta t.val.1).1 kd
  ·rw[bi rfl];rfl
  ·rw[bh rfl,ig fu hfu _ _ m2 hb,qB];cases lk (ta t.val.1).2.1 sb
   ·rw[bi rfl];rfl
   ·rw[bh rfl];rfl
 ·rw[qW (by omega),decide_eq_false h0];rfl
def z59(fu:Nat)(hfu:90000000<=fu)(kd sb:Bs)(hkd:kd.length<=4000000)(hsb:sb.length<=4000000)(q:TP)(g:Bool):∀(n:Nat)(t:TP)(d i:Nat),ep t<=n->ep t+d<=70000000->(∀x∈cy n t (d:Int),Fv x.1)->i+ep t<=70000000 ->
  ∃R,qn0 fu n t (d:Int) (i:Int) kd sb q g=some R/\match qac kd sb (cy n t (d:Int)) with
   |some x=>∃a,R = .inl (a,(kd,(sb,(x,true))))|none=>R = .inr (((i+(cy n t (d:Int)).length:Nat):Int),(kd,(sb,(q,g)))):=by
 intro n
 induction n with
 |zero=>intro t d i h;have:=qty t;omega|succ n ih=>
  intro t d i hz hd hs hi;have htp:=qty t;have hft:Fv t:=hs (t,(d:Int)) (by rw[cy];exact qH)
  rw[cy]at hs ⊢;rw[qn0,qnz,qyh,qac];simp only[jh];rw[z6a fu hfu _ t hft kd sb hkd hsb q g,qB];by_cases hc:isK kd sb t=true
  ·rw[qX hc,qX hc];exact⟨_,rfl,_,rfl⟩
  rw[qW hc,qW hc];simp only[a7,qB];rw[bj i (by omega)]
  have loop:∀(m:Nat)(ab aa:List TP)(i:Nat),t.kids=ab++aa->aa.length<m->i+(aa.map ep).sum<=70000000->(∀x∈aa.flatMap fun k=>cy n k ((d:Int)+1),Fv x.1) ->
    ∃R,qn1 (qn0 fu n) fu m (d:Int) t.kids (t.kids.length:Int) (ab.length:Int) (i:Int) kd sb q g=some R/\match qac kd sb (aa.flatMap fun k=>cy n k ((d:Int)+1)) with
     |some x=>∃a,R = .inl (a,(kd,(sb,(x,true))))|none=>R = .inr (((i+(aa.flatMap fun k=>cy n k ((d:Int)+1)).length:Nat):Int),(kd,(sb,(q,g)))):=by
   intro m
   induction m with
   |zero=>intro ab aa i _ h;omega|succ m ihm=>
    intro ab aa i hk h hi hf;have ac:t.kids.length=ab.length+aa.length:=by rw[hk];simp
    have hks:=qj1 t;rw[qn1,qym];simp only[jh]
    cases aa with
    |nil=>rw[ay (by simp only[qZ]at ac;omega)];exact⟨_,rfl,rfl⟩|cons k aa=>
     simp only[qL]at h ac;simp only[List.map_cons,List.sum_cons]at hi;have hkm:k∈t.kids:=by rw[hk];simp
     have hx:ap t.kids (ab.length:Int)=some k:=by rw[hk];exact cz ab k aa
     have hkz:=qtx hkm;have hfl:=q2f n k ((d:Int)+1);rw[List.flatMap_cons]at hf;rw[am (by omega),hx,qB,bj d (by omega),List.flatMap_cons,zza]
     obtain⟨R,g1,g2⟩:=ih k (d+1) i (by omega) (by omega) (fun x hx=>hf x (List.mem_append_left _ (by rw[show((d+1:Nat):Int)=(d:Int)+1 by omega]at hx;exact hx))) (by omega)
     rw[g1,qB];rw[show((d+1:Nat):Int)=(d:Int)+1 by omega]at g2
     cases hr:qac kd sb (cy n k ((d:Int)+1)) with
     |some x=>
      rw[hr]at g2;obtain⟨a,rfl⟩:=g2;exact⟨_,rfl,a,rfl⟩
     |none=>
      rw[hr]at g2;simp only at g2;subst g2;simp only[a7];rw[bj _ (by omega)]
      have:=ihm (ab++[k]) aa (i+(cy n k ((d:Int)+1)).length) (by rw[hk];simp) (by omega) (by omega) (fun x hx=>hf x (List.mem_append_right _ hx))
      rw[qM,wD]at this;rw[qM,← Nat.add_assoc];exact this
  have hks:=qj1 t;have hsum:(t.kids.map ep).sum+2<=ep t:=by cases t;rw[zl];show(List.map ep _).sum+2<=_;simp only[Tree.kids];omega
  obtain⟨R,g1,g2⟩:=loop fu [] t.kids (i+1) rfl (by omega) (by omega) (fun x hx=>hs x (qE _ hx))
  refine⟨R,g1,?_⟩;rw[qL,show i+((t.kids.flatMap fun k=>cy n k ((d:Int)+1)).length+1)=i+1+(t.kids.flatMap fun k=>cy n k ((d:Int)+1)).length by omega]
  exact g2
def z4c(fu:Nat)(hfu:90000000<=fu)(t:TP)(hs:gd t)(hf:∀x∈cy fu t 0,Fv x.1)(kd sb:Bs)(hkd:kd.length<=4000000)(hsb:sb.length<=4000000) :
  qpm fu t kd sb=some (match qac kd sb (cy fu t 0) with|some q=>(q,true)|none=>(emT,false)):=by
 have hz:=hs.1;obtain⟨R,g1,g2⟩:=z59 fu hfu kd sb hkd hsb emT false fu t 0 0 (by omega) (by omega) hf (by omega)
 rw[show((0:Nat):Int)=0 from rfl]at g1 g2
 unfold qpm qnt;simp only[jh];rw[qB];unfold qyg w9 qyo q92;simp only[jh,qB];rw[g1]
 cases hr:qac kd sb (cy fu t 0) with
 |some x=>
  rw[hr]at g2;obtain⟨a,rfl⟩:=g2;simp only[qB,a7,jh]
 |none=>
  rw[hr]at g2;simp only at g2;subst g2;simp only[qB,a7,jh]
abbrev kTx:Bs:=[116,101,120,116]
abbrev kPl:Bs:=[112,108,97,105,110]
abbrev kHt:Bs:=[104,116,109,108]
def q9n(fu:Nat)(hfu:90000000<=fu)(t:TP)(hs:gd t):qgz fu t=if(qjf fu t).1≠0 then some ([],qjf fu t) else match qac kTx kPl (cy fu t 0) with
  |some q=>(qpo fu q).bind fun x=>some (x,(0,0))
  |none=>match qac kTx kHt (cy fu t 0) with
   |some q=>(qpo fu q).bind fun x=>(qzh fu x).bind fun y=>some (y,(0,0))
   |none=>some ([],(0,0)):=by
 unfold qgz;simp only[jh];rw[zhu fu hfu t hs,qB,p8,qB,mf];by_cases h:(qjf fu t).1≠0
 ·rw[qX h,qX h]
 ·rw[qW h,qW h];obtain⟨_,q2,_⟩:=zg7 (show(qjf fu t).1=0 by simpa using h)
  have hf:∀x∈cy fu t 0,Fv x.1:=fun x hx=>⟨(zg4 (q2 x hx)).1,(zg4 (q2 x hx)).2.1⟩
  rw[z4c fu hfu t hs hf _ _ (by simp) (by simp),qB]
  cases qac kTx kPl (cy fu t 0) with
  |some q=>simp only;rw[bh rfl];rfl|none=>
   simp only;rw[bi rfl,z4c fu hfu t hs hf _ _ (by simp) (by simp),qB]
   cases qac kTx kHt (cy fu t 0) with|some q=>simp only;rw[bh rfl];rfl|none=>simp only;rw[bi rfl];rfl
def zx5(fu:Nat)(hfu:90000000<=fu)(t:TP)(hs:gd t):∃s f,qgz fu t=some (s,f)/\(f.1≠0->s=[]):=by
 rw[q9n fu hfu t hs];by_cases h:(qjf fu t).1≠0
 ·rw[qX h];exact⟨_,_,rfl,fun _=>rfl⟩
 ·rw[qW h];obtain⟨_,q2,_⟩:=zg7 (show(qjf fu t).1=0 by simpa using h)
  have hv:∀kd sb q,qac kd sb (cy fu t 0)=some q->Fv q:=fun kd sb q e=>by
   obtain⟨x,hx,rfl⟩:=zzj kd sb _ _ e;exact⟨(zg4 (q2 x hx)).1,(zg4 (q2 x hx)).2.1⟩
  cases e1:qac kTx kPl (cy fu t 0) with
  |some q=>
   obtain⟨s,h1,_⟩:=z4h fu hfu q (hv _ _ _ e1);simp only;rw[h1];exact⟨_,_,rfl,fun z=>absurd rfl z⟩
  |none=>
   simp only
   cases e2:qac kTx kHt (cy fu t 0) with
   |some q=>
    obtain⟨s,h1,h2⟩:=z4h fu hfu q (hv _ _ _ e2);obtain⟨r,h3⟩:=z7x fu hfu s (by omega)
    simp only;rw[h1,qB,h3];exact⟨_,_,rfl,fun z=>absurd rfl z⟩
   |none=>exact⟨_,_,rfl,fun _=>rfl⟩
def z6h(fu:Nat)(hfu:90000000<=fu)(t:TP)(hs:SmT t.val)(sb:Bs)(hsb:sb.length<=4000000):qxt fu t sb=some (isK kTx sb t):=by
 have hsf:xl t.val.1:=hs.1.1;obtain⟨m1,m2⟩:=z38 t.val.1;unfold qxt;simp only[jh];rw[z8b fu hfu _ hsf,qB];unfold isK;have key:∀m:eq,m=ta t.val.1->((bif(List.length t.kids:Int)==(0:Int) then(qn fu m.1 kTx).bind fun x2=>bif x2 then(qn fu m.2.1 sb).bind fun x3=>some x3 else some false else some false):Option Bool)=some (decide (t.kids.length=0)&&(lk (ta t.val.1).1 kTx&&lk (ta t.val.1).2.1 sb)):=by
  rintro m rfl
  rw[g7];by_cases h0:t.kids.length=0
  ·rw[qX (by omega),qez fu hfu _ _ m1 (by simp),qB,decide_eq_true h0]
   cases lk (ta t.val.1).1 kTx
   ·rw[bi rfl];rfl
   ·rw[bh rfl,qez fu hfu _ _ m2 hsb,qB];rfl
  ·rw[qW (by omega),decide_eq_false h0];rfl
 cases ht:ji t.val.1 with|none=>exact key _ (by unfold ta;rw[ht])|some m=>exact key _ (by unfold ta;rw[ht])
def z6c{v:List bm×Bs}{a b:TP}(hv:SmT v)(hvz:τP.bk v<=1000)(ha:gd a)(hb:gd b)(hz:ep a+ep b<=50000000):gd (.node v [a,b]):=by
 refine⟨?_,fun n d x hx => ?_⟩
 ·rw[zl];simp only[List.map_cons,List.map_nil,List.sum_cons,List.sum_nil];omega
 ·cases n with
  |zero=>cases hx
  |succ n=>
   rw[cy]at hx;rcases List.mem_cons.1 hx with rfl|hx
   ·exact hv
   ·simp only[Tree.kids,List.flatMap_cons,List.flatMap_nil,List.append_nil,wA]at hx;rcases hx with hx|hx
    ·exact ha.2 n (d+1) x hx
    ·exact hb.2 n (d+1) x hx
def zgv{n:Nat}(hn:0<n){a:TP}(h:a.kids=[])(d:Int):cy n a d=[(a,d)]:=by
 obtain⟨m,rfl⟩:∃m,n=m+1:=⟨n-1,by omega⟩
 rw[cy,h];rfl
def z6l{a:TP}(h:lu a 1=0):lu a 0=0:=by
 unfold lu at h ⊢;simpa using h
def z6k(a b:TP)(ha:gd a)(hb:gd b)(hz:ep a+ep b<=50000000):qe6 100000000 a b=some true:=by
 unfold qe6;simp only[jh];rw[z8j,qB,dm];have hp:gd (.node ([(ce,[109,117,108,116,105,112,97,114,116,47,109,105,120,101,100])],[]) [a,b]):=z6c (z3t _ (by decide)) (by decide) ha hb hz
 obtain⟨s,f,e1,e2⟩:=zx5 100000000 (by omega) _ hp
 have e0:=e1;rw[show qgz 100000000 (Tree.node (([(([67,111,110,116,101,110,116,45,84,121,112,101]:Bs),([109,117,108,116,105,112,97,114,116,47,109,105,120,101,100]:Bs))]:List (Bs×Bs)),[]) ([a,b]:List TP))=some (s,f) from e1,qB,mf]
 by_cases h:f.1≠0
 ·rw[qX h,e2 h];rfl
 ·rw[qW h];obtain⟨s',f',g1,_⟩:=zx5 100000000 (by omega) a ha
  rw[g1,qB,z6h _ (by omega) a (zeo ha) _ (by simp),qB]
  cases hk:isK kTx kPl a
  ·rw[fc]
  ·rw[dm];rw[q9n _ (by omega) _ hp]at e0
   by_cases hpf:(qjf 100000000 (.node ([(ce,[109,117,108,116,105,112,97,114,116,47,109,105,120,101,100])],[]) [a,b])).1≠0
   ·rw[qX hpf]at e0;injection e0 with e0;injection e0 with _ e0
    rw[← e0]at h;exact absurd hpf h
   ·rw[qW hpf]at e0;obtain⟨_,q2,_⟩:=zg7 (show(qjf 100000000 (.node ([(ce,[109,117,108,116,105,112,97,114,116,47,109,105,120,101,100])],[]) [a,b])).1=0 by simpa using hpf)
    have hkids:a.kids=[]:=by
     unfold isK at hk;simp only[qA,decide_eq_true_eq]at hk;exact List.eq_nil_of_length_eq_zero hk.1
    have hfl:cy 100000000 (.node ([(ce,[109,117,108,116,105,112,97,114,116,47,109,105,120,101,100])],[]) [a,b]) 0=(.node ([(ce,[109,117,108,116,105,112,97,114,116,47,109,105,120,101,100])],[]) [a,b],(0:Int))::((a,(1:Int))::cy 99999999 b 1):=by
     rw[show(100000000:Nat)=99999999+1 from rfl,cy]
     simp only[Tree.kids,List.flatMap_cons,List.flatMap_nil,List.append_nil];rw[show(0:Int)+1=1 from rfl,zgv (by omega) hkids];rfl
    have hfirst:qac kTx kPl (cy 100000000 (.node ([(ce,[109,117,108,116,105,112,97,114,116,47,109,105,120,101,100])],[]) [a,b]) 0)=some a:=by
     rw[hfl,qac,qW (by unfold isK;simp[Tree.kids]),qac,qX hk]
    rw[hfirst]at e0;have hca:lu a 1=0:=q2 (a,1) (by rw[hfl];exact qE _ qH)
    have hpa:qjf 100000000 a=(0,0):=by
     unfold qjf;rw[zgv (by omega) hkids,qW (by simp),qW (by simp),z3f]
     ·rfl
     ·intro y hy;rw[List.mem_singleton.1 hy];exact z6l hca
    rw[q9n _ (by omega) a ha,hpa,qW (by simp),zgv (by omega) hkids,qac,qX hk]at g1
    simp only at e0 g1;rw[e0]at g1;injection g1 with g1
    injection g1 with g1 g2
    subst g1 g2;rw[g7,qX (by simpa using h)]
    simp
def zfr(x:TP×TP×Unit)(h:bks [.tree τP,.tree τP] x<=1048576):qe6 100000000 x.1 x.2.1=some true:=by
 obtain⟨a,b,_⟩:=x;have h:ep a+(ep b+0)<=1048576:=h;exact z6k a b (zz8 (by omega)) (zz8 (by omega)) (by omega)
end Go.Sym
