/- What the claim rests on, part 2: gathered texts. -/
import Derived.RangeFuncRecord
import Derived.Laws.RangeAny
import Derived.Laws.MakeOwn
import Derived.Laws.IdiomStrings
import Derived.Laws.Cover4
import Derived.Test.YtdnaaelkpgijeaaGreatDoorSyQ1
set_option linter.defProp false
set_option linter.unusedSimpArgs false
set_option linter.unusedVariables false
namespace Go.Sym
open Go.RowKit
variable{TT:List PanicEntry->Act->World->Prop}[LC]
section
variable{P:Program}{vif:World}{vh8:Gh}{vic:List (Nat×ag)}{s:St}
def HOk(P:Program)(ops:Array Oper)(s:St)(Rs:List HR)(i:Nat)(o:Oper):Prop:=
 ∃r ps,∃c:wi,Rs[i]? = some r/\o.dst=some r.dst/\r.dst<s.n/\az (s.nx+32*r.dst) s.hp=true/\ml (Rs.take i) o.after.toList=some r.pred/\ox r.dst (Rs.take i)=true /\
  ql r.pred (jf ops o) (Rs.take i) 0=true/\qx ops r.dst r.pred i=true/\ne P ops (rn r.pred (Rs.take i) 0 s) c o=some (ps,r.v,r.new)/\ar ps
def xy{d:Nat}:∀{rs:List HR},ox d rs=true↔∀r∈rs,r.dst≠d
 |[]=>by simp[ox]|r::rs=>by
  simp only[ox,qA,Bool.not_eq_true',xy (rs:=rs),wE,forall_eq_or_imp];constructor
  ·rintro⟨h1,h2⟩;exact⟨fun e=>by subst e;simp at h1,h2⟩
  ·rintro⟨h1,h2⟩
   refine⟨?_,h2⟩;cases hb:Nat.beq r.dst d
   ·rfl
   ·exact absurd (qN hb) h1
def qkd{Rs:List HR}:∀{es:List Edge}{l:List Nat},ml Rs es=some l ->
  (∀e∈es,Region.binds .any e=true->e.on∈l)/\(∀j∈l,∃e∈es,Region.binds .any e=true/\(j=e.on\/∃r,Rs[e.on]? = some r/\j∈r.pred))
 |[],l,h=>by simp[ml,qI]at h;subst h;exact⟨fun e he=>(by cases he),fun j hj=>(by cases hj)⟩
 |e::es,l,h=>by
  simp[ml]at h;cases hb:Region.binds .any e<;>rw[hb]at h<;>simp at h
  ·obtain⟨h1,h2⟩:=qkd h;refine⟨fun e' he' hbe => ?_,fun j hj => ?_⟩
   ·rcases List.mem_cons.1 he' with rfl|he'
    ·rw[hb]at hbe;cases hbe
    ·exact h1 e' he' hbe
   ·obtain⟨e',he',r⟩:=h2 j hj;exact⟨e',qE _ he',r⟩
  ·split at h
   ·rename_i r l' hr hl';simp at h;subst h;obtain⟨h1,h2⟩:=qkd hl';refine⟨fun e' he' hbe => ?_,fun j hj => ?_⟩
    ·rw[qj6];rcases List.mem_cons.1 he' with rfl|he'
     ·exact .inl qH
     ·exact .inr (h1 e' he' hbe)
    ·rw[qj6]at hj;rcases hj with hj|hj
     ·rcases List.mem_cons.1 hj with rfl|hj
      ·exact⟨e,qH,hb,.inl rfl⟩
      ·exact⟨e,qH,hb,.inr ⟨r,hr,hj⟩⟩
     ·obtain⟨e',he',r⟩:=h2 j hj;exact⟨e',qE _ he',r⟩
   ·cases h
def q4k{pred reads:List Nat}:∀{rs:List HR}{j:Nat},ql pred reads rs j=true->∀k r,rs[k]? = some r->j+k∈pred\/r.dst∉reads
 |[],j,_,k,r,hr=>by simp at hr|r0::rs,j,h,k,r,hr=>by
  simp only[ql,qA,Bool.or_eq_true,Bool.not_eq_true']at h
  cases k with
  |zero=>
   simp at hr;subst hr;rcases h.1 with h|h
   ·exact .inl (fe.1 h)
   ·exact .inr (fun hm=>by rw[fe.2 hm]at h;cases h)
  |succ k=>
   have:=q4k h.2 k r (by simpa using hr)
   rwa [show j+(k+1)=j+1+k by omega]
def q5x{ops:Array Oper}{d:Nat}{pred:List Nat}:∀{i:Nat},qx ops d pred i=true->∀j o,j<i->ops[j]? = some o->j∈pred\/d∉jf ops o
 |0,_,j,o,hj,_=>by omega|i+1,h,j,o,hj,ho=>by
  simp[qx,qA,Bool.or_eq_true]at h;by_cases hij:j=i
  ·subst hij;rcases h.1 with h|h
   ·exact .inl (fe.1 h)
   ·rw[ho]at h;simp at h;exact .inr (fun hm=>by rw[fe.2 hm]at h;cases h)
  ·exact q5x h.2 j o oA ho
def q5u{o:Oper}{j:Nat}(h:qk1 o j=true):∃e∈o.after,e.on=j/\Region.binds .any e=true:=by
 obtain⟨e,he,hb⟩:=List.any_eq_true.1 h;simp only[qA]at hb;exact⟨e,by simpa using he,qN hb.1,hb.2⟩
def zfg:∀{l:List Oper}{i:Nat},qpj l i=true->∀j o,l[j]? = some o->qk1 o (i+j-1)=true
 |[],i,_,j,o,ho=>by simp at ho|o0::l,i,h,j,o,ho=>by
  simp[qpj,qA]at h
  cases j with|zero=>simp at ho;subst ho;exact h.1|succ j=>have:=zfg h.2 j o (by simpa using ho);rwa [show i+(j+1)-1=i+1+j-1 by omega]
def qpu{L:List Nat}:∀{es:List Edge},(∀e∈es,Region.binds .any e=true->e.on∈L)->∀j∈qd9 es,j∈L
 |[],_,j,h=>by cases h
 |e::es,hL,j,h=>by
  simp[qd9]at h;cases hb:Region.binds .any e<;>rw[hb]at h<;>simp only[qT,qF]at h
  ·exact qpu (fun e he=>hL e (qE _ he)) j h
  ·rcases List.mem_cons.1 h with rfl|h
   ·exact hL e qH hb
   ·exact qpu (fun e he=>hL e (qE _ he)) j h
def zj4{ops:Array Oper}{L:List Nat}(hcl:∀i∈L,∀o,ops[i]? = some o->∀e∈o.after,Region.binds .any e=true->e.on∈L):∀{n:Nat}{S:List Nat},(∀j∈S,j∈L)->∀j∈qrf ops n S,j∈L
 |0,S,hS,j,h=>hS j h|n+1,S,hS,j,h=>by
  simp[qrf]at h;refine zj4 hcl (fun i hi => ?_) j h
  cases hb:bn S n<;>rw[hb]at hi<;>simp at hi
  ·exact hS i hi
  ·split at hi
   ·rename_i o ho;rcases List.mem_append.1 hi with hi|hi
    ·exact qpu (fun e he hb'=>hcl n (hS n (fe.1 hb)) o ho e (by simpa using he) hb') i hi
    ·exact hS i hi
   ·exact hS i hi
def zd3{S:List Nat}:∀{n:Nat},qoy S n=true->∀j,j<n->j∈S
 |0,_,j,h=>by omega|n+1,h,j,hj=>by
  simp[qoy,qA]at h;by_cases e:j=n
  ·subst e;exact fe.1 h.1
  ·exact zd3 h.2 j oA
def zl3{ops:Array Oper}{n:Nat}(h:nq ops n=true){o:Oper}(ho:ops[n]? = some o){L:List Nat}(hcl:∀i∈L,∀o,ops[i]? = some o->∀e∈o.after,Region.binds .any e=true->e.on∈L)
  (hL:∀e∈o.after,Region.binds .any e=true->e.on∈L):∀j,j<n->j∈L:=fun j hj=>by
 unfold nq at h;split at h
 ·rename_i hd;have:n<ops.size:=(Array.getElem?_eq_some_iff.1 ho).1;have:=congrArg List.length hd;simp at this;omega
 ·rename_i o' l hd;have:o'=o:=by
   have:=congrArg (fun l=>l[0]?) hd
   simp at this;rw[ho]at this;injection this with this;exact this.symm
  subst this;simp at h;exact zj4 hcl (qpu fun e he=>hL e (by simpa using he)) j (zd3 h.1 j hj)
def q5c{ops:Array Oper}{n:Nat}(h:nq ops n=true){i:Nat}{o:Oper}(hi:n<i)(ho:ops[i]? = some o):qk1 o (i-1)=true:=by
 unfold nq at h;split at h
 ·rename_i hd;have:i<ops.size:=(Array.getElem?_eq_some_iff.1 ho).1;have:=congrArg List.length hd;simp at this;omega
 ·rename_i o' l hd;simp at h;have hl:l[i-(n+1)]? = some o:=by
   have:=congrArg (fun l=>l[i-n]?) hd
   simp at this;rw[show n+(i-n)=i by omega,ho,show i-n=(i-(n+1))+1 by omega,List.getElem?_cons_succ]at this
   exact this.symm
  have:=zfg h.2 (i-(n+1)) o hl
  rwa [show n+1+(i-(n+1))-1=i-1 by omega]at this
def oh:∀{l:List Oper}{i:Nat},lh l i=true->∀j o,l[j]? = some o->∀e∈o.after,Region.binds .any e=true->e.on<i+j
 |[],i,_,j,o,ho=>by simp at ho|o0::l,i,h,j,o,ho=>by
  simp only[lh,qA]at h
  cases j with
  |zero=>
   simp at ho;subst ho;intro e he hb;have:=List.all_eq_true.1 h.1 e (by simpa using he)
   simp[hb,Bool.not_true,Bool.false_or,Nat.blt_eq]at this;exact this
  |succ j=>have:=oh h.2 j o (by simpa using ho);rwa [show i+(j+1)=i+1+j by omega]
def qbg{ops:Array Oper}{listed:Array Bool}{i:Nat}:i∈Region.ready .any ops listed↔i<ops.size/\listed.getD i true=false/\∃o,ops[i]? = some o/\∀e∈o.after,Region.binds .any e=true->listed.getD e.on false=true:=by
 unfold Region.ready;simp only[List.mem_filter,List.mem_range,qA,Bool.not_eq_true'];constructor
 ·rintro⟨h1,h2,h3⟩
  obtain⟨o,ho⟩:∃o,ops[i]? = some o:=⟨ops[i],by simp[h1]⟩
  refine⟨h1,h2,o,ho,fun e he hb => ?_⟩
  rw[ho]at h3;simp only[wQ,Option.getD_some]at h3;have:=Array.all_eq_true'.1 h3 e he;simpa [hb] using this
 ·rintro⟨h1,h2,o,ho,h3⟩
  refine⟨h1,h2,?_⟩;rw[ho];simp only[wQ,Option.getD_some];refine Array.all_eq_true'.2 (fun e he => ?_)
  cases hb:Region.binds .any e
  ·simp
  ·simp[h3 e he hb]
def yj:∀(n:Nat)(L:List Nat),L.Nodup->(∀i∈L,i<n)->L.length<=n
 |0,L,_,h=>by
  cases L with|nil=>simp|cons x L=>have:=h x qH;omega
 |n+1,L,hd,h=>by
  by_cases hm:n∈L
  ·have:=yj n (L.erase n) (hd.erase n) (fun i hi=>by
    have h1:=h i (List.mem_of_mem_erase hi);have h2:i≠n:=fun e=>by subst e;exact(hd.not_mem_erase) hi
    omega)
   rw[List.length_erase_of_mem hm]at this;omega
  ·have:=yj n L hd (fun i hi=>by
    have h1:=h i hi;have h2:i≠n:=fun e=>hm (e▸hi)
    omega)
   omega
def q28:∀(n:Nat)(L:List Nat),(∀i,i<n->i∈L)->n<=L.length
 |0,L,_=>Nat.zero_le _|n+1,L,h=>by
  have hm:n∈L:=h n oA
  have:=q28 n (L.erase n) (fun i hi=>(List.mem_erase_of_ne oA).2 (h i oA))
  rw[List.length_erase_of_mem hm]at this;have:0<L.length:=List.length_pos_of_mem hm;omega
structure xc(ops:Array Oper)(m:Nat)(listed:Array Bool):Prop where
 size:listed.size=ops.size
 iff:∀j,j<ops.size->(listed.getD j true=true↔j<m)
def z3s{ops:Array Oper}{N:Act->World->Prop}{listed:Array Bool}{a:Act}{w:World}(hu:xc ops ops.size listed)(h:N a w):ko P TT ops N (ops.size-ops.size) listed a w:=by
 rw[Nat.sub_self];refine⟨?_,h⟩
 cases hq:Region.ready .any ops listed with
 |nil=>rfl|cons i r=>
  have hi:i∈Region.ready .any ops listed:=by rw[hq];exact qH
  obtain⟨h1,h2,_⟩:=qbg.1 hi;rw[(hu.iff i h1).2 h1]at h2;cases h2
def z3t{ops:Array Oper}{N:Act->World->Prop}{n m:Nat}(he:lh ops.toList 0=true)(ht:nq ops n=true)(hn:n<=m)(hms:m<ops.size){listed:Array Bool}{a:Act}{w:World}(hu:xc ops m listed)
  (h:p6 P TT ops m (fun a w=>∀listed,xc ops (m+1) listed->ko P TT ops N (ops.size-(m+1)) listed a w) a w):ko P TT ops N (ops.size-m) listed a w:=by
 obtain⟨k,hk⟩:∃k,ops.size-m=k+1:=⟨ops.size-m-1,oA⟩
 obtain⟨o,ho⟩:∃o,ops[m]? = some o:=⟨ops[m],by simp[hms]⟩
 have hli:=hu.iff;have hsz:=hu.size;rw[hk];have hmr:m∈Region.ready .any ops listed:=by
  refine qbg.2 ⟨hms,?_,o,ho,fun e hee hb => ?_⟩
  ·cases hq:listed.getD m true
   ·rfl
   ·have:=(hli m hms).1 hq;omega
  ·have:=oh he m o (by simpa using ho) e hee hb
   have hlt:e.on<m:=oA
   have h5:=(hli e.on oA).2 hlt
   rw[Array.getD_eq_getD_getElem?]at h5 ⊢;have:listed[e.on]? = some listed[e.on]:=by simp[show e.on<listed.size by omega]
   rw[this]at h5 ⊢;exact h5
 refine⟨fun hnil=>(by rw[hnil]at hmr;cases hmr),fun i hi => ?_⟩
 have him:i=m:=by
  obtain⟨i1,i2,oi,i3,i4⟩:=qbg.1 hi;rcases Nat.lt_trichotomy i m with hlt|heq|hgt
  ·rw[(hli i i1).2 hlt]at i2;cases i2
  ·exact heq
  ·have hw:=q5c ht (show n<i by omega) i3
   obtain⟨e,he1,he2,he3⟩:=q5u hw;have:=i4 e he1 he3;rw[he2]at this;have hf:listed.getD (i-1) true=false:=by
    cases hq:listed.getD (i-1) true
    ·rfl
    ·have:=(hli (i-1) oA).1 hq;omega
   rw[Array.getD_eq_getD_getElem?]at this hf;have h6:listed[i-1]? = some listed[i-1]:=by simp[show i-1<listed.size by omega]
   rw[h6]at this hf;simp at this hf;rw[this]at hf;cases hf
 subst him;refine zfs (fun a w h => ?_) h
 have:=h (listed.setIfInBounds i true) ⟨by simp[hsz],fun j hj => ?_⟩
 ·rwa [show ops.size-(i+1)=k by omega]at this
 ·rw[Array.getD_eq_getD_getElem?,Array.getElem?_setIfInBounds];by_cases hij:i=j
  ·subst hij;simp[show i<listed.size by omega]
  ·rw[qW hij];have:=hli j hj;rw[Array.getD_eq_getD_getElem?]at this;rw[this];omega
structure uc(ops:Array Oper)(n:Nat)(L:List Nat)(listed:Array Bool):Prop where
 nodup:L.Nodup
 lt:∀i∈L,i<n
 size:listed.size=ops.size
 iff:∀j,j<ops.size->(listed.getD j true=true↔j∈L)
 closed:∀i∈L,∀o,ops[i]? = some o->∀e∈o.after,Region.binds .any e=true->e.on∈L
def uc.getD_false{ops:Array Oper}{n:Nat}{L:List Nat}{listed:Array Bool}(h:uc ops n L listed){j:Nat}(hj:j<ops.size):listed.getD j false=true↔j∈L:=by
 rw[← h.iff j hj,Array.getD_eq_getD_getElem?,Array.getD_eq_getD_getElem?];have hj':j<listed.size:=by rw[h.size];exact hj
 have:listed[j]? = some listed[j]:=by simp[hj']
 rw[this];simp
def zdt{Rs:List HR}(hh:qas s Rs){n:Nat}(ac:Rs.length=n){L:List Nat}(hlt:∀i∈L,i<n)(hall:∀i,i<n->i∈L):(dh Rs L s).eqv (l7 Rs s):=by
 have he:=zdq (Rs:=Rs) Rs 0 s (fun k _=>by rw[wO])
 rw[he];have hmem:∀j,j∈(List.range' 0 Rs.length).reverse↔j∈L:=fun j=>by
  rw[List.mem_reverse,List.mem_range'_1,ac];exact⟨fun h=>hall j oA,fun h=>⟨oA,by have:=hlt j h;omega⟩⟩
 refine⟨by rw[(pl Rs _ s).1,(pl Rs _ s).1],by rw[(pl Rs _ s).2,(pl Rs _ s).2],fun d => ?_,fun m => ?_,by rw[qov,qov]⟩
 ·by_cases hw:∃j,j∈L/\∃rj:HR,Rs[j]? = some rj/\rj.dst=d
  ·obtain⟨j,hj,rj,hrj,rfl⟩:=hw;rw[qdx hh hj hrj,qdx hh ((hmem j).2 hj) hrj]
  ·rw[qio (fun j hj rj hrj e=>hw ⟨j,hj,rj,hrj,e⟩),qio (fun j hj rj hrj e=>hw ⟨j,(hmem j).1 hj,rj,hrj,e⟩)]
 ·cases hq:af (dh Rs L s).hp m with
  |some b=>exact(qz4 hh (fun j hj=>(hmem j).2 hj) hq).symm
  |none=>
   cases hq':af (dh Rs (List.range' 0 Rs.length).reverse s).hp m with|none=>rfl|some b=>rw[qz4 hh (fun j hj=>(hmem j).1 hj) hq']at hq;cases hq
def zju{ops:Array Oper}{n:Nat}{Rs:List HR}(hn:n<=ops.size)(hed:lh ops.toList 0=true)(hH:∀i o,i<n->ops[i]? = some o->HOk P ops s Rs i o){L:List Nat}
  (hcl:∀i∈L,∀o,ops[i]? = some o->∀e∈o.after,Region.binds .any e=true->e.on∈L):∀(i:Nat)(o:Oper)(r:HR),i<n->ops[i]? = some o->Rs[i]? = some r->(∀e∈o.after,Region.binds .any e=true->e.on∈L)->(∀j∈r.pred,j∈L/\j<i):=by
 intro i
 induction i using Nat.strongRecOn with
 |ind i ih=>
  intro o r hi ho hr hall j hj;obtain⟨r',ps,_,h1,_,_,_,h5,_⟩:=hH i o hi ho;rw[hr]at h1;injection h1 with h1;subst h1
  obtain⟨e,he,hb,hje⟩:=(qkd h5).2 j hj;have hlt:=oh hed i o (by simpa using ho) e (by simpa using he) hb
  have hlt':e.on<i:=oA
  have heL:=hall e (by simpa using he) hb
  rcases hje with rfl|⟨re,hre,hje⟩
  ·exact⟨heL,hlt'⟩
  ·have hre':Rs[e.on]? = some re:=by rw[List.getElem?_take]at hre;rw[qX hlt']at hre;exact hre
   have hoe:ops[e.on]? = some ops[e.on]:=oB
   have:=ih e.on hlt' ops[e.on] re oA hoe hre' (hcl e.on heL _ hoe) j hje
   exact⟨this.1,oA⟩
def zwx{ops:Array Oper}{n:Nat}{Rs:List HR}{N:Act->World->Prop}(hn:n<=ops.size)(hed:lh ops.toList 0=true)(ht:nq ops n=true)(ac:Rs.length=n)
  (hH:∀i o,i<n->ops[i]? = some o->HOk P ops s Rs i o) (hh:qas s Rs)
  (htail:∀(G:Gh)(a:Act)(w:World)(listed:Array Bool),ai vif vh8 vic G (l7 Rs s) a w->xc ops n listed->ko P TT ops N (ops.size-n) listed a w) :
  ∀(g:Nat)(L:List Nat)(listed:Array Bool)(G:Gh)(a:Act)(w:World),ops.size=g+L.length->uc ops n L listed->ai vif vh8 vic G (dh Rs L s) a w->ko P TT ops N g listed a w:=by
 intro g
 induction g with
 |zero=>
  intro L listed G a w hg hinv hr;have h1:=yj n L hinv.nodup hinv.lt;have hnn:n=ops.size:=oA
  have hall:∀i,i<n->i∈L:=fun i hi=>by
   by_cases hm:i∈L
   ·exact hm
   ·have:=yj n (i::L) (List.nodup_cons.2 ⟨hm,hinv.nodup⟩) (fun j hj=>by
     rcases List.mem_cons.1 hj with rfl|hj;· exact hi
     ·exact hinv.lt j hj)
    simp at this;omega
  have:=htail G a w listed (hr.eqv (zdt hh ac hinv.lt hall)) ⟨hinv.size,fun j hj=>by rw[hinv.iff j hj];exact⟨fun h=>hinv.lt j h,fun h=>hall j h⟩⟩
  rwa [hnn,Nat.sub_self]at this
 |succ g ih=>
  intro L listed G a w hg hinv hr;by_cases hall:∀i,i<n->i∈L
  ·have h1:=yj n L hinv.nodup hinv.lt;have h2:=q28 n L hall;have:=htail G a w listed (hr.eqv (zdt hh ac hinv.lt hall)) ⟨hinv.size,fun j hj=>by rw[hinv.iff j hj];exact⟨fun h=>hinv.lt j h,fun h=>hall j h⟩⟩
   rwa [show ops.size-n=g+1 by omega]at this
  ·
   have hex:∃i,i<n/\i∉L/\∀j,j<i->j∈L:=by
    have:∃i,i<n/\i∉L:=by
     simpa using hall
    obtain⟨i,hi,hm⟩:=this;clear hall
    induction i using Nat.strongRecOn with
    |ind i ih=>
     by_cases hsm:∀j,j<i->j∈L
     ·exact⟨i,hi,hm,hsm⟩
     ·have:∃j,j<i/\j∉L:=by simpa using hsm
      obtain⟨j,hj,hjm⟩:=this;exact ih j hj oA hjm
   obtain⟨i0,hi0,hm0,hsm0⟩:=hex;have hi0s:i0<ops.size:=oA
   have h0r:i0∈Region.ready .any ops listed:=by
    refine qbg.2 ⟨hi0s,?_,ops[i0],oB,fun e he hb => ?_⟩
    ·cases hq:listed.getD i0 true
     ·rfl
     ·exact absurd ((hinv.iff i0 hi0s).1 hq) hm0
    ·have:=oh hed i0 ops[i0] oB e he hb
     have hlt:e.on<i0:=oA
     exact(hinv.getD_false oA).2 (hsm0 _ hlt)
   refine⟨fun hnil=>(by rw[hnil]at h0r;cases h0r),fun i hi => ?_⟩
   obtain⟨i1,i2,o,i3,i4⟩:=qbg.1 hi;have hiL:i∉L:=fun h=>by rw[(hinv.iff i i1).2 h]at i2;cases i2
   have hin:i<n:=by
    rcases Nat.lt_or_ge i n with h|h
    ·exact h
    ·rcases Nat.lt_or_ge n i with h|h
     ·obtain⟨e,he1,he2,he3⟩:=q5u (q5c ht h i3);have:=i4 e he1 he3;rw[he2,hinv.getD_false oA]at this
      have:=hinv.lt _ this;omega
     ·have:i=n:=oA
      subst this;exact absurd (zl3 ht i3 hinv.closed (fun e he hb=>by
       have hlt:=oh hed i o (by simpa using i3) e he hb
       exact(hinv.getD_false oA).1 (i4 e he hb)) i0 hi0) hm0
   have hedge:∀e∈o.after,Region.binds .any e=true->e.on∈L:=fun e he hb=>by
    have hlt:=oh hed i o (by simpa using i3) e he hb
    exact(hinv.getD_false oA).1 (i4 e he hb)
   obtain⟨r,ps,c,h1,h2,h3,h4,h5,h6,h7,h8,h9,h10⟩:=hH i o hin i3;have hpred:=zju hn hed hH hinv.closed i o r hin i3 h1 hedge;have hlen':∀k,k<(Rs.take i).length->Rs[0+k]? = (Rs.take i)[k]? := fun k hk=>by
    rw[List.getElem?_take,qX (by simp at hk;omega),wO]
   have htk:(Rs.take i).length=i:=by simp;omega
   rw[qz9 (Rs:=Rs) (Rs.take i) 0 s hlen',htk]at h9
   -- which slots and boxes the operation sees
   have hsel:∀j,j∈((List.range' 0 i).filter (bn r.pred)).reverse↔j∈r.pred:=fun j=>by
    rw[List.mem_reverse,List.mem_filter,fe];constructor
    ·exact fun h=>h.2
    ·intro h;refine⟨?_,h⟩;rw[List.mem_range'_1];exact⟨oA,by have:=(hpred j h).2;omega⟩
   have hreads:∀d∈jf ops o,af (dh Rs ((List.range' 0 i).filter (bn r.pred)).reverse s).fr d=af (dh Rs L s).fr d:=fun d hd=>by
    by_cases hw:∃j rj,Rs[j]? = some rj/\rj.dst=d/\(j∈r.pred\/j∈L)
    ·obtain⟨j,rj,hj,rfl,hjj⟩:=hw;have hjp:j∈r.pred:=by
      rcases hjj with h|h
      ·exact h
      ·
       have hjn:=hinv.lt j h;have hji:j≠i:=fun e=>hiL (e▸h)
       rcases Nat.lt_or_gt_of_ne hji with hlt|hgt
       ·rcases q4k h7 j rj (by rw[List.getElem?_take,qX hlt];exact hj) with h'|h'
        ·simpa using h'
        ·exact absurd hd h'
       ·have hoj:ops[j]? = some ops[j]:=oB
        obtain⟨rj',psj,cj,k1,k2,_,_,_,_,_,k8,_⟩:=hH j ops[j] hjn hoj;rw[hj]at k1;injection k1 with k1;subst k1
        rcases q5x k8 i o hgt i3 with h'|h'
        ·have:=zju hn hed hH hinv.closed j ops[j] rj hjn hoj hj (hinv.closed j h _ hoj) i h';exact absurd this.1 hiL
        ·exact absurd hd h'
     rw[qdx hh ((hsel j).2 hjp) hj,qdx hh (hpred j hjp).1 hj]
    ·rw[qio (fun j hj rj hrj e=>hw ⟨j,rj,hrj,e,.inl ((hsel j).1 hj)⟩),qio (fun j hj rj hrj e=>hw ⟨j,rj,hrj,e,.inr hj⟩)]
   have hsees:ph o (dh Rs ((List.range' 0 i).filter (bn r.pred)).reverse s) (dh Rs L s):=by
    refine⟨by rw[(pl Rs _ s).2,(pl Rs _ s).2],fun x hx => ?_,fun m b hb=>qz4 hh (fun j hj=>(hpred j ((hsel j).1 hj)).1) hb,fun d hd => ?_⟩
    ·cases x with
     |tmp t=>
      exact hreads t (by simp only[jf];refine List.mem_append.2 (.inl ?_);rw[List.mem_filterMap];exact⟨.tmp t,hx,rfl⟩)
     |_=>rfl
    ·rw[h2]at hd;injection hd with hd;subst hd
     rw[(pl Rs _ s).2];exact zdu hh h1 hiL
   have h9':=zeh hsees hreads h9;have hadd:(dh Rs L s).add o.dst r.v r.new=some (dh Rs (i::L) s):=by
    rw[h2];have hbl:Nat.blt r.dst s.n=true:=by simpa using h3
    simp only[St.add,(pl Rs L s).1,hbl,qT,dh,h1,St.addR]
   refine zeg hr i3 h9' h10 hadd (fun G' a' w' hr'=>ih (i::L) _ G' a' w' oD ?_ hr')
   refine⟨List.nodup_cons.2 ⟨hiL,hinv.nodup⟩,fun j hj => ?_,by simp[hinv.size],fun j hj => ?_,fun j hj oj hoj e he hb => ?_⟩
   ·rcases List.mem_cons.1 hj with rfl|hj
    ·exact hin
    ·exact hinv.lt j hj
   ·rw[Array.getD_eq_getD_getElem?,Array.getElem?_setIfInBounds];by_cases hij:i=j
    ·subst hij;simp[hinv.size,i1]
    ·rw[qW hij];have:=hinv.iff j hj;rw[Array.getD_eq_getD_getElem?]at this;rw[this,wE];exact⟨fun h => .inr h,fun h=>h.resolve_left (fun e=>hij e.symm)⟩
   ·rcases List.mem_cons.1 hj with rfl|hj
    ·rw[i3]at hoj;injection hoj with hoj;subst hoj
     exact qE _ (hedge e he hb)
    ·exact qE _ (hinv.closed j hj oj hoj e he hb)
def zvr{ops:Array Oper}{n:Nat}{Rs:List HR}{N:Act->World->Prop}(hn:n<=ops.size)(hed:lh ops.toList 0=true)(ht:nq ops n=true)(hm:P.follows .mixedOrders=true)(ac:Rs.length=n)
  (hH:∀i o,i<n->ops[i]? = some o->HOk P ops s Rs i o)
  (htail:∀(G:Gh)(a:Act)(w:World)(listed:Array Bool),ai vif vh8 vic G (l7 Rs s) a w->xc ops n listed->ko P TT ops N (ops.size-n) listed a w) {G:Gh} {a:Act} {w:World} (hr:ai vif vh8 vic G s a w) (id:Nat)
  (b:Frame) (k:List Item) (cs:List Frame) (hk:b.kind = .normal) :
  (∃a' w',N a' w'/\Steps P (lone (b.atR a.bs (.code (.region id ops true)::k)) cs w) (lone (b.atR a'.bs k) cs w'))\/iy P b.fn TT (lone (b.atR a.bs (.code (.region id ops true)::k)) cs w) cs:=by
 have hop:∀i,i<n->ops[i]? = some (ops[i]?.getD default):=fun i hi=>by
  have:i<ops.size:=oA
  simp[this]
 have hh:qas s Rs:=by
  refine⟨fun i j r r' hi hj hd => ?_,fun i r hi => ?_,fun i r hi => ?_⟩
  ·have hi':i<n:=by have:=(List.getElem?_eq_some_iff.1 hi).1;omega
   have hj':j<n:=by have:=(List.getElem?_eq_some_iff.1 hj).1;omega
   obtain⟨ri,_,_,k1,_,_,_,_,k6,_⟩:=hH i _ hi' (hop i hi');obtain⟨rj,_,_,l1,_,_,_,_,l6,_⟩:=hH j _ hj' (hop j hj');rw[hi]at k1;injection k1 with k1;subst k1
   rw[hj]at l1;injection l1 with l1;subst l1
   rcases Nat.lt_trichotomy i j with hlt|heq|hgt
   ·exact absurd hd (xy.1 l6 r (List.mem_of_getElem? (i:=i) (by rw[List.getElem?_take,qX hlt];exact hi)))
   ·exact heq
   ·exact absurd hd.symm (xy.1 k6 r' (List.mem_of_getElem? (i:=j) (by rw[List.getElem?_take,qX hgt];exact hj)))
  ·have hi':i<n:=by have:=(List.getElem?_eq_some_iff.1 hi).1;omega
   obtain⟨ri,ps,_,k1,k2,_,_,_,_,_,_,k9,_⟩:=hH i _ hi' (hop i hi');rw[hi]at k1;injection k1 with k1;subst k1
   have:=zef k2 k9;have hlen':∀k,k<(Rs.take i).length->Rs[0+k]? = (Rs.take i)[k]? := fun k hk=>by
    rw[List.getElem?_take,qX (by simp at hk;omega),wO]
   rw[qz9 (Rs:=Rs) (Rs.take i) 0 s hlen',(pl Rs _ s).2]at this;exact this
  ·have hi':i<n:=by have:=(List.getElem?_eq_some_iff.1 hi).1;omega
   obtain⟨ri,_,_,k1,_,_,k4,_⟩:=hH i _ hi' (hop i hi');rw[hi]at k1;injection k1 with k1;subst k1
   exact k4
 refine zft hm ?_ b k cs hk;refine zwx (vif:=vif) (vh8:=vh8) (vic:=vic) (N:=N) hn hed ht ac hH hh htail ops.size [] _ G a _ oB ?_ ?_
 ·refine⟨List.nodup_nil,fun i hi=>(by cases hi),oB,fun j hj => ?_,fun i hi=>(by cases hi)⟩
  rw[Array.getD_eq_getD_getElem?];simp[hj]
 ·exact⟨hr.defers,hr.size,hr.frame,hr.fresh,⟨⟨hr.fin.mem.agree,hr.fin.mem.one,hr.fin.mem.holds,hr.fin.mem.apart,hr.fin.mem.tab⟩,⟨hr.fin.bel.os,hr.fin.bel.tape,hr.fin.bel.output,hr.fin.bel.size,hr.fin.bel.block⟩,hr.fin.imm_le,hr.fin.imm_new,hr.fin.base,hr.fin.keep,hr.fin.keepOwn⟩⟩
end
end Go.Sym
namespace Go.Sym
open Go.RowKit
variable[LC]
def St.ownNew(s:St)(k:Nat)(τ:Ty)(E:TypeId):St:={ s with hp:=(k,.row τ [] E)::s.hp }
def mh:AV->Bool|.val (.slice none 0 0)=>true|_=>false
def St.ownNil(s:St)(i:Nat)(τ:Ty)(E:TypeId):Option St:=
 match af s.fr i with
 |some x=>bif mh x&&az (s.nx+32*i) s.hp then
   some { n:=s.n,fr:=(i,.own (s.nx+32*i))::s.fr,hp:=(s.nx+32*i,.row τ [] E)::s.hp,nx:=s.nx+32*s.n,df:=s.df } else none
 |none=>none
def St.ownCell(s:St)(b off:Nat)(τ:Ty)(E:TypeId):Option St:=
 match af s.hp b with
 |some (.cells cs T)=>match cs[off]? with
  |some x=>bif mh x&&az s.nx s.hp then
    some { n:=s.n,fr:=s.fr,hp:=(b,.cells (cs.set off (.own s.nx)) T)::(s.nx,.row τ [] E)::s.hp,nx:=s.nx+32*s.n,df:=s.df } else none
  |none=>none
 |_=>none
section
variable{P:Program}{vif:World}{vh8:Gh}{vic:List (Nat×ag)}{G:Gh}{s:St}{a:Act}{w:World}
def ai.bump(hr:ai vif vh8 vic G s a w):ai vif vh8 vic G s.bump a w:=⟨hr.defers,hr.size,hr.frame,fun m hm hl=>hr.fresh m (by simp[St.bump]at hm;omega) hl,hr.fin⟩
mutual
def aj.frz{k:Nat}{y:AV}{G':Gh}(hle:G.le G')(hy:∀v,aj (.own k) G v->aj y G' v):∀{x:AV}{v:Value},aj x G v->aj (AV.frz k y x) G' v
 |.undef,_,_=>trivial|.int _ _,_,h=>h|.byte _,_,h=>h|.bool _,_,h=>h|.str _,_,h=>h|.val _,_,h=>h|.sl τ l,v,h=>(show aj (.sl τ l) G v from h).le hle|.yld n,v,h=>(show aj (.yld n) G v from h).le hle|.pn n,v,h=>(show aj (.pn n) G v from h).le hle|.arr τ l,v,h=>(show aj (.arr τ l) G v from h).le hle|.rop cs,v,h=>(show aj (.rop cs) G v from h).le hle|.ptr b off,v,h=>(show aj (.ptr b off) G v from h).le hle|.oel n sz i off,v,h=>(show aj (.oel n sz i off) G v from h).le hle|.osl n sz lo,v,h=>(show aj (.osl n sz lo) G v from h).le hle|.asl b n c,v,h=>(show aj (.asl b n c) G v from h).le hle|.agg cs,_,⟨vs,h1,h2⟩=>⟨vs,h1,ak.frz hle hy h2⟩|.tup cs,_,⟨vs,h1,h2⟩=>⟨vs,h1,ak.frz hle hy h2⟩|.own n,v,h=>by
  simp[AV.frz];cases hb:Nat.beq n k
  ·exact(show aj (.own n) G v from h).le hle
  ·have:=qN hb;subst this;exact hy v h
 |.fn f first cap,_,⟨fs,cs,h1,h2,h3⟩=>⟨fs,cs,h1,ak.frz hle hy h2,ak.frz hle hy h3⟩
 |.iface t x,_,⟨u,h1,h2⟩=>⟨u,h1,aj.frz hle hy h2⟩
def ak.frz{k:Nat}{y:AV}{G':Gh}(hle:G.le G')(hy:∀v,aj (.own k) G v->aj y G' v):∀{xs:List AV}{vs:List Value},ak xs G vs->ak (AV.frzs k y xs) G' vs|[],[],_=>trivial|_x::_xs,_v::_vs,h=>⟨aj.frz hle hy h.1,ak.frz hle hy h.2⟩|[],_::_,h=>h.elim|_::_,[],h=>h.elim
end
def q2j{k:Nat}{y:AV}:∀{fr:List (Nat×AV)}{i:Nat}{x:AV},af (qjl k y fr) i=some x->∃x0,af fr i=some x0/\x=AV.frz k y x0
 |[],i,x,h=>by cases h
 |(n,z)::r,i,x,h=>by
  simp[qjl,af]at h ⊢;cases hb:Nat.beq n i
  ·rw[hb]at h;exact q2j h
  ·rw[hb]at h;simp only[qT,qI]at h ⊢;exact⟨z,rfl,h.symm⟩
def q2k{k:Nat}{y:AV}:∀{hp:List (Nat×ag)}{i:Nat},af (qjm k y hp) i=(af hp i).map (qqe k y)
 |[],i=>rfl|(n,b)::r,i=>by
  simp[qjm,af];cases hb:Nat.beq n i<;>simp[q2k (hp:=r)]
def ai.freeze(hr:ai vif vh8 vic G s a w){k:Nat}{s':St}(h:s.freeze k=some s'):∃G',ai vif vh8 vic G' s' a w:=by
 unfold St.freeze at h;split at h
 ·rename_i τ l E hk;simp at h;subst h;have hl1:∀n bx,af [(k,ag.row τ l E)] n=some bx->n=k/\bx = .row τ l E:=fun n bx h=>by
   simp[af]at h;cases hb:Nat.beq k n
   ·rw[hb]at h;cases h
   ·rw[hb]at h;simp at h;exact⟨(qN hb).symm,h.symm⟩
  have hlk:af [(k,ag.row τ l E)] k=some (.row τ l E):=by simp only[af];rw[show Nat.beq k k=true by simp];rfl
  have hf1:Fin vif vh8 vic G ({ s with hp:=[(k,.row τ l E)] }:St).hp w:=by
   refine⟨⟨hr.fin.mem.agree,hr.fin.mem.one,fun n bx hb => ?_,fun n m bx bx' b h1 h2 _ _ => ?_,hr.fin.mem.tab⟩,hr.fin.bel,hr.fin.imm_le,hr.fin.imm_new,fun n bx b h1 h2 => ?_,hr.fin.keep,hr.fin.keepOwn⟩
   ·obtain⟨rfl,rfl⟩:=hl1 n bx hb;exact hr.fin.mem.holds _ _ hk
   ·obtain⟨rfl,_⟩:=hl1 n bx h1;obtain⟨rfl,_⟩:=hl1 m bx' h2;rfl
   ·obtain⟨rfl,rfl⟩:=hl1 n bx h1;exact hr.fin.base _ _ b hk h2
  obtain⟨z1,z2,z3,z4⟩:=q0b hf1
  let G':=G.allData [(k,.row τ l E)] w
  have hown:∀v,aj (.own k) G v->aj (.sl τ l) G' v:=fun v hv=>z4 k τ l E v hlk hv
  have hnew:∀b o v,G'.imm b o=some v->G.imm b o=some v\/G.at k (.row τ l E)=some b:=fun b o v h=>by
   simp[G',Gh.allData]at h
   cases hq:G.imm b o with
   |some u=>rw[hq]at h;exact .inl h|none=>
    rw[hq]at h;simp only at h;split at h
    ·rename_i hin;obtain⟨n,τ1,l1,E1,i1,i2,_⟩:=hin;obtain⟨rfl,e⟩:=hl1 n _ i1;rw[e]at i2;exact .inr i2
    ·cases h
  have hother:∀n bx B,n≠k->af s.hp n=some bx->G.at n bx=some B->(∀o,G.imm B o=none)->∀o,G'.imm B o=none:=fun n bx B hn h1 h2 h3 o=>by
   cases hq:G'.imm B o with
   |none=>rfl|some v=>
    rcases hnew B o v hq with h|h
    ·rw[h3]at h;cases h
    ·exact absurd (hr.fin.mem.apart n k bx _ B h1 hk h2 h) hn
  have hlook:∀n bx,af ((k,ag.dead)::qjm k (.sl τ l) s.hp) n=some bx->bx = .dead\/(n≠k/\∃b0,af s.hp n=some b0/\bx=qqe k (.sl τ l) b0):=fun n bx h=>by
   simp[af]at h;cases hb:Nat.beq k n
   ·rw[hb]at h;simp at h;rw[q2k]at h
    cases hq:af s.hp n with
    |none=>rw[hq]at h;cases h
    |some b0=>rw[hq]at h;simp at h;exact .inr ⟨fun e=>by subst e;simp at hb,b0,rfl,h.symm⟩
   ·rw[hb]at h;simp at h;exact .inl h.symm
  have hat:∀n b0,G'.at n (qqe k (.sl τ l) b0)=G.at n b0:=fun n b0=>by cases b0<;>rfl
  refine⟨G',⟨hr.defers,hr.size,fun i x hx => ?_,fun m hm hl => ?_,⟨⟨z2.agree,z2.one,fun n bx hb => ?_,fun n m bx bx' b h1 h2 h3 h4 => ?_,z2.tab⟩,hr.fin.bel,fun b o v h=>z1.imm _ _ _ (hr.fin.imm_le b o v h),fun b o v h => ?_,fun n bx b h1 h2 => ?_,hr.fin.keep,hr.fin.keepOwn⟩⟩⟩
  ·obtain⟨x0,h1,rfl⟩:=q2j hx;obtain⟨v,h2,h3⟩:=hr.frame i x0 h1;exact⟨v,h2,aj.frz z1 hown h3⟩
  ·refine hr.fresh m hm ?_;simp[af]at hl;cases hb:Nat.beq k m
   ·rw[hb]at hl;simp at hl;rw[q2k]at hl
    cases hq:af s.hp m with|none=>rfl|some b0=>rw[hq]at hl;cases hl
   ·rw[hb]at hl;cases hl
  ·rcases hlook n bx hb with rfl|⟨hn,b0,h0,rfl⟩
   ·trivial
   ·have hb0:=hr.fin.mem.holds n b0 h0;have ho:=hother n b0
    cases b0 with
    |cells cs T=>
     obtain⟨B,vs,h1,h2,h3,h4,h5⟩:=hb0;exact⟨B,vs,h1,h2,ak.frz z1 hown h3,h4,ho B hn h0 (by simp[Gh.at,h1]) h5⟩
    |loop st pe f j fr ps tag D=>
     obtain⟨B,tmps,DB,h1,h2,h3,h4,h5,h6⟩:=hb0;refine⟨B,tmps,DB,h1,h2,h3,h4,fun i x hx => ?_,ho B hn h0 (by simp[Gh.at,h1]) h6⟩
     obtain⟨x0,q1,rfl⟩:=q2j hx;obtain⟨v,q2,q3⟩:=h5 i x0 q1;exact⟨v,q2,aj.frz z1 hown q3⟩
    |dfr=>
     obtain⟨B,h1,h2,h3⟩:=hb0;exact⟨B,h1,h2,ho B hn h0 (by simp[Gh.at,h1]) h3⟩
    |it s0 p0=>
     obtain⟨B,h1,h2,h3⟩:=hb0;exact⟨B,h1,h2,ho B hn h0 (by simp[Gh.at,h1]) h3⟩
    |row τ1 l1 E1=>
     obtain⟨ad,c,h1,h3⟩:=hb0;refine⟨ad,c,h1,?_⟩;rcases h3 with h3|⟨g,vs,fz,k1,k2,k3,k4,k5,k6,k7,k8,k9⟩
     ·exact .inl h3
     ·exact .inr ⟨g,vs,fz,k1,k2,k3,k4,k5,k6,ak.data_le z1.imm k7,k8,ho g hn h0 (by subst k1;simp[Gh.at,h1]) k9⟩
    |dead=>trivial
  ·rcases hlook n bx h1 with rfl|⟨hn,b0,h0,rfl⟩
   ·cases h3
   ·rcases hlook m bx' h2 with rfl|⟨hm,b1,h5,rfl⟩
    ·cases h4
    ·rw[hat]at h3 h4;exact hr.fin.mem.apart n m b0 b1 b h0 h5 h3 h4
  ·rcases hnew b o v h with h|h
   ·exact hr.fin.imm_new b o v h
   ·exact .inr (hr.fin.base k _ b hk h)
  ·rcases hlook n bx h1 with rfl|⟨hn,b0,h0,rfl⟩
   ·cases h2
   ·rw[hat]at h2;exact hr.fin.base n b0 b h0 h2
 ·cases h
def zhq{x:AV}(h:mh x=true):x = .val (.slice none 0 0):=by
 unfold mh at h;split at h
 ·rfl
 ·cases h
def ai.ownNew(hr:ai vif vh8 vic G s a w){k:Nat}(τ:Ty)(E:TypeId)(hk:af s.hp k=none)(hkx:s.nx<=k):∃G',G.le G'/\G'.own k=some (none,0,0)/\ai vif vh8 vic G' (s.ownNew k τ E) a w:=by
 obtain⟨hkb,hko⟩:=hr.fresh k hkx hk;have hle:G.le (G.addOwn k (none,0,0)):=Gh.addOwn_le hko;have hl1:∀n bx,af [(k,ag.row τ [] E)] n=some bx->n=k/\bx = .row τ [] E:=fun n bx h=>by
  simp[af]at h;cases hb:Nat.beq k n
  ·rw[hb]at h;cases h
  ·rw[hb]at h;simp at h;exact⟨(qN hb).symm,h.symm⟩
 refine⟨G.addOwn k (none,0,0),hle,Gh.addOwn_self,⟨by obtain⟨bs,q1,q2⟩:=hr.defers;exact⟨bs,q1,ry hle.box q2⟩,hr.size,fun j x hx => ?_,fun m hm hlm => ?_,?_⟩⟩
 ·obtain⟨v,h1,h2⟩:=hr.frame j x hx;exact⟨v,h1,h2.le hle⟩
 ·simp[St.ownNew,af]at hlm;cases hq:Nat.beq k m
  ·rw[hq]at hlm;obtain⟨h1,h2⟩:=hr.fresh m hm hlm;refine⟨h1,?_⟩;show(bif Nat.beq m k then some _ else G.own m)=none
   cases hbm:Nat.beq m k
   ·exact h2
   ·have:=qN hbm;subst this;simp at hq
  ·rw[hq]at hlm;cases hlm
 ·refine hr.fin.extend (new:=[(k,.row τ [] E)]) hle ⟨rfl,rfl,rfl,wF _,fun _ _ _=>rfl⟩ (fun _ _ _ h => .inl h) hr.fin.mem.agree hr.fin.mem.one ?_ ?_ ?_
  ·intro n bx h;obtain⟨rfl,_⟩:=hl1 n bx h;exact hk
  ·intro n bx h;obtain⟨rfl,rfl⟩:=hl1 n bx h;exact⟨⟨none,0,Gh.addOwn_self,.inl ⟨rfl,rfl,rfl⟩⟩,fun b hb=>by simp only[Gh.at,Gh.addOwn_self]at hb;cases hb⟩
  ·intro n m bx bx' b h1 h2 _ _;obtain⟨rfl,_⟩:=hl1 n bx h1;obtain⟨rfl,_⟩:=hl1 m bx' h2;rfl
def ai.ownNil(hr:ai vif vh8 vic G s a w){i:Nat}{τ:Ty}{E:TypeId}{s':St}(h:s.ownNil i τ E=some s'):∃G',ai vif vh8 vic G' s' a w:=by
 unfold St.ownNil at h;split at h
 ·rename_i x hi;cases hb:mh x&&az (s.nx+32*i) s.hp<;>rw[hb]at h<;>simp at h
  subst h;simp at hb;have hx:=zhq hb.1;subst hx;obtain⟨G',hle,ho,hr'⟩:=hr.ownNew τ E (mi hb.2 _ (wF _) oA) oA
  refine⟨G',⟨hr'.defers,hr'.size,fun j x hx => ?_,fun m hm hl=>hr'.fresh m (by simp only at hm;show s.nx<=m;omega) hl,hr'.fin⟩⟩
  simp[af]at hx;cases hq:Nat.beq i j
  ·rw[hq]at hx;exact hr'.frame j x hx
  ·rw[hq]at hx;simp at hx;subst hx;have:=qN hq;subst this;obtain⟨v,h1,h2⟩:=hr'.frame i _ hi;exact⟨v,h1,none,0,0,ho,h2⟩
 ·cases h
def ai.ownCell(hr:ai vif vh8 vic G s a w){b off:Nat}{τ:Ty}{E:TypeId}{s':St}(h:s.ownCell b off τ E=some s'):∃G',ai vif vh8 vic G' s' a w:=by
 unfold St.ownCell at h;split at h
 ·rename_i cs T hb0;split at h
  ·rename_i x hx0;cases hb:mh x&&az s.nx s.hp<;>rw[hb]at h<;>simp at h
   subst h;simp at hb;have hx:=zhq hb.1;subst hx;have hk:=mi hb.2 s.nx (wF _) oA
   obtain⟨G',hle,ho,hr'⟩:=hr.ownNew τ E hk (wF _);have hne:s.nx≠b:=fun e=>by rw[e,hb0]at hk;cases hk
   have hb1:af (s.ownNew s.nx τ E).hp b=some (.cells cs T):=by
    simp[St.ownNew,af];cases hq:Nat.beq s.nx b
    ·exact hb0
    ·exact absurd (qN hq) hne
   obtain⟨B,vs,k1,k2,k3,k4,k5⟩:=hr'.fin.mem.holds _ _ hb1;refine⟨G',⟨hr'.defers,hr'.size,hr'.frame,fun m hm hl=>hr'.fresh m (by simp only at hm;show s.nx<=m;omega) ?_,?_⟩⟩
   ·simp[af]at hl;cases hq:Nat.beq b m
    ·rw[hq]at hl;exact hl
    ·rw[hq]at hl;cases hl
   ·have hv:vs.toList[off]? = some (.slice none 0 0):=by
     obtain⟨v,h1,h2⟩:=jx k3 hx0;simp[aj]at h2;subst h2;exact h1
    have hset:vs.toList.set off (.slice none 0 0)=vs.toList:=by
     obtain⟨hlt,he⟩:=List.getElem?_eq_some_iff.1 hv;rw[← he,List.set_getElem_self]
    refine hr'.fin.update (bx := .cells cs T) (bx' := .cells (cs.set off (.own s.nx)) T) hb1 (B:=B) k1 k1 ⟨rfl,rfl,rfl,wF _,fun _ _ _=>rfl⟩ ⟨B,vs,k1,k2,?_,k4,k5⟩ k5
    have:=qkh off k3 (x := .own s.nx) (v := .slice none 0 0) ⟨none,0,0,ho,rfl⟩
    rwa [hset]at this
  ·cases h
 ·cases h
end
def Ty.dec:(τ:Ty)->List AV->Option (τ.den×List AV)
 |.int k,x::r=>match x with|.int k' n=>bif decide (k'=k) then some (n,r) else none|.val (.int k' n)=>bif decide (k'=k) && !decide (k' = .u8) then some (n,r) else none|_=>none
 |.byte,x::r=>match x with|.byte c=>some (c,r)|.val (.int .u8 n)=>bif decide (0<=n)&&decide (n<256) then some (UInt8.ofNat n.toNat,r) else none|_=>none
 |.bool,x::r=>match x with|.bool b=>some (b,r)|.val (.bool b)=>some (b,r)|_=>none
 |.str,x::r=>match x with|.str s=>some (s,r)|_=>none
 |.unit,r=>some ((),r)|.prod a b,cs=>match a.dec cs with
  |some (x,r)=>match b.dec r with|some (y,r')=>some ((x,y),r')|none=>none
  |none=>none
 |.list a,x::r=>match x with
  |.sl a' l=>match Ty.eq? a' a with|some ⟨h⟩=>some (h▸l,r)|none=>none
  |.val (.slice none 0 0)=>some (([]:List a.den),r)|_=>none
 |.tree a,cs=>match a.dec cs with
  |some (v,x::r)=>match x with
   |.sl a' l=>match Ty.eq? a' (.tree a) with|some ⟨h⟩=>some (Tree.node v (h▸l:List (Ty.tree a).den),r)|none=>none
   |.val (.slice none 0 0)=>some (Tree.node v [],r)|_=>none
  |_=>none
 |_,[]=>none
def zmt{b:Bool}{hp:List (Nat×ag)}:∀{xs ys xs' ys':List AV}{ps ps':List Prop},bp b hp xs ys=some ps->bp b hp xs' ys'=some ps'->bp b hp (xs++xs') (ys++ys')=some (ps++ps')
 |[],[],_,_,ps,ps',h,h'=>by simp[bp,qI]at h;subst h;exact h'|x::xs,y::ys,xs',ys',ps,ps',h,h'=>by
  simp[bp,wK]at h ⊢;split at h
  ·rename_i p1 h1;split at h
   ·rename_i p2 h2;simp at h;subst h;rw[zmt h2 h',qS]
   ·cases h
  ·cases h
 |[],_::_,_,_,_,_,h,_=>by simp[bp]at h|_::_,[],_,_,_,_,h,_=>by simp[bp]at h
def fp(xs ys:List AV):Prop:=(∀ρ,AV.rens ρ xs=xs)/\∃ps,bp false [] xs ys=some ps/\ar ps
def fp.append{xs ys xs' ys':List AV}(h:fp xs ys)(h':fp xs' ys'):fp (xs++xs') (ys++ys'):=by
 obtain⟨h1,ps,h2,h3⟩:=h;obtain⟨h1',ps',h2',h3'⟩:=h';exact⟨fun ρ=>by rw[AV.rens_append,h1,h1'],_,zmt h2 h2',du.2 ⟨h3,h3'⟩⟩
def fp.one{x y:AV}(h:∀ρ,x.ren ρ=x){ps:List Prop}(hv:vw false [] x y=some ps)(hp:ar ps):fp [x] [y]:=
 ⟨fun ρ=>by simp[AV.rens,h],ps++[],by simp[bp,hv],du.2 ⟨hp,trivial⟩⟩
def fp.same{x:AV}(h:∀ρ,x.ren ρ=x)(hv:vw false [] x x=some [x=x]):fp [x] [x]:=fp.one h hv ⟨rfl,trivial⟩
def zfb{a' a:Ty}(h:a'=a)(l:List a'.den):AV.sl a (h▸l)=AV.sl a' l:=by subst h;rfl
def ux:∀{τ:Ty}{cs:List AV}{d:τ.den}{r:List AV},τ.dec cs=some (d,r)->∃ab,cs=ab++r/\fp ab (τ.enc d)
 |.int k,x::cs,d,r,h=>by
  simp[Ty.dec]at h;split at h
  ·rename_i k' n;cases hk:decide (k'=k)<;>rw[hk]at h<;>simp at h
   obtain⟨rfl,rfl⟩:=h;have:k'=k:=by simpa using hk
   subst this;exact⟨[.int k' d],rfl,fp.same (fun ρ=>rfl) rfl⟩
  ·rename_i k' n;cases hk:decide (k'=k) && !decide (k' = .u8)<;>rw[hk]at h<;>simp at h
   obtain⟨rfl,rfl⟩:=h;simp at hk;obtain⟨rfl,hk⟩:=hk;refine⟨[.val (.int k' d)],rfl,fp.one (y := .int k' d) (ps:=[AV.int k' d=mj (.int k' d)]) (fun ρ=>rfl) rfl ⟨?_,trivial⟩⟩
   cases k'<;>first|rfl|exact absurd rfl hk
  ·cases h
 |.byte,x::cs,d,r,h=>by
  simp[Ty.dec]at h;split at h
  ·rename_i c;simp at h;obtain⟨rfl,rfl⟩:=h;exact⟨[.byte d],rfl,fp.same (fun ρ=>rfl) rfl⟩
  ·rename_i n;cases hk:decide (0<=n)&&decide (n<256)<;>rw[hk]at h<;>simp at h
   obtain⟨rfl,rfl⟩:=h;refine⟨[.val (.int .u8 n)],rfl,fp.one (y := .byte (UInt8.ofNat n.toNat)) (ps:=[AV.byte (UInt8.ofNat n.toNat)=mj (.int .u8 n)]) (fun ρ=>rfl) rfl ⟨?_,trivial⟩⟩
   simp[mj,hk,qT]
  ·cases h
 |.bool,x::cs,d,r,h=>by
  simp[Ty.dec]at h;split at h
  ·rename_i b;simp at h;obtain⟨rfl,rfl⟩:=h;exact⟨[.bool d],rfl,fp.same (fun ρ=>rfl) rfl⟩
  ·rename_i b;simp at h;obtain⟨rfl,rfl⟩:=h;exact⟨[.val (.bool d)],rfl,fp.one (y := .bool d) (ps:=[AV.bool d=mj (.bool d)]) (fun ρ=>rfl) rfl ⟨rfl,trivial⟩⟩
  ·cases h
 |.str,x::cs,d,r,h=>by
  simp[Ty.dec]at h;split at h
  ·rename_i b;simp at h;obtain⟨rfl,rfl⟩:=h;exact⟨[.str d],rfl,fp.same (fun ρ=>rfl) rfl⟩
  ·cases h
 |.unit,cs,d,r,h=>by
  simp[Ty.dec,qI]at h;obtain⟨_,rfl⟩:=h;exact⟨[],rfl,fun ρ=>rfl,[],rfl,trivial⟩
 |.prod a b,cs,d,r,h=>by
  simp[Ty.dec]at h;split at h
  ·rename_i x r1 h1;split at h
   ·rename_i y r2 h2;simp at h;obtain⟨rfl,rfl⟩:=h;obtain⟨p1,rfl,s1⟩:=ux h1;obtain⟨p2,rfl,s2⟩:=ux h2;exact⟨p1++p2,oB,s1.append s2⟩
   ·cases h
  ·cases h
 |.list a,x::cs,d,r,h=>by
  simp[Ty.dec]at h;split at h
  ·rename_i a' l;split at h
   ·rename_i hh _;simp at h;obtain⟨rfl,rfl⟩:=h;exact⟨[.sl a' l],rfl,fp.one (y := .sl a (hh▸l)) (ps:=[AV.sl a (hh▸l)=AV.sl a' l]) (fun ρ=>rfl) rfl ⟨zfb hh l,trivial⟩⟩
   ·cases h
  ·simp at h;obtain⟨rfl,rfl⟩:=h;exact⟨[.val (.slice none 0 0)],rfl,fp.one (y := .sl a []) (ps:=[([]:List a.den).length=0]) (fun ρ=>rfl) rfl ⟨rfl,trivial⟩⟩
  ·cases h
 |.tree a,cs,d,r,h=>by
  simp[Ty.dec]at h;split at h
  ·rename_i v x r1 h1;obtain⟨p1,rfl,s1⟩:=ux h1;split at h
   ·rename_i a' l;split at h
    ·rename_i hh _;simp at h;obtain⟨rfl,rfl⟩:=h;exact⟨p1++[.sl a' l],oB,s1.append (fp.one (y := .sl (.tree a) (hh▸l)) (ps:=[AV.sl (.tree a) (hh▸l)=AV.sl a' l]) (fun ρ=>rfl) rfl ⟨zfb hh l,trivial⟩)⟩
    ·cases h
   ·simp at h;obtain⟨rfl,rfl⟩:=h;exact⟨p1++[.val (.slice none 0 0)],oB,s1.append (fp.one (y := .sl (.tree a) []) (ps:=[([]:List (Ty.tree a).den).length=0]) (fun ρ=>rfl) rfl ⟨rfl,trivial⟩)⟩
   ·cases h
  ·cases h
 |.int _,[],_,_,h=>by simp[Ty.dec]at h|.byte,[],_,_,h=>by simp[Ty.dec]at h|.bool,[],_,_,h=>by simp[Ty.dec]at h|.str,[],_,_,h=>by simp[Ty.dec]at h|.list _,[],_,_,h=>by simp[Ty.dec]at h
inductive CV:Type
 |nilS
 |int (k:IntKind) (n:Int)
 |bool (b:Bool)
 |unit
 |nilFunc
 |nilIface
def CV.val:CV->Value|.nilS => .slice none 0 0|.int k n => .int k n|.bool b => .bool b|.unit => .tuple #[]|.nilFunc => .nilFunc|.nilIface => .nilIface
def CV.is:CV->AV->Bool|.nilS,.val (.slice none 0 0)=>true|.int k n,.val (.int k' n')=>decide (k'=k)&&decide (n'=n)|.bool b,.val (.bool b')=>b'==b|.unit,.val (.tuple vs)=>Nat.beq vs.size 0|.nilFunc,.val .nilFunc=>true|.nilIface,.val .nilIface=>true|_,_=>false
inductive Pt:Type
 |h (τ:Ty)
 |c (v:CV)
 |agg (ps:List Pt)
 |tup (ps:List Pt)
 |ptr (b off:Nat)
 |own (k:Nat)
 |arr (τ:Ty)
 |el (k sz:Nat)
 |iel (t:TypeId) (k sz:Nat)
 |ifc (t:TypeId) (p:Pt)
 |yld (n:Nat)
 |pn (n:Nat)
 |fn (f:FuncId) (cap:List Pt)
 |u
mutual
def Pt.den:Pt->Type|.h τ=>τ.den|.agg ps=>Pts.den ps|.tup ps=>Pts.den ps|.fn _ cap=>Pts.den cap|.ifc _ p=>Pt.den p|.arr τ=>List τ.den|_=>Unit
def Pts.den:List Pt->Type|[]=>Unit|p::ps=>p.den×Pts.den ps
end
def Ty.av:(τ:Ty)->τ.den->AV|.int k,n => .int k n|.byte,c => .byte c|.bool,b => .bool b|.str,s => .str s|.list a,l => .sl a l|.unit,_ => .agg []|.prod a b,x => .agg ((Ty.prod a b).enc x)|.tree a,x => .agg ((Ty.tree a).enc x)
def rx(τ:Ty)(x:AV):Option τ.den:=match τ.dec [x] with|some (d,[])=>some d|_=>none
def qi8(τ:Ty)(x:AV):Option τ.den:=match x with
 |.agg cs=>match τ.dec cs with|some (d,[])=>some d|_=>none
 |_=>none
def Ty.getAV:(τ:Ty)->AV->Option τ.den|.int k,x=>rx (.int k) x|.byte,x=>rx .byte x|.bool,x=>rx .bool x|.str,x=>rx .str x|.list a,x=>rx (.list a) x|.unit,x=>qi8 .unit x|.prod a b,x=>qi8 (.prod a b) x|.tree a,x=>qi8 (.tree a) x
mutual
def Pt.put:(p:Pt)->p.den->AV|.h τ,x=>τ.av x|.c v,_ => .val v.val|.agg ps,x => .agg (Pts.put ps x)|.tup ps,x => .tup (Pts.put ps x)|.ptr b off,_ => .ptr b off|.own k,_ => .own k|.arr τ,l => .arr τ l|.el k sz,_ => .oel k sz 0 0|.iel t k sz,_ => .iface t (.oel k sz 0 0)|.ifc t p,x => .iface t (p.put x)|.yld n,_ => .yld n|.pn n,_ => .pn n|.fn f cap,x => .fn (.func f) [] (Pts.put cap x)|.u,_ => .undef
def Pts.put:(ps:List Pt)->Pts.den ps->List AV|[],_=>[]|p::ps,x=>p.put x.1::Pts.put ps x.2
end
abbrev NM:=List (Nat×Nat)
def px(nm:NM)(b b':Nat):Option NM:=match ay nm b with|some x=>bif Nat.beq x b' then some nm else none|none=>some ((b,b')::nm)
def asAgg:AV->Option (List AV)|.agg xs=>some xs|_=>none
def qo9:AV->Option (List AV)|.tup xs=>some xs|_=>none
def qo8:AV->Option (Nat×Nat)|.ptr b off=>some (b,off)|_=>none
def qo6:AV->Option Nat|.own k=>some k|_=>none
def q0n(τ:Ty):AV->Option (List τ.den)
 |.arr τ' l=>match Ty.eq? τ' τ with|some ⟨h⟩=>some (h▸l)|none=>none
 |_=>none
def qiv:AV->Option (Nat×Nat)|.oel k sz 0 0=>some (k,sz)|_=>none
def zsx{τ:Ty}{x:AV}{l:List τ.den}(h:q0n τ x=some l):x = .arr τ l:=by
 cases x<;>simp[q0n,reduceCtorEq]at h
 split at h
 ·rename_i τ' l' e he;simp at h;subst h;cases e;rfl
 ·cases h
def zee{x:AV}{k sz:Nat}(h:qiv x=some (k,sz)):x = .oel k sz 0 0:=by
 unfold qiv at h;split at h
 ·simp at h;obtain⟨rfl,rfl⟩:=h;rfl
 ·cases h
def qo5:AV->Option (TypeId×AV)|.iface t x=>some (t,x)|_=>none
def zs0{x:AV}{t:TypeId}{y:AV}(h:qo5 x=some (t,y)):x = .iface t y:=by
 cases x<;>simp[qo5,reduceCtorEq]at h
 obtain⟨rfl,rfl⟩:=h;rfl
def qo4:AV->Option (TypeId×Nat×Nat)
 |.iface t x=>match qiv x with|some (k,sz)=>some (t,k,sz)|none=>none
 |_=>none
def zsz{x:AV}{t:TypeId}{k sz:Nat}(h:qo4 x=some (t,k,sz)):x = .iface t (.oel k sz 0 0):=by
 cases x<;>simp[qo4,reduceCtorEq]at h
 split at h
 ·rename_i k' sz' e;simp at h;obtain⟨rfl,rfl,rfl⟩:=h;rw[zee e]
 ·cases h
def qpa:AV->Option Nat|.yld k=>some k|_=>none
def qo7:AV->Option Nat|.pn k=>some k|_=>none
def qo3:AV->Option (FuncId×List AV)
 |.fn f first xs=>match f with
  |.func f'=>match first with|[]=>some (f',xs)|_=>none
  |_=>none
 |_=>none
def zsw{x:AV}{xs:List AV}(h:asAgg x=some xs):x = .agg xs:=by
 cases x<;>simp[asAgg,reduceCtorEq,qI]at h;subst h;rfl
def zs4{x:AV}{xs:List AV}(h:qo9 x=some xs):x = .tup xs:=by
 cases x<;>simp[qo9,reduceCtorEq,qI]at h;subst h;rfl
def zs3{x:AV}{b off:Nat}(h:qo8 x=some (b,off)):x = .ptr b off:=by
 cases x<;>simp[qo8,reduceCtorEq,qI,qP]at h;obtain⟨rfl,rfl⟩:=h;rfl
def zs1{x:AV}{k:Nat}(h:qo6 x=some k):x = .own k:=by
 cases x<;>simp[qo6,reduceCtorEq,qI]at h;subst h;rfl
def zs5{x:AV}{k:Nat}(h:qpa x=some k):x = .yld k:=by
 cases x<;>simp[qpa,reduceCtorEq,qI]at h;subst h;rfl
def zs2{x:AV}{k:Nat}(h:qo7 x=some k):x = .pn k:=by
 cases x<;>simp[qo7,reduceCtorEq,qI]at h;subst h;rfl
def zsy{x:AV}{f:FuncId}{xs:List AV}(h:qo3 x=some (f,xs)):x = .fn (.func f) [] xs:=by
 cases x<;>simp[qo3,reduceCtorEq]at h
 split at h
 ·split at h
  ·simp at h;obtain⟨rfl,rfl⟩:=h;rfl
  ·cases h
 ·cases h
mutual
def Pt.get:(p:Pt)->AV->NM->Option (p.den×NM)
 |.h τ,x,nm=>match τ.getAV x with|some d=>some (d,nm)|none=>none
 |.c v,x,nm=>bif v.is x then some ((),nm) else none|.agg ps,x,nm=>match asAgg x with|some xs=>Pts.get ps xs nm|none=>none
 |.tup ps,x,nm=>match qo9 x with|some xs=>Pts.get ps xs nm|none=>none
 |.ptr b off,x,nm=>match qo8 x with
  |some (b',off')=>bif Nat.beq off' off then(match px nm b b' with|some nm'=>some ((),nm')|none=>none) else none
  |none=>none
 |.own k,x,nm=>match qo6 x with
  |some k'=>match px nm k k' with|some nm'=>some ((),nm')|none=>none
  |none=>none
 |.arr τ,x,nm=>match q0n τ x with|some d=>some (d,nm)|none=>none
 |.el k sz,x,nm=>match qiv x with
  |some (k',sz')=>bif Nat.beq sz' sz then(match px nm k k' with|some nm'=>some ((),nm')|none=>none) else none
  |none=>none
 |.iel t k sz,x,nm=>match qo4 x with
  |some (t',k',sz')=>bif Nat.beq t' t&&Nat.beq sz' sz then(match px nm k k' with|some nm'=>some ((),nm')|none=>none) else none
  |none=>none
 |.ifc t p,x,nm=>match qo5 x with|some (t',y)=>bif Nat.beq t' t then p.get y nm else none|none=>none
 |.yld k,x,nm=>match qpa x with
  |some k'=>match px nm k k' with|some nm'=>some ((),nm')|none=>none
  |none=>none
 |.pn k,x,nm=>match qo7 x with
  |some k'=>match px nm k k' with|some nm'=>some ((),nm')|none=>none
  |none=>none
 |.fn f cap,x,nm=>match qo3 x with|some (f',xs)=>bif Nat.beq f' f then Pts.get cap xs nm else none|none=>none
 |.u,_,nm=>some ((),nm)
def Pts.get:(ps:List Pt)->List AV->NM->Option (Pts.den ps×NM)
 |[],xs,nm=>match xs with|[]=>some ((),nm)|_=>none
 |p::ps,xs,nm=>match xs with
  |x::xs=>match p.get x nm with
   |some (d,nm')=>match Pts.get ps xs nm' with|some (ds,nm'')=>some ((d,ds),nm'')|none=>none
   |none=>none
  |[]=>none
end
def c8(nm nm':NM):Prop:=∀n m,ay nm n=some m->ay nm' n=some m
def c8.refl(nm:NM):c8 nm nm:=fun _ _ h=>h
def c8.trans{a b c:NM}(h:c8 a b)(k:c8 b c):c8 a c:=fun n m x=>k n m (h n m x)
def xg{nm nm':NM}{b b':Nat}(h:px nm b b'=some nm'):c8 nm nm'/\ay nm' b=some b':=by
 unfold px at h;split at h
 ·rename_i x hx;cases hq:Nat.beq x b'<;>rw[hq]at h<;>simp at h
  subst h;have:=qN hq;subst this;exact⟨c8.refl _,hx⟩
 ·rename_i hx;simp at h;subst h;refine⟨fun n m hn => ?_,by simp[ay]⟩
  simp[ay];cases hq:Nat.beq b n
  ·exact hn
  ·have:=qN hq;subst this;rw[hx]at hn;cases hn
def n9(N:NM)(x y:AV):Prop:=∃ps,vw false [] (x.ren (aw N)) y=some ps/\ar ps
def qaw(N:NM)(xs ys:List AV):Prop:=∃ps,bp false [] (AV.rens (aw N) xs) ys=some ps/\ar ps
def qaw.cons{N:NM}{x y:AV}{xs ys:List AV}(h:n9 N x y)(k:qaw N xs ys):qaw N (x::xs) (y::ys):=by
 obtain⟨ps,h1,h2⟩:=h;obtain⟨qs,k1,k2⟩:=k;exact⟨ps++qs,by simp[AV.rens,bp,h1,k1],du.2 ⟨h2,k2⟩⟩
def fp.seens{xs ys:List AV}(h:fp xs ys)(N:NM):qaw N xs ys:=by
 obtain⟨h1,ps,h2,h3⟩:=h;exact⟨ps,by rw[h1];exact h2,h3⟩
def qi7{τ:Ty}{x:AV}{d:τ.den}(h:rx τ x=some d){y:AV}(hy:τ.enc d=[y])(N:NM):n9 N x y:=by
 unfold rx at h;split at h
 ·rename_i d' hd;simp at h;subst h;obtain⟨ab,e,hs⟩:=ux hd;simp at e;subst e;rw[hy]at hs;obtain⟨ps,h1,h2⟩:=hs.seens N;simp only[AV.rens,bp]at h1;split at h1
  ·rename_i qs hq;simp only[qI]at h1;subst h1;exact⟨qs,hq,(du.1 h2).1⟩
  ·cases h1
 ·cases h
def q1r{τ:Ty}{x:AV}{d:τ.den}(h:qi8 τ x=some d)(N:NM):n9 N x (.agg (τ.enc d)):=by
 unfold qi8 at h;split at h
 ·split at h
  ·rename_i d' hd;simp at h;subst h;obtain⟨ab,e,hs⟩:=ux hd;simp at e;subst e;obtain⟨ps,h1,h2⟩:=hs.seens N;exact⟨ps,by simp[AV.ren,vw];exact h1,h2⟩
  ·cases h
 ·cases h
def zwj{N:NM}:∀{τ:Ty}{x:AV}{d:τ.den},τ.getAV x=some d->n9 N x (τ.av d)|.int _,_,_,h=>qi7 h rfl N|.byte,_,_,h=>qi7 h rfl N|.bool,_,_,h=>qi7 h rfl N|.str,_,_,h=>qi7 h rfl N|.list _,_,_,h=>qi7 h rfl N|.unit,_,_,h=>q1r h N|.prod _ _,_,_,h=>q1r h N|.tree _,_,_,h=>q1r h N
def CV.is_seen{v:CV}{x:AV}(h:v.is x=true)(N:NM):n9 N x (.val v.val):=by
 have:x = .val v.val:=by
  unfold CV.is at h;split at h
  ·rfl
  ·simp at h;obtain⟨rfl,rfl⟩:=h;rfl
  ·simp at h;subst h;rfl
  ·rename_i vs;have:=Array.eq_empty_of_size_eq_zero (qN h);subst this;rfl
  ·rfl
  ·rfl
  ·cases h
 subst this;exact⟨[AV.val v.val=AV.val v.val],rfl,rfl,trivial⟩
mutual
def Pt.get_seen:∀{p:Pt}{x:AV}{nm nm':NM}{d:p.den},p.get x nm=some (d,nm')->c8 nm nm'/\∀N,dr N=true->c8 nm' N->n9 N x (p.put d)
 |.h τ,x,nm,nm',d,h=>by
  simp[Pt.get]at h;split at h
  ·rename_i d' hd;simp at h;obtain⟨rfl,rfl⟩:=h;exact⟨c8.refl _,fun N _ _=>zwj hd⟩
  ·cases h
 |.c v,x,nm,nm',d,h=>by
  simp[Pt.get]at h;cases hv:v.is x<;>rw[hv]at h<;>simp at h
  obtain⟨_,rfl⟩:=h;exact⟨c8.refl _,fun N _ _=>CV.is_seen hv N⟩
 |.u,x,nm,nm',d,h=>by
  simp[Pt.get,qI]at h;obtain⟨_,rfl⟩:=h;refine⟨c8.refl _,fun N _ _=>⟨[],?_,trivial⟩⟩
  show vw false [] _ .undef=_;cases AV.ren (aw N) x<;>rfl
 |.agg ps,x,nm,nm',d,h=>by
  simp[Pt.get]at h;split at h
  rotate_left
  ·cases h
  rename_i xs hx;have hx:=zsw hx;subst hx;obtain⟨h1,h2⟩:=Pts.get_seen h;exact⟨h1,fun N hN hs=>by obtain⟨qs,q1,q2⟩:=h2 N hN hs;exact⟨qs,q1,q2⟩⟩
 |.tup ps,x,nm,nm',d,h=>by
  simp[Pt.get]at h;split at h
  rotate_left
  ·cases h
  rename_i xs hx;have hx:=zs4 hx;subst hx;obtain⟨h1,h2⟩:=Pts.get_seen h;exact⟨h1,fun N hN hs=>by obtain⟨qs,q1,q2⟩:=h2 N hN hs;exact⟨qs,q1,q2⟩⟩
 |.ptr b off,x,nm,nm',d,h=>by
  simp[Pt.get]at h;split at h
  rotate_left
  ·cases h
  rename_i b' off' hx;have hx:=zs3 hx;subst hx;cases hq:Nat.beq off' off<;>rw[hq]at h<;>simp at h
  split at h
  ·rename_i nm1 hb;simp at h;obtain⟨_,rfl⟩:=h;obtain⟨h1,h2⟩:=xg hb;have:=qN hq;subst this;refine⟨h1,fun N hN hs => ?_⟩
   have:=vq hN (hs _ _ h2);refine⟨[AV.ptr b off'=AV.ptr b off'],?_,rfl,trivial⟩;show vw false [] (match aw N b' with|some b''=>AV.ptr b'' off'|none => .undef) (AV.ptr b off')=_
   rw[this];rfl
  ·cases h
 |.own k,x,nm,nm',d,h=>by
  simp[Pt.get]at h;split at h
  rotate_left
  ·cases h
  rename_i k' hx;have hx:=zs1 hx;subst hx;split at h
  ·rename_i nm1 hb;simp at h;obtain⟨_,rfl⟩:=h;obtain⟨h1,h2⟩:=xg hb;refine⟨h1,fun N hN hs => ?_⟩
   have:=vq hN (hs _ _ h2);refine⟨[AV.own k=AV.own k],?_,rfl,trivial⟩;show vw false [] (match aw N k' with|some b''=>AV.own b''|none => .undef) (AV.own k)=_
   rw[this];rfl
  ·cases h
 |.arr τ,x,nm,nm',d,h=>by
  simp[Pt.get]at h;split at h
  ·rename_i d' hd;simp at h;obtain⟨rfl,rfl⟩:=h;have hd:=zsx hd;subst hd;exact⟨c8.refl _,fun N _ _=>⟨[AV.arr τ d=AV.arr τ d],rfl,rfl,trivial⟩⟩
  ·cases h
 |.el k sz,x,nm,nm',d,h=>by
  simp[Pt.get]at h;split at h
  rotate_left
  ·cases h
  rename_i k' sz' hx;have hx:=zee hx;subst hx;cases hq:Nat.beq sz' sz<;>rw[hq]at h<;>simp at h
  split at h
  ·rename_i nm1 hb;simp at h;obtain⟨_,rfl⟩:=h;obtain⟨h1,h2⟩:=xg hb;have:=qN hq;subst this;refine⟨h1,fun N hN hs => ?_⟩
   have:=vq hN (hs _ _ h2);refine⟨[AV.oel k sz' 0 0=AV.oel k sz' 0 0],?_,rfl,trivial⟩;show vw false [] (match aw N k' with|some b''=>AV.oel b'' sz' 0 0|none => .undef) (AV.oel k sz' 0 0)=_
   rw[this];rfl
  ·cases h
 |.iel t k sz,x,nm,nm',d,h=>by
  simp[Pt.get]at h;split at h
  rotate_left
  ·cases h
  rename_i t' k' sz' hx;have hx:=zsz hx;subst hx;cases hq:Nat.beq t' t&&Nat.beq sz' sz<;>rw[hq]at h<;>simp at h
  simp only[qA]at hq;split at h
  ·rename_i nm1 hb;simp only[qI]at h;obtain⟨_,rfl⟩:=h;obtain⟨h1,h2⟩:=xg hb;have:=qN hq.1;subst this;have:=qN hq.2;subst this;refine⟨h1,fun N hN hs => ?_⟩
   have:=vq hN (hs _ _ h2);refine⟨[t'=t',AV.oel k sz' 0 0=AV.oel k sz' 0 0],?_,rfl,rfl,trivial⟩;show vw false [] (.iface t' (match aw N k' with|some b''=>AV.oel b'' sz' 0 0|none => .undef)) (AV.iface t' (AV.oel k sz' 0 0))=_
   rw[this];rfl
  ·cases h
 |.ifc t p,x,nm,nm',d,h=>by
  simp only[Pt.get]at h;split at h
  rotate_left
  ·cases h
  rename_i t' y hx;have hx:=zs0 hx;subst hx;cases hq:Nat.beq t' t
  ·rw[hq]at h;cases h
  ·rw[hq]at h;have h:p.get y nm=some (d,nm'):=h;have:=qN hq;subst this;obtain⟨h1,h2⟩:=Pt.get_seen h;refine⟨h1,fun N hN hs => ?_⟩
   obtain⟨qs,q1,q2⟩:=h2 N hN hs;refine⟨(t'=t')::qs,?_,rfl,q2⟩;show vw false [] (.iface t' (AV.ren (aw N) y)) (.iface t' (p.put d))=_;simp only[vw,q1]
 |.yld k,x,nm,nm',d,h=>by
  simp[Pt.get]at h;split at h
  rotate_left
  ·cases h
  rename_i k' hx;have hx:=zs5 hx;subst hx;split at h
  ·rename_i nm1 hb;simp at h;obtain⟨_,rfl⟩:=h;obtain⟨h1,h2⟩:=xg hb;refine⟨h1,fun N hN hs => ?_⟩
   have:=vq hN (hs _ _ h2);refine⟨[AV.yld k=AV.yld k],?_,rfl,trivial⟩;show vw false [] (match aw N k' with|some b''=>AV.yld b''|none => .undef) (AV.yld k)=_
   rw[this];rfl
  ·cases h
 |.pn k,x,nm,nm',d,h=>by
  simp[Pt.get]at h;split at h
  rotate_left
  ·cases h
  rename_i k' hx;have hx:=zs2 hx;subst hx;split at h
  ·rename_i nm1 hb;simp at h;obtain⟨_,rfl⟩:=h;obtain⟨h1,h2⟩:=xg hb;refine⟨h1,fun N hN hs => ?_⟩
   have:=vq hN (hs _ _ h2);refine⟨[AV.pn k=AV.pn k],?_,rfl,trivial⟩;show vw false [] (match aw N k' with|some b''=>AV.pn b''|none => .undef) (AV.pn k)=_
   rw[this];rfl
  ·cases h
 |.fn f cap,x,nm,nm',d,h=>by
  simp[Pt.get]at h;split at h
  rotate_left
  ·cases h
  rename_i f' xs hx;have hx:=zsy hx;subst hx;cases hq:Nat.beq f' f
  ·rw[hq]at h;exact absurd (show(none:Option ((Pt.fn f cap).den×NM))=some (d,nm') from h) oB
  have h:Pts.get cap xs nm=some (d,nm'):=by rw[hq]at h;exact h
  obtain⟨h1,h2⟩:=Pts.get_seen h;have:=qN hq;subst this;refine⟨h1,fun N hN hs => ?_⟩
  obtain⟨qs,q1,q2⟩:=h2 N hN hs;refine⟨(Fn.func f'=Fn.func f')::([]++qs),?_,rfl,q2⟩;show(match bp false [] (AV.rens (aw N) []) [],bp false [] (AV.rens (aw N) xs) (Pts.put cap d) with
   |some ps,some qs=>some ((Fn.func f'=Fn.func f')::(ps++qs))| _,_=>none)=_
  rw[q1];rfl
def Pts.get_seen:∀{ps:List Pt}{xs:List AV}{nm nm':NM}{d:Pts.den ps},Pts.get ps xs nm=some (d,nm')->c8 nm nm'/\∀N,dr N=true->c8 nm' N->qaw N xs (Pts.put ps d)
 |[],xs,nm,nm',d,h=>by
  cases xs with
  |nil=>
   have h:some (((),nm):Unit×NM)=some (d,nm'):=h;have e:nm=nm':=congrArg Prod.snd (qJ h);subst e;exact⟨c8.refl _,fun N _ _=>⟨[],rfl,trivial⟩⟩
  |cons x xs=>exact absurd (show(none:Option (Unit×NM))=some (d,nm') from h) oB
 |p::ps,xs,nm,nm',d,h=>by
  cases xs with
  |nil=>exact absurd (show(none:Option ((p.den×Pts.den ps)×NM))=some (d,nm') from h) oB|cons x xs=>
   have h:(match p.get x nm with
    |some (d,nm')=>match Pts.get ps xs nm' with|some (ds,nm'')=>some ((d,ds),nm'')|none=>none
    | none=>none)=some (d,nm'):=h
   split at h
   ·rename_i d1 nm1 h1;split at h
    ·rename_i d2 nm2 h2;simp at h;obtain⟨rfl,rfl⟩:=h;obtain⟨a1,a2⟩:=Pt.get_seen h1;obtain⟨b1,b2⟩:=Pts.get_seen h2;exact⟨a1.trans b1,fun N hN hs=>qaw.cons (a2 N hN (b1.trans hs)) (b2 N hN hs)⟩
    ·cases h
   ·cases h
end
def qa:List (Nat×Pt)->Type|[]=>Unit|(_,p)::r=>p.den×qa r
def li:(l:List (Nat×Pt))->qa l->List (Nat×AV)|[],_=>[]|(i,p)::r,x=>(i,p.put x.1)::li r x.2
def xt(fr:List (Nat×AV)):(l:List (Nat×Pt))->NM->Option (qa l×NM)
 |[],nm=>some ((),nm)|(i,p)::r,nm=>match af fr i with
  |some x=>match p.get x nm with
   |some (d,nm')=>match xt fr r nm' with|some (ds,nm'')=>some ((d,ds),nm'')|none=>none
   |none=>none
  |none=>none
def qp9{fr:List (Nat×AV)}:∀{l:List (Nat×Pt)}{nm nm':NM}{d:qa l},xt fr l nm=some (d,nm')->c8 nm nm'/\∀N,dr N=true->c8 nm' N->∀i y,af (li l d) i=some y->∃x,af fr i=some x/\n9 N x y
 |[],nm,nm',d,h=>by
  have e:nm=nm':=congrArg Prod.snd (qJ (show some (((),nm):Unit×NM)=some (d,nm') from h))
  subst e;exact⟨c8.refl _,fun N _ _ i y hy=>by cases hy⟩
 |(j,p)::r,nm,nm',d,h=>by
  have h:(match af fr j with
   |some x=>match p.get x nm with
    |some (d,nm')=>match xt fr r nm' with|some (ds,nm'')=>some ((d,ds),nm'')|none=>none
    |none=>none
   | none=>none)=some (d,nm'):=h
  split at h
  ·rename_i x hx;split at h
   ·rename_i d1 nm1 h1;split at h
    ·rename_i d2 nm2 h2;simp at h;obtain⟨rfl,rfl⟩:=h;obtain⟨a1,a2⟩:=Pt.get_seen h1;obtain⟨b1,b2⟩:=qp9 h2;refine⟨a1.trans b1,fun N hN hs i y hy => ?_⟩
     have hy:(bif Nat.beq j i then some (p.put d1) else af (li r d2) i)=some y:=hy
     cases hb:Nat.beq j i
     ·rw[hb]at hy;exact b2 N hN hs i y hy
     ·rw[hb]at hy;simp at hy;subst hy;have:=qN hb;subst this;exact⟨x,hx,a2 N hN (b1.trans hs)⟩
    ·cases h
   ·cases h
  ·cases h
inductive be:Type
 |cells (ps:List Pt) (T:TypeId)
 |row (τ:Ty) (E:TypeId)
 |loop (st:LoopState) (pe:Option dx) (f:FuncId) (n:Nat) (fr:List (Nat×Pt)) (ps:List Tmp) (tag:Nat) (D:Nat)
 |dfr
 |it
 |dead
 |dat (τ:Ty) (T:TypeId)
def be.den:be->Type|.cells ps _=>Pts.den ps|.row τ _=>List τ.den|.loop _ _ _ _ fr _ _ _=>qa fr|.dfr=>Unit|.it=>List UInt8×Nat|.dead=>Unit|.dat τ _=>τ.den
def be.put:(p:be)->p.den->ag|.cells ps T,x => .cells (Pts.put ps x) T|.row τ E,l => .row τ l E|.loop st pe f n fr ps tag D,x => .loop st pe f n (li fr x) ps tag D|.dfr,_ => .dfr|.it,x => .it x.1 x.2|.dead,_ => .dead|.dat τ T,x => .cells (τ.enc x) T
def dx.beq:Option dx->Option dx->Bool|none,none=>true|some .ret,some .ret=>true|some (.exit i),some (.exit j)=>Nat.beq i j|_,_=>false
def dx.beq_eq:∀{a b:Option dx},dx.beq a b=true->a=b|none,none,_=>rfl|some .ret,some .ret,_=>rfl|some (.exit i),some (.exit j),h=>by rw[qN (show Nat.beq i j=true from h)]|none,some _,h=>by simp[dx.beq]at h|some _,none,h=>by simp[dx.beq]at h|some .ret,some (.exit _),h=>by simp[dx.beq]at h|some (.exit _),some .ret,h=>by simp[dx.beq]at h
def p7:List Nat->List Nat->Bool|[],[]=>true|x::xs,y::ys=>Nat.beq x y&&p7 xs ys|_,_=>false
def qp4:∀{a b:List Nat},p7 a b=true->a=b
 |[],[],_=>rfl|x::xs,y::ys,h=>by
  simp only[p7,qA]at h;rw[qN h.1,qp4 h.2]
 |[],_::_,h=>by simp[p7]at h|_::_,[],h=>by simp[p7]at h
def be.get:(p:be)->ag->NM->Option (p.den×NM)
 |.cells ps T,b,nm=>match b with|.cells cs T'=>bif Nat.beq T' T then Pts.get ps cs nm else none|_=>none
 |.row τ E,b,nm=>match b with
  |.row τ' l E'=>match Ty.eq? τ' τ with|some ⟨h⟩=>bif Nat.beq E' E then some ((h▸l:List τ.den),nm) else none|none=>none
  |_=>none
 |.loop st pe f n fr ps tag D,b,nm=>match b with
  |.loop st' pe' f' n' fr' ps' tag' D'=>bif decide (st'=st)&&dx.beq pe' pe&&Nat.beq f' f&&Nat.beq n' n&&p7 ps' ps&&Nat.beq tag' tag then
    (match px nm D D' with
    |some nm1=>xt fr' fr nm1| none=>none) else none
  |_=>none
 |.dfr,b,nm=>match b with|.dfr=>some ((),nm)|_=>none
 |.it,b,nm=>match b with|.it s p=>some ((s,p),nm)|_=>none
 |.dead,_,nm=>some ((),nm)|.dat τ T,b,nm=>match b with
  | .cells cs T'=>bif Nat.beq T' T then(match τ.dec cs with
    |some (d,[])=>some (d,nm)| _=>none) else none
  |_=>none
def qzp(N:NM)(b b':ag):Prop:=∃ps,y6 (d7 (aw N) b) b'=some ps/\ar ps
def zld{N:NM}{fr:List (Nat×AV)}:∀{fr':List (Nat×AV)},(∀e∈fr',∃x,af fr e.1=some x/\n9 N x e.2)->∃ps,qb1 (o6 (aw N) fr) fr'=some ps/\ar ps
 |[],_=>⟨[],rfl,trivial⟩|(i,y)::r,h=>by
  obtain⟨x,hx,ps,h1,h2⟩:=h (i,y) qH;obtain⟨qs,k1,k2⟩:=zld (fr':=r) (fun e he=>h e (qE _ he))
  have hl:∀(fr:List (Nat×AV)),af fr i=some x->af (o6 (aw N) fr) i=some (x.ren (aw N)):=by
   intro fr
   induction fr with
   |nil=>intro h;cases h
   |cons e r ih=>
    obtain⟨j,z⟩:=e;intro h;simp[o6,af]at h ⊢;cases hb:Nat.beq j i
    ·rw[hb]at h;exact ih h
    ·rw[hb]at h;simp at h;subst h;rfl
  exact⟨ps++qs,by simp[qb1,hl fr hx,h1,k1],du.2 ⟨h2,k2⟩⟩
def zgl{fr:List (Nat×AV)}:∀{l:List (Nat×Pt)}{nm nm':NM}{d:qa l},xt fr l nm=some (d,nm')->∀N,dr N=true->c8 nm' N->∀e∈li l d,∃x,af fr e.1=some x/\n9 N x e.2
 |[],nm,nm',d,h,N,_,_,e,he=>by cases he
 |(j,p)::r,nm,nm',d,h,N,hN,hs,e,he=>by
  have h:(match af fr j with
   |some x=>match p.get x nm with
    |some (d,nm')=>match xt fr r nm' with|some (ds,nm'')=>some ((d,ds),nm'')|none=>none
    |none=>none
   | none=>none)=some (d,nm'):=h
  split at h
  ·rename_i x hx;split at h
   ·rename_i d1 nm1 h1;split at h
    ·rename_i d2 nm2 h2;simp at h;obtain⟨rfl,rfl⟩:=h;rcases List.mem_cons.1 (show e∈(j,p.put d1)::li r d2 from he) with rfl|he
     ·exact⟨x,hx,(Pt.get_seen h1).2 N hN ((qp9 h2).1.trans hs)⟩
     ·exact zgl h2 N hN hs e he
    ·cases h
   ·cases h
  ·cases h
def be.get_seen:∀{p:be}{b:ag}{nm nm':NM}{d:p.den},p.get b nm=some (d,nm')->c8 nm nm'/\∀N,dr N=true->c8 nm' N->qzp N b (p.put d)
 |.cells ps T,b,nm,nm',d,h=>by
  cases b with
  |cells cs T'=>
   have h:(bif Nat.beq T' T then Pts.get ps cs nm else none)=some (d,nm'):=h
   cases hq:Nat.beq T' T
   ·rw[hq]at h;cases h
   ·rw[hq]at h;have h:Pts.get ps cs nm=some (d,nm'):=h;obtain⟨h1,h2⟩:=Pts.get_seen h;have:=qN hq;subst this;refine⟨h1,fun N hN hs => ?_⟩
    obtain⟨qs,q1,q2⟩:=h2 N hN hs;refine⟨qs,?_,q2⟩;show(bif Nat.beq T' T' then bp false [] (AV.rens (aw N) cs) (Pts.put ps d) else none)=some qs
    rw[show Nat.beq T' T'=true by simp,q1];rfl
  |_=>exact absurd (show(none:Option ((be.cells ps T).den×NM))=some (d,nm') from h) oB
 |.row τ E,b,nm,nm',d,h=>by
  cases b with
  |row τ' l E'=>
   have h:(match Ty.eq? τ' τ with
    |some ⟨h⟩=>bif Nat.beq E' E then some ((h▸l:List τ.den),nm) else none| none=>none)=some (d,nm'):=h
   split at h
   ·rename_i hh _;cases hq:Nat.beq E' E
    ·rw[hq]at h;cases h
    ·rw[hq]at h;simp at h;obtain⟨rfl,rfl⟩:=h;have:=qN hq;subst this;subst hh;exact⟨c8.refl _,fun N _ _=>⟨[ag.row τ' l E'=ag.row τ' l E'],rfl,rfl,trivial⟩⟩
   ·cases h
  |_=>exact absurd (show(none:Option ((be.row τ E).den×NM))=some (d,nm') from h) oB
 |.loop st pe f n fr ps tag D,b,nm,nm',d,h=>by
  cases b with
  |loop st' pe' f' n' fr' ps' tag' D'=>
   have h:(bif decide (st'=st)&&dx.beq pe' pe&&Nat.beq f' f&&Nat.beq n' n&&p7 ps' ps&&Nat.beq tag' tag then
    (match px nm D D' with
    |some nm1=>xt fr' fr nm1| none=>none) else none)=some (d,nm'):=h
   cases hq:decide (st'=st)&&dx.beq pe' pe&&Nat.beq f' f&&Nat.beq n' n&&p7 ps' ps&&Nat.beq tag' tag
   ·rw[hq]at h;cases h
   ·rw[hq]at h;simp at h;simp only[qA,decide_eq_true_eq]at hq;obtain⟨⟨⟨⟨⟨q1,q2⟩,q3⟩,q4⟩,q5⟩,q6⟩:=hq;have q2:=dx.beq_eq q2;have q3:=qN q3;have q4:=qN q4;have q5:=qp4 q5;have q6:=qN q6;subst q1 q2 q3 q4 q5 q6;split at h
    ·rename_i nm1 hb;obtain⟨b1,b2⟩:=xg hb;obtain⟨c1,_⟩:=qp9 h;refine⟨b1.trans c1,fun N hN hs => ?_⟩
     have hD:=vq hN (hs _ _ (c1 _ _ b2));obtain⟨qs,k1,k2⟩:=zld (zgl h N hN hs);refine⟨([st'=st',pe'=pe',f'=f',n'=n',ps'=ps',tag'=tag',D=D]:List Prop)++qs,?_,du.2 ⟨⟨rfl,rfl,rfl,rfl,rfl,rfl,rfl,trivial⟩,k2⟩⟩;show y6 (match aw N D' with|some D' => .loop st' pe' f' n' (o6 (aw N) fr') ps' tag' D'|none => .dead) (.loop st' pe' f' n' (li fr d) ps' tag' D)=_
     rw[hD];show(match qb1 (o6 (aw N) fr') (li fr d) with
      |some qs=>some (([st'=st',pe'=pe',f'=f',n'=n',ps'=ps',tag'=tag',D=D]:List Prop)++qs)| none=>none)=_
     rw[k1]
    ·cases h
  |_=>exact absurd (show(none:Option ((be.loop st pe f n fr ps tag D).den×NM))=some (d,nm') from h) oB
 |.dat τ T,b,nm,nm',d,h=>by
  cases b with
  |cells cs T'=>
   have h:(bif Nat.beq T' T then(match τ.dec cs with
    |some (d,[])=>some (d,nm)| _=>none) else none)=some (d,nm'):=h
   cases hq:Nat.beq T' T
   ·rw[hq]at h;cases h
   ·rw[hq]at h;simp at h;have:=qN hq;subst this;split at h
    ·rename_i d0 hd;have h:(some (d0,nm):Option (τ.den×NM))=some (d,nm'):=h;cases h
     obtain⟨ab,e,hs⟩:=ux hd;rw[List.append_nil]at e;subst e;refine⟨c8.refl _,fun N hN _ => ?_⟩
     obtain⟨qs,q1,q2⟩:=hs.seens N;refine⟨qs,?_,q2⟩;show(bif Nat.beq T' T' then bp false [] (AV.rens (aw N) _) (τ.enc d) else none)=some qs
     rw[show Nat.beq T' T'=true by simp,q1];rfl
    ·cases h
  |_=>exact absurd (show(none:Option ((be.dat τ T).den×NM))=some (d,nm') from h) oB
 |.dfr,b,nm,nm',d,h=>by
  cases b with
  |dfr=>
   have e:nm=nm':=congrArg Prod.snd (qJ (show some (((),nm):Unit×NM)=some (d,nm') from h))
   subst e;exact⟨c8.refl _,fun N _ _=>⟨[],rfl,trivial⟩⟩
  |_=>exact absurd (show(none:Option (be.dfr.den×NM))=some (d,nm') from h) oB
 |.it,b,nm,nm',d,h=>by
  cases b with
  |it s p=>
   have e:=qJ (show some ((s,p),nm)=some (d,nm') from h)
   have e1:nm=nm':=congrArg Prod.snd e;have e2:(s,p)=d:=congrArg Prod.fst e;subst e1;subst e2;exact⟨c8.refl _,fun N _ _=>⟨[s=s,p=p],rfl,rfl,rfl,trivial⟩⟩
  |_=>exact absurd (show(none:Option (be.it.den×NM))=some (d,nm') from h) oB
 |.dead,b,nm,nm',d,h=>by
  have e:nm=nm':=congrArg Prod.snd (qJ (show some (((),nm):Unit×NM)=some (d,nm') from h))
  subst e;refine⟨c8.refl _,fun N _ _ => ?_⟩
  show ∃ps,y6 (d7 (aw N) b) .dead=some ps/\ar ps;cases d7 (aw N) b<;>exact⟨[],rfl,trivial⟩
def fq:List (Nat×be)->Type|[]=>Unit|(_,p)::r=>p.den×fq r
def bj:(l:List (Nat×be))->fq l->List (Nat×ag)|[],_=>[]|(n,p)::r,x=>(n,p.put x.1)::bj r x.2
def rr(hp:List (Nat×ag)):(l:List (Nat×be))->NM->Option (fq l×NM)
 |[],nm=>some ((),nm)|(n,p)::r,nm=>match ay nm n with
  |some old=>match af hp old with
   |some b=>match p.get b nm with
    |some (d,nm')=>match rr hp r nm' with|some (ds,nm'')=>some ((d,ds),nm'')|none=>none
    |none=>none
   |none=>none
  |none=>none
def qa0{hp:List (Nat×ag)}:∀{l:List (Nat×be)}{nm nm':NM}{d:fq l},rr hp l nm=some (d,nm')->c8 nm nm'/\∀N,dr N=true->c8 nm' N ->
  (∀m b',af (bj l d) m=some b'->∃old b,ay N m=some old/\af hp old=some b/\qzp N b b')/\∀m,af (bj l d) m=none->∀e∈l,e.1≠m
 |[],nm,nm',d,h=>by
  have e:nm=nm':=congrArg Prod.snd (qJ (show some (((),nm):Unit×NM)=some (d,nm') from h))
  subst e;exact⟨c8.refl _,fun N _ _=>⟨fun m b' hb=>(by cases hb),fun m _ e he=>(by cases he)⟩⟩
 |(j,p)::r,nm,nm',d,h=>by
  have h:(match ay nm j with
   |some old=>match af hp old with
    |some b=>match p.get b nm with
     |some (d,nm')=>match rr hp r nm' with|some (ds,nm'')=>some ((d,ds),nm'')|none=>none
     |none=>none
    |none=>none
   | none=>none)=some (d,nm'):=h
  split at h
  ·rename_i old ho;split at h
   ·rename_i b hb;split at h
    ·rename_i d1 nm1 h1;split at h
     ·rename_i d2 nm2 h2;simp at h;obtain⟨rfl,rfl⟩:=h;obtain⟨a1,a2⟩:=be.get_seen h1;obtain⟨b1,b2⟩:=qa0 h2;refine⟨a1.trans b1,fun N hN hs=>⟨fun m b' hm => ?_,fun m hm e he => ?_⟩⟩
      ·have hm:(bif Nat.beq j m then some (p.put d1) else af (bj r d2) m)=some b':=hm
       cases hq:Nat.beq j m
       ·rw[hq]at hm;exact(b2 N hN hs).1 m b' hm
       ·rw[hq]at hm;simp at hm;subst hm;have:=qN hq;subst this;exact⟨old,b,hs _ _ (b1 _ _ (a1 _ _ ho)),hb,a2 N hN (b1.trans hs)⟩
      ·have hm:(bif Nat.beq j m then some (p.put d1) else af (bj r d2) m)=none:=hm
       cases hq:Nat.beq j m
       ·rw[hq]at hm;rcases List.mem_cons.1 he with rfl|he
        ·intro e;subst e;simp at hq
        ·exact(b2 N hN hs).2 m hm e he
       ·rw[hq]at hm;cases hm
     ·cases h
    ·cases h
   ·cases h
  ·cases h
def qa2:NM->List Nat->List Nat->Option NM
 |nm,[],[]=>some nm|nm,n::ns,m::ms=>match px nm n m with|some nm'=>qa2 nm' ns ms|none=>none
 |_,_,_=>none
def zeq:∀{nm nm':NM}{ns ms:List Nat},qa2 nm ns ms=some nm'->c8 nm nm'/\ns.map (ay nm')=ms.map some
 |nm,nm',[],[],h=>by simp only[qa2,qI]at h;subst h;exact⟨c8.refl _,rfl⟩|nm,nm',n::ns,m::ms,h=>by
  simp only[qa2]at h;split at h
  ·rename_i nm1 hb;obtain⟨h1,h2⟩:=xg hb;obtain⟨h3,h4⟩:=zeq h;exact⟨h1.trans h3,by simp[List.map_cons,h4,h3 _ _ h2]⟩
  ·cases h
 |_,_,[],_::_,h=>by simp[qa2]at h|_,_,_::_,[],h=>by simp[qa2]at h
def qqg(n:Nat):List (Nat×be)->Bool|[]=>false|(m,_)::r=>Nat.beq m n||qqg n r
def zg9{n:Nat}:∀{l:List (Nat×be)},qqg n l=true->∃e∈l,e.1=n
 |[],h=>by cases h
 |(m,p)::r,h=>by
  simp only[qqg,Bool.or_eq_true]at h;rcases h with h|h
  ·exact⟨(m,p),qH,qN h⟩
  ·obtain⟨e,he,h⟩:=zg9 h;exact⟨e,qE _ he,h⟩
def ul:NM->List (Nat×be)->Bool|[],_=>true|(n,_)::r,l=>qqg n l&&ul r l
def q0c{l:List (Nat×be)}:∀{nm:NM},ul nm l=true->∀n m,ay nm n=some m->∃e∈l,e.1=n
 |[],_,n,m,h=>by cases h
 |(k,v)::r,ha,n,m,h=>by
  simp[ul,qA]at ha;simp[ay]at h;cases hb:Nat.beq k n
  ·rw[hb]at h;exact q0c ha.2 n m h
  ·have:=qN hb;subst this;exact zg9 ha.1
structure LS where
 n:Nat
 fr:List (Nat×Pt)
 hp:List (Nat×be)
 nx:Nat
 df:List Nat
def LS.den(ls:LS):Type:=qa ls.fr×fq ls.hp
def LS.st(ls:LS)(d:ls.den):St:={ n:=ls.n,fr:=li ls.fr d.1,hp:=bj ls.hp d.2,nx:=ls.nx,df:=ls.df }
def LS.get(ls:LS)(ids:NM)(s:St):Option ls.den:=
 bif Nat.beq s.n ls.n then
  match xt s.fr ls.fr ids with
  |some (d1,nm1)=>match qa2 nm1 ls.df s.df with
   |some nm2=>match rr s.hp ls.hp nm2 with|some (d2,nm3)=>bif dr nm3&&ul nm3 ls.hp then some (d1,d2) else none|none=>none
   |none=>none
  |none=>none
 else none
section
variable{P:Program}{vif:World}{vh8:Gh}{vic:List (Nat×ag)}{G:Gh}{s:St}{a:Act}{w:World}
def n9.rep{N:NM}{x y:AV}(h:n9 N x y){v:Value}(hv:aj x G v):aj y (G.view N) v:=by
 obtain⟨ps,h1,h2⟩:=h;exact qr6 (Gh.le.refl _) (fun e=>by cases e) h1 h2 (aj.ren (G:=G) (G':=G.view N) (fun _ _ _ h=>h) (qw N) (s7 N) hv)
def Fin.fit{hp l:List (Nat×ag)}(hf:Fin vif vh8 vic G hp w){N:NM}(hN:dr N=true)(hid:∀n bx,af vic n=some bx->ay N n=some n)
  (hl:∀m b',af l m=some b'->∃old b,ay N m=some old/\af hp old=some b/\qzp N b b'):Fin vif vh8 vic (G.view N) l w:=by
 have eb:∀m n,ay N m=some n->(G.view N).box m=G.box n:=fun m n hm=>by simp[Gh.view,hm]
 have eo:∀m n,ay N m=some n->(G.view N).own m=G.own n:=fun m n hm=>by simp[Gh.view,hm]
 have hbox:∀m n b,ay N m=some n->af hp n=some b->c7 (G.view N) w m (d7 (aw N) b):=fun m n b h1 h2=>
  c7.ren (G:=G) (G':=G.view N) (ρ:=aw N) (n:=n) (fun _ _ _ h=>h) (fun _ _ _ h=>h) (qw N) (s7 N) (fun B hB=>by rw[eb m n h1];exact hB) (fun B hB=>by rw[eo m n h1];exact hB) (hf.mem.holds n b h2)
 have hat:∀m b' c,af l m=some b'->(G.view N).at m b'=some c->∃n b,ay N m=some n/\af hp n=some b/\G.at n b=some c:=fun m b' c h1 h2=>by
  obtain⟨n,b,i1,i2,ps,i3,i4⟩:=hl m b' h1;exact⟨n,b,i1,i2,rp (eb m n i1) (eo m n i1) ((qe2 i3 i4 (hbox m n b i1 i2)).2 c h2)⟩
 refine⟨⟨hf.mem.agree,hf.mem.one,fun m b' h => ?_,fun m m' b b' c h1 h2 h3 h4 => ?_,hf.mem.tab⟩,hf.bel,hf.imm_le,hf.imm_new,fun m b c h1 h2 => ?_,fun n bx B h1 h2 => ?_,fun n bx B h1 h2 => ?_⟩
 ·obtain⟨n,b,i1,i2,ps,i3,i4⟩:=hl m b' h;exact(qe2 i3 i4 (hbox m n b i1 i2)).1
 ·obtain⟨n,b0,i1,i2,i3⟩:=hat m b c h1 h3;obtain⟨n',b0',j1,j2,j3⟩:=hat m' b' c h2 h4;have:=hf.mem.apart n n' b0 b0' c i2 j2 i3 j3;subst this;exact xm hN m m' n i1 j1
 ·obtain⟨n,b0,i1,i2,i3⟩:=hat m b c h1 h2;exact hf.base n b0 c i2 i3
 ·rw[eb n n (hid n bx h1)];exact hf.keep n bx B h1 h2
 ·rw[eo n n (hid n bx h1)];exact hf.keepOwn n bx B h1 h2
def ai.fit(hr:ai vif vh8 vic G s a w){ls:LS}{ids:NM}{d:ls.den}(hid:∀n bx,af vic n=some bx->ay ids n=some n)(h:ls.get ids s=some d):∃G',ai vif vh8 vic G' (ls.st d) a w:=by
 unfold LS.get at h;cases hn:Nat.beq s.n ls.n<;>rw[hn]at h<;>simp at h
 have hn:=qN hn;split at h
 ·rename_i d1 nm1 h1;split at h
  ·rename_i nm2 h2;split at h
   ·rename_i d2 nm3 h3;cases hq:dr nm3&&ul nm3 ls.hp<;>rw[hq]at h<;>simp at h
    have h:((d1,d2):ls.den)=d:=qJ h;subst h;simp at hq;obtain⟨q1,q2⟩:=hq;obtain⟨f1,f2⟩:=qp9 h1;obtain⟨l1,l2⟩:=zeq h2;obtain⟨b1,b2⟩:=qa0 h3;obtain⟨b3,b4⟩:=b2 nm3 q1 (c8.refl _);refine⟨G.view nm3,⟨?_,by rw[hr.size];exact hn,fun i x hx => ?_,fun m _ hl => ?_,hr.fin.fit q1 (fun n bx hb=>b1 _ _ (l1 _ _ (f1 _ _ (hid n bx hb)))) b3⟩⟩
    ·obtain⟨bs,e1,e2⟩:=hr.defers;refine⟨bs,e1,e2.trans ?_⟩;have:∀(ns ms:List Nat),ns.map (ay nm2)=ms.map some->ms.map G.box=ns.map (G.view nm3).box:=by
      intro ns
      induction ns with
      |nil=>intro ms h;cases ms with|nil=>rfl|cons=>simp at h
      |cons n ns ih=>
       intro ms h
       cases ms with
       |nil=>simp at h|cons m ms=>
        simp at h ⊢;refine⟨?_,ih ms h.2⟩;show _=(ay nm3 n).bind G.box;rw[b1 _ _ h.1];rfl
     exact this _ _ l2
    ·obtain⟨y,hy,hs⟩:=f2 nm3 q1 (l1.trans b1) i x hx;obtain⟨v,v1,v2⟩:=hr.frame i y hy;exact⟨v,v1,hs.rep v2⟩
    ·have hno:ay nm3 m=none:=by
      cases hc:ay nm3 m with
      |none=>rfl|some o=>
       obtain⟨e,he,hem⟩:=q0c q2 m o hc;exact absurd hem (b4 m hl e he)
     simp[Gh.view,hno]
   ·cases h
  ·cases h
 ·cases h
end
def ap{α β γ:Type}(o:α ⊕ β)(f:α->γ)(g:β->γ):γ:=match o with|.inl a=>f a|.inr b=>g b
inductive Sp:Type->Type 1
 |one {α:Type} (d:α->D):Sp α
 |two {α β:Type} (l:Sp α) (r:Sp β):Sp (α ⊕ β)
def Sp.K{R:Type}:{α:Type}->Sp α->α->(D->Option R)->Option R|_,.one d,x,k=>k (d x)|_,.two l r,x,k=>ap x (fun a=>l.K a k) (fun b=>r.K b k)
def Sp.Out:{α:Type}->Sp α->α->D->Prop|_,.one d,x,e=>e=d x|_,.two l _,.inl a,e=>l.Out a e|_,.two _ r,.inr b,e=>r.Out b e
def Sp.K_some{R:Type}{k:D->Option R}{y:R}:∀{α:Type}{sp:Sp α}{x:α},sp.K x k=some y->∃d,sp.Out x d/\k d=some y
 |_,.one d,x,h=>⟨d x,rfl,h⟩|_,.two l r,.inl a,h=>by obtain⟨d,h1,h2⟩:=Sp.K_some (sp:=l) (x:=a) h;exact⟨d,h1,h2⟩
 |_,.two l r,.inr b,h=>by obtain⟨d,h1,h2⟩:=Sp.K_some (sp:=r) (x:=b) h;exact⟨d,h1,h2⟩
inductive Rq:Type 1
 |tot (d:D)
 |ifb (b:Bool) (d:D)
 |bnd {α:Type} (o:Option α) (sp:Sp α)
 |br (b:Bool) (d1 d2:D)
def Rq.K{R:Type}(q:Rq)(k:D->Option R):Option R:=match q with
 |.tot d=>k d|.ifb b d=>bif b then k d else none|.bnd o sp=>o.bind fun x=>sp.K x k
 |.br b d1 d2=>bif b then k d1 else k d2
def Rq.Out(q:Rq)(e:D):Prop:=match q with|.tot d=>e=d|.ifb b d=>b=true/\e=d|.bnd o sp=>∃x,o=some x/\sp.Out x e|.br b d1 d2=>(b=true/\e=d1)\/(b=false/\e=d2)
def Rq.K_some{R:Type}{k:D->Option R}{y:R}{q:Rq}(h:q.K k=some y):∃d,q.Out d/\k d=some y:=by
 cases q with
 |tot d=>exact⟨d,rfl,h⟩|ifb b d=>
  cases b with|true=>exact⟨d,⟨rfl,rfl⟩,h⟩|false=>cases h
 |bnd o sp=>
  cases o with
  |none=>cases h
  |some x=>obtain⟨d,h1,h2⟩:=Sp.K_some (sp:=sp) (x:=x) h;exact⟨d,⟨x,rfl,h1⟩,h2⟩
 |br b d1 d2=>
  cases b with|true=>exact⟨d1,.inl ⟨rfl,rfl⟩,h⟩|false=>exact⟨d2,.inr ⟨rfl,rfl⟩,h⟩
inductive RS:Type->Type 1
 |one {α:Type} (p:Pt) (hp:List (Nat×be)) (to:α->p.den×fq hp) (fro:p.den×fq hp->α) (ok:∀y,to (fro y)=y):RS α
 |two {α β:Type} (l:RS α) (r:RS β):RS (α ⊕ β)
def RS.res:{α:Type}->RS α->α->AV×List (Nat×ag)|_,.one p hp to _ _,x=>(p.put (to x).1,bj hp (to x).2)|_,.two l r,x=>ap x (fun a=>l.res a) (fun b=>r.res b)
def RS.sp(mk:AV->List (Nat×ag)->D):{α:Type}->RS α->Sp α
 |_,.one p hp to _ _ => .one fun x=>mk (p.put (to x).1) (bj hp (to x).2)
 |_,.two l r => .two (l.sp mk) (r.sp mk)
def RS.sp_out{mk:AV->List (Nat×ag)->D}:∀{α:Type}{r:RS α}{x:α}{d:D},(r.sp mk).Out x d->d=mk (r.res x).1 (r.res x).2|_,.one _ _ _ _ _,_,_,h=>h|_,.two l _,.inl a,_,h=>RS.sp_out (r:=l) (x:=a) h|_,.two _ r,.inr b,_,h=>RS.sp_out (r:=r) (x:=b) h
inductive pg:Type
 |fn (f:FuncId)
 |yld (tag:Nat)
 |ext (f:FuncId)
 |thr (f:FuncId) (ks:List (Nat×Nat))
def wv(t:TypeId)(n:Int):Value := .iface t (.agg #[.int .i64 n])
def eq(t:TypeId)(n:Int):AV := .tup [.undef,.iface t (.agg [.int .i64 n])]
def ll:AV->Option (TypeId×Int)|.tup [.undef,.iface t (.agg [.int .i64 n])]=>some (t,n)|_=>none
def qln(P:Program)(x:TypeId×Int)(f:FuncId)(xs:List AV)(hp:List (Nat×ag))(hp':List (Nat×ag)):Prop:=
 ∀(w:World)(G:Gh)(vs:List Value),bq G hp w->ak xs G vs->Calls P f vs.toArray w (fun e w'=>e = .panicked [{ v:=wv x.1 x.2,recovered:=false }]/\∃G',Fin w G hp G' hp' w')
def qlq(P:Program)(f:FuncId)(xs:List AV)(r:AV):Prop:=
 ∀(w:World)(G:Gh)(vs:List Value),bq G [] w->ak xs G vs->∃v,(callFunc f vs.toArray).run P w = .ok (.value v) w/\aj r G v
structure ck:Type 1 where
 key:pg
 args:List Pt
 hp:List (Nat×be)
 R:Type
 F:Pts.den args->fq hp->Option R
 out:RS R
def ck.Sound(P:Program)(e:ck):Prop:=∀d d' r,e.F d d'=some r->match e.key with
 |.fn f=>ki P f/\ce P f (Pts.put e.args d) (bj e.hp d') (e.out.res r).1 (e.out.res r).2|.yld m=>zdi P m (Pts.put e.args d) (bj e.hp d') (e.out.res r).1 (e.out.res r).2|.ext f=>qlq P f (Pts.put e.args d) (e.out.res r).1| .thr f _=>ki P f/\(match ll (e.out.res r).1 with
  |none=>ce P f (Pts.put e.args d) (bj e.hp d') (e.out.res r).1 (e.out.res r).2| some x=>qln P x f (Pts.put e.args d) (bj e.hp d') (e.out.res r).2)
def am{α:Type}(l:List α)(n:Int):Option α:=if 0<=n then l[n.toNat]? else none
def qjv{α:Type}{l:List α}{n:Int}{x:α}(h:am l n=some x):0<=n/\l[n.toNat]? = some x:=by
 unfold am at h;split at h
 ·rename_i h0;exact⟨h0,h⟩
 ·cases h
def qpp{α:Type}(l:List α)(lo hi:Option Int):Rq:=
 match lo,hi with|none,none => .tot .none|some a,none => .ifb (decide (0<=a/\a<=l.length)) .none|none,some b => .ifb (decide (0<=b/\b<=l.length)) .none|some a,some b => .ifb (decide (0<=a/\a<=b/\b<=l.length)) .none
def zfq{α:Type}{l:List α}{lo hi:Option Int}{d:D}(h:(qpp l lo hi).Out d):ar (cut l lo hi).1:=by
 unfold qpp at h;unfold cut;split at h
 ·trivial
 ·exact⟨of_decide_eq_true h.1,trivial⟩
 ·exact⟨of_decide_eq_true h.1,trivial⟩
 ·exact⟨of_decide_eq_true h.1,trivial⟩
def x7:AV->Bool|.val _=>true|_=>false
def sy(c:Bool)(b:Bool):Option Rq:=bif c then(bif b then some (.tot .none) else none) else some (.ifb b .none)
def yy{c b:Bool}{q:Rq}{d:D}(h:sy c b=some q)(ho:q.Out d):b=true:=by
 unfold sy at h;cases c
 ·simp at h;subst h;exact ho.1
 ·cases b
  ·cases h
  ·rfl
def qa1(op:BinOp)(x y:AV):Option Rq:=
 match op with
 |.quo=>match y.sym with|.int _ b=>sy (x7 y) (decide (b≠0))|.byte b=>sy (x7 y) (decide (b≠0))|_=>some (.tot .none)
 |.rem=>match y.sym with|.int _ b=>sy (x7 y) (decide (b≠0))|.byte b=>sy (x7 y) (decide (b≠0))|_=>some (.tot .none)
 |.shl=>match y.sym with|.int _ b=>sy (x7 y) (decide (0<=b))|_=>some (.tot .none)
 |.shr=>match y.sym with|.int _ b=>sy (x7 y) (decide (0<=b))|_=>some (.tot .none)
 |.add=>match x.sym,y.sym with|.str a,.str b=>some (.ifb (decide (a.length+b.length<=a7)) .none)|_,_=>some (.tot .none)
 |_=>some (.tot .none)
def zep{P:Program}{op:BinOp}{t:TypeId}{x y:AV}{q:Rq}{d:D}(h:qa1 op x y=some q)(ho:q.Out d){ps:List Prop}{r:AV}(ha:uf P op t x.sym y.sym=some (ps,r)):ar ps:=by
 have key:∀(xs ys:AV),(op = .quo\/op = .rem->(∀k b,ys = .int k b->b≠0)/\∀b,ys = .byte b->b≠0)->(op = .shl\/op = .shr->∀k b,ys = .int k b->0<=b)->(op = .add->∀a b,xs = .str a->ys = .str b->a.length+b.length<=a7) ->
   ∀{ps r},uf P op t xs ys=some (ps,r)->ar ps:=by
  intro xs ys k1 k2 k3 ps r ha;unfold uf at ha;split at ha
  ·rename_i k a k' b;cases hc:decide (op = .shl)||decide (op = .shr)||decide (k=k')<;>rw[hc]at ha<;>simp at ha
   cases hc8:decide (k = .u8)||decide (k' = .u8)<;>rw[hc8]at ha<;>simp at ha
   cases op<;>simp[qdu,qI,qP]at ha<;>obtain⟨rfl,_⟩:=ha<;>first
    |trivial
    |exact⟨(k1 (.inl rfl)).1 _ _ rfl,trivial⟩
    |exact⟨(k1 (.inr rfl)).1 _ _ rfl,trivial⟩
    |exact⟨k2 (.inl rfl) _ _ rfl,trivial⟩
    |exact⟨k2 (.inr rfl) _ _ rfl,trivial⟩
  ·rename_i a b;cases op<;>simp[qos,qI,qP,reduceCtorEq]at ha<;>obtain⟨rfl,_⟩:=ha<;>first
    |trivial
    |exact⟨(k1 (.inl rfl)).2 _ rfl,trivial⟩
    |exact⟨(k1 (.inr rfl)).2 _ rfl,trivial⟩
  ·split at ha
   ·simp at ha;obtain⟨rfl,_⟩:=ha;exact⟨k2 (.inl rfl) _ _ rfl,trivial⟩
   ·simp at ha;obtain⟨rfl,_⟩:=ha;exact⟨k2 (.inr rfl) _ _ rfl,trivial⟩
   ·cases ha
  ·rename_i k a b;cases hk:decide (k = .u8)<;>rw[hk]at ha<;>simp at ha
   split at ha
   ·simp at ha;obtain⟨rfl,_⟩:=ha;trivial
   ·simp at ha;obtain⟨rfl,_⟩:=ha;trivial
   ·cases ha
  ·rename_i a b;cases op<;>simp[qou,qI,qP,reduceCtorEq]at ha<;>obtain⟨rfl,_⟩:=ha<;>first
    |trivial
    |exact⟨k3 rfl _ _ rfl rfl,trivial⟩
  ·split at ha
   ·split at ha
    ·simp at ha;obtain⟨rfl,_⟩:=ha;trivial
    ·cases ha
   ·split at ha
    ·simp at ha;obtain⟨rfl,_⟩:=ha;trivial
    ·cases ha
   ·cases ha
 refine key x.sym y.sym (fun hop => ?_) (fun hop => ?_) (fun hop a b e1 e2 => ?_) ha
 ·rcases hop with rfl|rfl
  ·simp only[qa1]at h;exact⟨fun k b e=>by rw[e]at h;exact of_decide_eq_true (yy h ho),fun b e=>by rw[e]at h;exact of_decide_eq_true (yy h ho)⟩
  ·simp only[qa1]at h;exact⟨fun k b e=>by rw[e]at h;exact of_decide_eq_true (yy h ho),fun b e=>by rw[e]at h;exact of_decide_eq_true (yy h ho)⟩
 ·rcases hop with rfl|rfl
  ·simp[qa1]at h;exact fun k b e=>by rw[e]at h;exact of_decide_eq_true (yy h ho)
  ·simp[qa1]at h;exact fun k b e=>by rw[e]at h;exact of_decide_eq_true (yy h ho)
 ·subst hop;simp[qa1]at h;rw[e1,e2]at h;simp at h;subst h;exact of_decide_eq_true ho.1
def q45(s:St):AV->Option (List UInt8)
 |.sl τ l=>match Ty.eq? τ .byte with|some ⟨h⟩=>some (h▸l:List Ty.byte.den)|none=>none
 |.own k=>match af s.hp k with
  |some (.row τ l _)=>match Ty.eq? τ .byte with|some ⟨h⟩=>some (h▸l:List Ty.byte.den)|none=>none
  |_=>none
 |.val (.slice none 0 0)=>some []|_=>none
def z3i{s:St}{v:AV}{b:List UInt8}(h:q45 s v=some b){flat:List AV}{n:Nat}(hs:fm s v=some (flat,n)):flat=b.map AV.byte/\n=b.length:=by
 unfold q45 at h;split at h
 ·rename_i τ l;split at h
  ·rename_i hh _;subst hh;have h:l=b:=qJ h;subst h;simp only[fm,qI,qP]at hs;obtain⟨rfl,rfl⟩:=hs;exact⟨qji l,rfl⟩
  ·cases h
 ·rename_i k;split at h
  ·rename_i τ l E hl;split at h
   ·rename_i hh _;subst hh;have h:l=b:=qJ h;subst h;simp only[fm,hl,qI,qP]at hs;obtain⟨rfl,rfl⟩:=hs;exact⟨qji l,rfl⟩
   ·cases h
  ·cases h
 ·simp only[qI]at h;subst h;simp only[fm,qI,qP]at hs;obtain⟨rfl,rfl⟩:=hs;exact⟨rfl,rfl⟩
 ·cases h
def tyE(P:Program)(E:TypeId):Option Ty:=match P.underlying E with|some (.int k)=>some (bif decide (k = .u8) then .byte else .int k)|some .bool=>some .bool|some .string=>some .str|_=>none
def q4e:Ty->AV->Bool|.int _,.int _ _=>true|.byte,.byte _=>true|.bool,.bool _=>true|.str,.str _=>true|_,_=>false
def z0g:∀{τ:Ty}{y:AV}{d:τ.den},rx τ y=some d->q4e τ y=true->y=τ.av d
 |.int k,.int k' n,d,h,_=>by
  simp only[rx,Ty.dec]at h;cases hk:decide (k'=k)<;>rw[hk]at h
  ·cases h
  ·have:=of_decide_eq_true hk;subst this;have h:n=d:=qJ h;subst h;rfl
 |.byte,.byte c,d,h,_=>by have h:c=d:=qJ h;subst h;rfl|.bool,.bool c,d,h,_=>by have h:c=d:=qJ h;subst h;rfl|.str,.str c,d,h,_=>by have h:c=d:=qJ h;subst h;rfl
def qd8(τ:Ty):List AV->Option (List τ.den)
 |[]=>some []|x::xs=>match rx τ x.sym,qd8 τ xs with|some d,some ds=>bif q4e τ x.sym then some (d::ds) else none|_,_=>none
def q1s{τ:Ty}:∀{xs:List AV}{ds:List τ.den},qd8 τ xs=some ds->xs.map AV.sym=ds.map τ.av
 |[],ds,h=>by simp only[qd8,qI]at h;subst h;rfl|x::xs,ds,h=>by
  simp only[qd8]at h;split at h
  ·rename_i d ds' h1 h2;cases hb:q4e τ x.sym<;>rw[hb]at h<;>simp only[qT,qF,reduceCtorEq,qI]at h
   subst h;rw[List.map_cons,List.map_cons,q1s h2,← z0g h1 hb]
  ·cases h
def qkn(s:St):AV->Option (List Int)
 |.sl (.int .i32) l=>some l|.own k=>match af s.hp k with|some (.row (.int .i32) l _)=>some l|_=>none
 |.val (.slice none 0 0)=>some []|_=>none
def zla{s:St}{v:AV}{l:List Int}(hl:qkn s v=some l):fm s v=some (List.flatMap (β:=AV) (Ty.int .i32).enc l,l.length):=by
 unfold qkn at hl;split at hl
 ·have hl:=qJ hl;subst hl;rfl
 ·rename_i k;split at hl
  ·rename_i hk;have hl:=qJ hl;subst hl;show(match af s.hp k with|some (.row τ l _)=>some (l.flatMap τ.enc,l.length)|_=>none)=_;rw[hk];rfl
  ·cases hl
 ·have hl:=qJ hl;subst hl;rfl
 ·cases hl
def qju(P:Program)(s:St)(t:TypeId)(x:AV)(i:Operand):Option Rq:=
 match x,s.evy i with
 |.str b,some (.int _ n)=>some (.bnd (am b n) (.one fun c => .cs [.byte c]))
 |.str b,some (.byte n)=>some (.bnd b[n.toNat]? (.one fun c => .cs [.byte c]))
 |.agg cs,some (.int _ n)=>match s.ev i with
  |some (.val _)=>match(cs.map AV.sym)[n.toNat]? with|some y=>bif decide (0<=n) then some (.tot (.cs [y])) else none|none=>none
  |_=>match P.underlying t with
   |some (.array _ E)=>match tyE P E with
    |some τ=>match qd8 τ cs with
     |some l=>some (.bnd (am l n) (.one fun y => .cs [τ.av y]))
     |none=>none
    |none=>none
   |_=>none
 |_,_=>none
def qdy(P:Program)(s:St)(t:TypeId)(x:AV)(i:Operand):Option Rq:=
 match x,s.evy i with
 |.sl τ l,some (.int _ n)=>some (.bnd (am l n) (.one fun y => .cs (τ.enc y)))
 |.own k,some (.int _ n)=>match af s.hp k with|some (.row _ l _)=>some (.ifb (decide (0<=n/\n.toNat<l.length)) .none)|_=>none
 |.asl _ m _,some (.int _ n)=>match s.ev i with|some j=>sy (x7 j) (decide (0<=n/\n.toNat<m))|_=>none
 |.ptr _ _,some (.int _ n)=>match P.underlying t,s.ev i with|some (.array len _),some j=>sy (x7 j) (decide (0<=n/\n<len))|_,_=>none
 |_,_=>none
def pu(P:Program)(s:St)(op:Op):Option Rq:=
 match op with
 |.pick c _ _=>match s.ev c with|some (.bool b)=>some (.br b (.b true) (.b false))|_=>some (.tot .none)
 |.load _ x=>match s.ev x with
  |some (.oel k _ i _)=>match af s.hp k with
   |some (.row τ l _)=>some (.bnd l[i]? (.one fun y => .cs (τ.enc y)))
   |_=>none
  |_=>some (.tot .none)
 |.slice _ x lo hi _=>match jc s lo,jc s hi,s.ev x with|some a,some b,some (.str l)=>some (qpp l a b)|some a,some b,some (.sl _ l)=>some (qpp l a b)|some none,some none,some (.ptr _ _)=>some (.tot .none)|some none,some none,some (.rop _)=>some (.tot .none)|_,_,_=>none
 |.binOp op _ x y _=>match s.ev x,s.ev y with|some a,some b=>qa1 op a b|_,_=>none
 |.convert _ _ x=>match s.ev x with
  |some v=>match q45 s v with
   |some b=>some (.tot (.cs [.str b]))|none=>match qkn s v with|some l=>some (.tot (.cs [.sl (.int .i32) l]))|none=>some (.tot .none)
  |none=>none
 |.index t x i=>match s.ev x with|some v=>qju P s t v i|none=>none
 |.indexAddr t x i=>match s.ev x with|some v=>qdy P s t v i|none=>none
 |_=>some (.tot .none)
def zw4{P:Program}{s:St}{t:TypeId}{x j:AV}{i:Operand}{q:Rq}{d:D}(hj:s.evy i=some j)(h:qju P s t x i=some q)(ho:q.Out d){ps:List Prop}{r:AV}(ha:qij P t x j d=some (ps,r)):ar ps:=by
 unfold qij at ha;split at ha
 ·simp[qju,hj,qI]at h;subst h;obtain⟨y,h1,h2⟩:=ho;simp only[Sp.Out,D.cs.injEq,List.cons.injEq,AV.byte.injEq,and_true]at h2;subst h2;simp at ha;obtain⟨rfl,_⟩:=ha;exact⟨qjv h1,trivial⟩
 ·simp[qju,hj,qI]at h;subst h;obtain⟨y,h1,h2⟩:=ho;simp only[Sp.Out,D.cs.injEq,List.cons.injEq,AV.byte.injEq,and_true]at h2;subst h2;simp at ha;obtain⟨rfl,_⟩:=ha;exact⟨h1,trivial⟩
 ·rename_i len E cs k n y hu;simp only[qju,hj]at h;split at ha
  ·cases hq:Nat.beq cs.length len<;>rw[hq]at ha<;>simp only[qT,qF,reduceCtorEq,qI,qP]at ha
   obtain⟨rfl,_⟩:=ha;refine⟨?_,trivial⟩;split at h
   ·split at h
    ·rename_i z hz;cases hd:decide (0<=n)<;>rw[hd]at h<;>simp only[qT,qF,reduceCtorEq,qI]at h
     subst h;have ho:D.cs [y]=D.cs [z]:=ho;simp only[D.cs.injEq,List.cons.injEq,and_true]at ho;subst ho;exact⟨of_decide_eq_true hd,hz⟩
    ·cases h
   ·simp[hu]at h;split at h
    ·rename_i τ hτ;split at h
     ·rename_i l hl;simp at h;subst h;obtain⟨z,h1,h2⟩:=ho;simp[Sp.Out,D.cs.injEq,List.cons.injEq,and_true]at h2;subst h2;obtain⟨h3,h4⟩:=qjv h1;refine⟨h3,?_⟩;rw[q1s hl,List.getElem?_map,h4];rfl
     ·cases h
    ·cases h
  ·cases ha
 ·cases ha
def zr6{P:Program}{s:St}{t:TypeId}{x j:AV}{i:Operand}{q:Rq}{d:D}(hj:s.evy i=some j)(h:qdy P s t x i=some q)(ho:q.Out d){ps:List Prop}{r:AV}(ha:qdt P s t x j d=some (ps,r)):ar ps:=by
 unfold qdt at ha;split at ha
 ·split at ha
  ·rename_i sz k n hsz;split at ha
   ·rename_i τ l cs;cases hq:Nat.beq τ.sz sz<;>rw[hq]at ha<;>simp at ha
    obtain⟨rfl,_⟩:=ha;simp[qdy,hj,qI]at h;subst h;obtain⟨y,h1,h2⟩:=ho;have h2:D.cs cs=D.cs (τ.enc y):=h2;simp at h2;exact⟨⟨(qjv h1).1,y,(qjv h1).2,h2.symm⟩,trivial⟩
   ·split at ha
    ·rename_i τ l E hl;cases hq:Nat.beq τ.sz sz<;>rw[hq]at ha<;>simp at ha
     obtain⟨rfl,_⟩:=ha;simp only[qdy,hj,hl,qI]at h;subst h;exact⟨of_decide_eq_true ho.1,trivial⟩
    ·cases ha
   ·simp at ha;obtain⟨rfl,_⟩:=ha;simp only[qdy,hj]at h;split at h
    ·exact⟨of_decide_eq_true (yy h ho),trivial⟩
    ·cases h
   ·cases ha
  ·cases ha
 ·rename_i len E hu;split at ha
  ·rename_i sz k n b off hsz;simp at ha;obtain⟨rfl,_⟩:=ha;simp only[qdy,hj,hu]at h;split at h
   ·rename_i len' _ j' he _;simp only[qI,TypeDesc.array.injEq]at he;obtain⟨rfl,rfl⟩:=he;exact⟨of_decide_eq_true (yy h ho),trivial⟩
   ·cases h
  ·cases ha
 ·cases ha
def zea{P:Program}{s:St}{op:Op}{q:Rq}{d:D}(h:pu P s op=some q)(ho:q.Out d){ps:List Prop}{v:AV}(ha:di P s d op=some (ps,v)):ar ps:=by
 have triv:∀{x:AV}{ps:List Prop}{v:AV},(some (([]:List Prop),x):Option (List Prop×AV))=some (ps,v)->ar ps:=fun e=>by
  simp at e;obtain⟨rfl,_⟩:=e;trivial
 have cnd:∀{b:Bool}{x:AV}{ps:List Prop}{v:AV},(bif b then some (([]:List Prop),x) else none)=some (ps,v)->ar ps:=fun{b} _ _ _ e=>by
  cases b
  ·cases e
  ·exact triv e
 unfold di at ha;split at ha
 ·split at ha
  ·exact triv ha
  ·cases ha
 ·split at ha
  ·exact triv ha
  ·cases ha
 ·split at ha
  ·rename_i c x y b t hc;split at ha
   ·simp at ha;obtain⟨rfl,_⟩:=ha;simp[pu,hc,qI]at h;subst h;rcases ho with⟨h1,h2⟩|⟨h1,h2⟩
    ·simp at h2;subst h2;exact⟨h1,trivial⟩
    ·simp at h2;subst h2;exact⟨h1,trivial⟩
   ·cases ha
  ·split at ha
   ·exact triv ha
   ·cases ha
  ·cases ha
 ·unfold qdr at ha;split at ha
  ·split at ha
   ·split at ha
    ·split at ha
     ·exact triv ha
     ·cases ha
    ·cases ha
   ·split at ha
    ·split at ha
     ·exact triv ha
     ·cases ha
    ·cases ha
   ·cases ha
  ·cases ha
 ·unfold qil at ha;split at ha
  ·split at ha
   ·split at ha
    ·exact triv ha
    ·cases ha
   ·cases ha
  ·split at ha
   ·exact triv ha
   ·cases ha
  ·rename_i k sz i off hx;split at ha
   ·rename_i τ l E cs hl;cases hq:Nat.beq sz τ.sz<;>rw[hq]at ha<;>simp at ha
    split at ha
    ·simp at ha;obtain⟨rfl,_⟩:=ha;simp[pu,hx,hl,qI]at h;subst h;obtain⟨y,h1,h2⟩:=ho;have h2:D.cs cs=D.cs (τ.enc y):=h2;simp at h2;exact⟨⟨y,h1,h2.symm⟩,trivial⟩
    ·cases ha
   ·cases ha
  ·cases ha
 ·unfold qim at ha;split at ha
  ·rename_i h1 h2 h3;split at ha
   ·simp at ha;obtain⟨rfl,_⟩:=ha;simp[pu,h1,h2,h3,qI]at h;subst h;exact zfq ho
   ·cases ha
  ·rename_i τ l h1 h2 h3;split at ha
   ·split at ha
    ·rename_i sz hsz;cases hq:Nat.beq τ.sz sz<;>rw[hq]at ha<;>simp at ha
     obtain⟨rfl,_⟩:=ha;simp[pu,h1,h2,h3,qI]at h;subst h;exact zfq ho
    ·cases ha
   ·cases ha
  ·split at ha
   ·split at ha
    ·exact triv ha
    ·cases ha
   ·cases ha
  ·split at ha
   ·rename_i n E hu;split at ha
    ·split at ha
     ·split at ha
      ·rw[cond_eq_ite]at ha;split at ha
       ·exact triv ha
       ·cases ha
      ·cases ha
     ·cases ha
    ·cases ha
   ·cases ha
  ·cases ha
 ·split at ha
  ·rename_i a b hx hy;simp[pu,hx,hy]at h;unfold qot at ha;split at ha
   ·split at ha
    ·exact triv ha
    ·exact zep h ho ha
   ·exact zep h ho ha
  ·cases ha
 ·split at ha
  ·split at ha
   ·exact triv ha
   ·cases ha
  ·cases ha
 ·rename_i src dst x;split at ha
  ·rename_i v' hs hx;split at ha
   ·rename_i r' hc;simp at ha;subst ha;have key:∀{y:AV}{ps:List Prop}{v:AV},rl P dst y=some (ps,v)->ar ps:=fun e=>by
     unfold rl at e;split at e
     ·rename_i k _ _ _;cases hk:decide (k = .u8)<;>rw[hk]at e<;>exact triv e
     ·rename_i k _ _;cases hk:decide (k = .u8)<;>rw[hk]at e<;>simp only[qT,qF]at e
      ·cases hk8:decide (k = .i8)<;>rw[hk8]at e<;>simp only[qT,qF,reduceCtorEq]at e
       exact triv e
      ·exact triv e
     ·exact triv e
     ·cases e
    unfold xe at hc;split at hc
    ·split at hc
     ·exact triv hc
     ·exact key hc
    ·exact key hc
   ·split at ha
    ·unfold qin at ha;split at ha
     ·rename_i E flat n b hu hsrc;split at ha
      ·cases ha
      ·simp at ha;obtain⟨rfl,_⟩:=ha;simp[pu,hx]at h;split at h
       ·rename_i b' hb;simp at h;subst h;have ho:D.cs [.str b]=D.cs [.str b']:=ho;simp at ho;subst ho;obtain⟨h1,h2⟩:=z3i hb hsrc;exact⟨h1,h2,trivial⟩
       ·split at h
        ·rename_i l' _;simp at h;subst h;exact absurd (show D.cs [.str b]=D.cs [.sl (.int .i32) l'] from ho) oB
        ·simp at h;subst h;exact absurd (show D.cs [.str b]=D.none from ho) oB
      ·cases ha
     ·rename_i E flat n l hu hsrc;split at ha
      ·cases ha
      ·simp at ha;obtain⟨rfl,_⟩:=ha;simp[pu,hx]at h;split at h
       ·rename_i b' _;simp at h;subst h;exact absurd (show D.cs [.sl (.int .i32) l]=D.cs [.str b'] from ho) oB
       ·split at h
        ·rename_i l' hl;simp at h;subst h;have ho:D.cs [.sl (.int .i32) l]=D.cs [.sl (.int .i32) l']:=ho;have ho:l=l':=by injection ho with ho;injection ho with ho;injection ho with _ ho
         subst ho;have h1:=zla hl;rw[hsrc]at h1;simp at h1;exact⟨h1.1,h1.2,trivial⟩
        ·simp at h;subst h;exact absurd (show D.cs [.sl (.int .i32) l]=D.none from ho) oB
      ·cases ha
     ·cases ha
    ·cases ha
  ·cases ha
 ·split at ha
  ·unfold qoq at ha;split at ha
   ·split at ha
    ·split at ha
     ·exact triv ha
     ·cases ha
    ·cases ha
   ·cases ha
  ·cases ha
 ·split at ha
  ·unfold qor at ha;split at ha
   ·split at ha
    ·split at ha
     ·rename_i sz _;cases hz:Nat.beq sz 0<;>rw[hz]at ha<;>simp at ha
      split at ha
      ·exact triv ha
      ·exact cnd ha
      ·exact triv ha
      ·cases ha
     ·cases ha
    ·cases ha
   ·cases ha
  ·cases ha
 ·split at ha
  ·split at ha
   ·exact triv ha
   ·cases ha
  ·cases ha
 ·split at ha
  ·rename_i v' j hx hj;simp[pu,hx]at h;exact zw4 hj h ho ha
  ·cases ha
 ·split at ha
  ·rename_i v' j hx hj;simp[pu,hx]at h;exact zr6 hj h ho ha
  ·cases ha
 ·split at ha
  ·exact triv ha
  ·cases ha
 ·split at ha
  ·split at ha
   ·unfold qik at ha;split at ha
    ·exact triv ha
    ·exact triv ha
    ·split at ha
     ·exact triv ha
     ·cases ha
    ·exact triv ha
    ·exact triv ha
    ·cases ha
   ·cases ha
  ·cases ha
 ·split at ha
  ·split at ha
   ·unfold qzx at ha;split at ha
    ·exact cnd ha
    ·cases ha
   ·cases ha
  ·cases ha
 ·split at ha
  ·split at ha
   ·unfold qzy at ha;split at ha
    ·exact cnd ha
    ·cases ha
   ·cases ha
  ·cases ha
 ·split at ha
  ·exact cnd ha
  ·cases ha
 ·cases ha
mutual
def qem(hp:List (Nat×ag)):AV->AV
 |.own k=>match af hp k with|some (.row τ l _) => .sl τ l|_ => .own k
 |.agg xs => .agg (qe hp xs)|x=>x
def qe(hp:List (Nat×ag)):List AV->List AV|[]=>[]|x::xs=>qem hp x::qe hp xs
end
mutual
def zha:AV->Bool|.own _=>true|.agg xs=>se xs|_=>false
def se:List AV->Bool|[]=>false|x::xs=>zha x||se xs
end
mutual
def vn:AV->Bool|.iface _ x=>vn x|.agg xs=>ju xs|.tup xs=>ju xs|.fn _ xs ys=>ju xs&&ju ys|_=>true
def ju:List AV->Bool|[]=>true|x::xs=>vn x&&ju xs
end
def q3w:∀{xs ys:List AV},ju xs=true->ju ys=true->ju (xs++ys)=true
 |[],_,_,h=>h|x::xs,ys,h,k=>by
  simp[ju,qA,wK]at h ⊢;exact⟨h.1,q3w h.2 k⟩
def qka:∀{τ:Ty}{d:τ.den},ju (τ.enc d)=true|.int _,_=>rfl|.byte,_=>rfl|.bool,_=>rfl|.str,_=>rfl|.unit,_=>rfl|.prod _ _,_=>q3w qka qka|.list _,_=>rfl|.tree _,_=>q3w qka rfl
def zy2:∀{τ:Ty}{d:τ.den},vn (τ.av d)=true|.int _,_=>rfl|.byte,_=>rfl|.bool,_=>rfl|.str,_=>rfl|.unit,_=>rfl|.prod a b,d=>qka (τ := .prod a b) (d:=d)|.list _,_=>rfl|.tree a,d=>qka (τ := .tree a) (d:=d)
mutual
def zi5:∀{p:Pt}{d:p.den},vn (p.put d)=true|.h _,_=>zy2|.c _,_=>rfl|.agg ps,d=>qbi (ps:=ps) (d:=d)|.tup ps,d=>qbi (ps:=ps) (d:=d)|.ptr _ _,_=>rfl|.own _,_=>rfl|.arr _,_=>rfl|.el _ _,_=>rfl|.iel _ _ _,_=>rfl|.ifc _ p,d=>zi5 (p:=p) (d:=d)|.yld _,_=>rfl|.pn _,_=>rfl|.fn _ cap,d=>qbi (ps:=cap) (d:=d)|.u,_=>rfl
def qbi:∀{ps:List Pt}{d:Pts.den ps},ju (Pts.put ps d)=true
 |[],_=>rfl|p::ps,d=>by
  show(vn (p.put d.1)&&ju (Pts.put ps d.2))=true;rw[zi5,qbi];rfl
end
mutual
def ia{b:Bool}{hp:List (Nat×ag)}:∀{x y:AV}{ps:List Prop},vn y=true->vw false [] (x.ren (aw [])) y=some ps->ar ps->∃qs,vw b hp x y=some qs/\ar qs
 |.agg xs,y,ps,hn,h,hp=>by
  cases y<;>first
   |exact qe4 (xs:=xs) hn h hp
   |exact⟨_,rfl,trivial⟩
   |(exfalso;have:=qJ h;subst this;exact absurd hp.1 oB)
 |.tup xs,y,ps,hn,h,hp=>by
  cases y<;>first
   |exact qe4 (xs:=xs) hn h hp
   |exact⟨_,rfl,trivial⟩
   |(exfalso;have:=qJ h;subst this;exact absurd hp.1 oB)
 |.fn f xs ys,y,ps,hn,h,hp=>by
  cases y with
  |fn f' xs' ys'=>
   simp[vn,qA]at hn;have h:(match bp false [] (AV.rens (aw []) xs) xs',bp false [] (AV.rens (aw []) ys) ys' with
    |some ps,some qs=>some ((f'=f)::(ps++qs))| _,_=>none)=some ps:=h
   split at h
   ·rename_i p1 p2 h1 h2;have:=qJ h;subst this;obtain⟨q1,e1,a1⟩:=qe4 (b:=b) (hp:=‹_›) hn.1 h1 (du.1 hp.2).1;obtain⟨q2,e2,a2⟩:=qe4 (b:=b) (hp:=‹_›) hn.2 h2 (du.1 hp.2).2;exact⟨(f'=f)::(q1++q2),by simp[vw,e1,e2],hp.1,du.2 ⟨a1,a2⟩⟩
   ·cases h
  |undef=>exact⟨_,rfl,trivial⟩|_=>exfalso;have:=qJ h;subst this;exact absurd hp.1 oB
 |.val v,y,ps,hn,h,hp=>by cases y<;>exact⟨ps,h,hp⟩
 |.undef,y,ps,hn,h,hp=>by cases y<;>exact⟨ps,h,hp⟩
 |.int _ _,y,ps,hn,h,hp=>by cases y<;>exact⟨ps,h,hp⟩
 |.byte _,y,ps,hn,h,hp=>by cases y<;>exact⟨ps,h,hp⟩
 |.bool _,y,ps,hn,h,hp=>by cases y<;>exact⟨ps,h,hp⟩
 |.str _,y,ps,hn,h,hp=>by cases y<;>exact⟨ps,h,hp⟩
 |.sl _ _,y,ps,hn,h,hp=>by cases y<;>exact⟨ps,h,hp⟩
 |.arr _ _,y,ps,hn,h,hp=>by cases y<;>exact⟨ps,h,hp⟩
 |.rop _,y,ps,hn,h,hp=>by cases y<;>exact⟨ps,h,hp⟩
 |.iface t x,y,ps,hn,h,hp=>by
  cases y with
  |undef=>exact⟨_,rfl,trivial⟩|iface t' x'=>
   have h:(match vw false [] (AV.ren (aw []) x) x' with
    |some ps=>some ((t'=t)::ps)| none=>none)=some ps:=h
   split at h
   ·rename_i p1 h1;have:=qJ h;subst this;have hn':vn x'=true:=hn;obtain⟨q1,e1,a1⟩:=ia (b:=b) (hp:=‹_›) (x:=x) (y:=x') hn' h1 hp.2;exact⟨(t'=t)::q1,by simp[vw,e1],hp.1,a1⟩
   ·cases h
  |_=>exfalso;have:=qJ h;subst this;exact absurd hp.1 (by simp[AV.ren])
 |.ptr _ _,y,ps,hn,h,hp=>by
  cases y<;>first
   |exact⟨_,rfl,trivial⟩
   |(exfalso;have:=qJ h;subst this;have e:_=AV.undef:=hp.1;cases e)
 |.own _,y,ps,hn,h,hp=>by
  cases y<;>first
   |exact⟨_,rfl,trivial⟩
   |(exfalso;have:=qJ h;subst this;have e:_=AV.undef:=hp.1;cases e)
 |.oel _ _ _ _,y,ps,hn,h,hp=>by
  cases y<;>first
   |exact⟨_,rfl,trivial⟩
   |(exfalso;have:=qJ h;subst this;have e:_=AV.undef:=hp.1;cases e)
 |.osl _ _ _,y,ps,hn,h,hp=>by
  cases y<;>first
   |exact⟨_,rfl,trivial⟩
   |(exfalso;have:=qJ h;subst this;have e:_=AV.undef:=hp.1;cases e)
 |.asl _ _ _,y,ps,hn,h,hp=>by
  cases y<;>first
   |exact⟨_,rfl,trivial⟩
   |(exfalso;have:=qJ h;subst this;have e:_=AV.undef:=hp.1;cases e)
 |.yld _,y,ps,hn,h,hp=>by
  cases y<;>first
   |exact⟨_,rfl,trivial⟩
   |(exfalso;have:=qJ h;subst this;have e:_=AV.undef:=hp.1;cases e)
 |.pn _,y,ps,hn,h,hp=>by
  cases y<;>first
   |exact⟨_,rfl,trivial⟩
   |(exfalso;have:=qJ h;subst this;have e:_=AV.undef:=hp.1;cases e)
def qe4{b:Bool}{hp:List (Nat×ag)}:∀{xs ys:List AV}{ps:List Prop},ju ys=true->bp false [] (AV.rens (aw []) xs) ys=some ps->ar ps->∃qs,bp b hp xs ys=some qs/\ar qs
 |[],[],ps,_,h,hp=>⟨[],rfl,trivial⟩|x::xs,y::ys,ps,hn,h,hp=>by
  simp[ju,qA]at hn;simp[AV.rens,bp]at h;split at h
  ·rename_i p1 h1;split at h
   ·rename_i p2 h2;have:=qJ h;subst this;obtain⟨q1,e1,a1⟩:=ia (b:=b) (hp:=‹_›) hn.1 h1 (du.1 hp).1;obtain⟨q2,e2,a2⟩:=qe4 (b:=b) (hp:=‹_›) hn.2 h2 (du.1 hp).2;exact⟨q1++q2,by simp[bp,e1,e2],du.2 ⟨a1,a2⟩⟩
   ·cases h
  ·cases h
 |[],_::_,_,_,h,_=>by simp[AV.rens,bp]at h|_::_,[],_,_,h,_=>by simp[AV.rens,bp]at h
end
mutual
def z4l{hp:List (Nat×ag)}:∀{x y:AV},vn y=true->n9 [] (qem hp x) y->∃qs,vw true hp x y=some qs/\ar qs
 |.own k,y,hn,⟨ps,h1,h2⟩=>by
  simp only[qem]at h1;split at h1
  ·rename_i τ l E hl
   cases y with
   |undef=>exact⟨_,rfl,trivial⟩|sl τ' l'=>
    have:=qJ h1;subst this;exact⟨[AV.sl τ' l'=AV.sl τ l],by simp[vw,hl,qT],h2.1,trivial⟩
   |_=>exfalso;have:=qJ h1;subst this;exact absurd h2.1 (by simp[AV.ren])
  ·exact ia hn h1 h2
 |.agg xs,y,hn,⟨ps,h1,h2⟩=>by
  simp[qem,AV.ren]at h1
  cases y with
  |undef=>exact⟨_,rfl,trivial⟩|agg ys=>
   have h1':bp false [] (AV.rens (aw []) (qe hp xs)) ys=some ps:=h1;have hn':ju ys=true:=hn;obtain⟨qs,k1,k2⟩:=qr7 (xs:=xs) hn' ⟨ps,h1',h2⟩;exact⟨qs,k1,k2⟩
  |_=>exfalso;have:=qJ h1;subst this;exact absurd h2.1 oB
 |.undef,y,hn,⟨ps,h1,h2⟩=>ia (x := .undef) hn h1 h2|.int k n,y,hn,⟨ps,h1,h2⟩=>ia (x := .int k n) hn h1 h2|.byte c,y,hn,⟨ps,h1,h2⟩=>ia (x := .byte c) hn h1 h2|.bool c,y,hn,⟨ps,h1,h2⟩=>ia (x := .bool c) hn h1 h2|.str c,y,hn,⟨ps,h1,h2⟩=>ia (x := .str c) hn h1 h2|.sl τ l,y,hn,⟨ps,h1,h2⟩=>ia (x := .sl τ l) hn h1 h2|.arr τ l,y,hn,⟨ps,h1,h2⟩=>ia (x := .arr τ l) hn h1 h2|.rop c,y,hn,⟨ps,h1,h2⟩=>ia (x := .rop c) hn h1 h2|.val c,y,hn,⟨ps,h1,h2⟩=>ia (x := .val c) hn h1 h2|.tup c,y,hn,⟨ps,h1,h2⟩=>ia (x := .tup c) hn h1 h2|.ptr b o,y,hn,⟨ps,h1,h2⟩=>ia (x := .ptr b o) hn h1 h2|.oel k z i o,y,hn,⟨ps,h1,h2⟩=>ia (x := .oel k z i o) hn h1 h2|.osl k z l,y,hn,⟨ps,h1,h2⟩=>ia (x := .osl k z l) hn h1 h2|.asl k n c,y,hn,⟨ps,h1,h2⟩=>ia (x := .asl k n c) hn h1 h2|.yld n,y,hn,⟨ps,h1,h2⟩=>ia (x := .yld n) hn h1 h2|.pn n,y,hn,⟨ps,h1,h2⟩=>ia (x := .pn n) hn h1 h2|.fn f a c,y,hn,⟨ps,h1,h2⟩=>ia (x := .fn f a c) hn h1 h2|.iface t x,y,hn,⟨ps,h1,h2⟩=>ia (x := .iface t x) hn h1 h2
def qr7{hp:List (Nat×ag)}:∀{xs ys:List AV},ju ys=true->qaw [] (qe hp xs) ys->∃qs,bp true hp xs ys=some qs/\ar qs
 |[],[],_,_=>⟨[],rfl,trivial⟩|x::xs,y::ys,hn,⟨ps,h,hp⟩=>by
  simp[ju,qA]at hn;simp[qe,AV.rens,bp]at h;split at h
  ·rename_i p1 h1;split at h
   ·rename_i p2 h2;have:=qJ h;subst this;obtain⟨q1,e1,a1⟩:=z4l hn.1 ⟨_,h1,(du.1 hp).1⟩;obtain⟨q2,e2,a2⟩:=qr7 hn.2 ⟨_,h2,(du.1 hp).2⟩;exact⟨q1++q2,by simp[bp,e1,e2],du.2 ⟨a1,a2⟩⟩
   ·cases h
  ·cases h
 |[],_::_,_,⟨_,h,_⟩=>by simp[qe,AV.rens,bp]at h|_::_,[],_,⟨_,h,_⟩=>by simp[qe,AV.rens,bp]at h
end
def Ty.noRef:Ty->Bool|.list _=>false|.tree _=>false|.prod a b=>a.noRef&&b.noRef|_=>true
def zi8:∀{xs ys:List AV},ii xs=true->ii ys=true->ii (xs++ys)=true
 |[],_,_,h=>h|x::xs,ys,h,k=>by
  simp[ii,qA,wK]at h ⊢;exact⟨h.1,zi8 h.2 k⟩
def q3y:∀{τ:Ty},τ.noRef=true->∀{d:τ.den},ii (τ.enc d)=true
 |.int _,_,_=>rfl|.byte,_,_=>rfl|.bool,_,_=>rfl|.str,_,_=>rfl|.unit,_,_=>rfl|.prod a b,h,_=>by
  simp[Ty.noRef,qA]at h;exact zi8 (q3y h.1) (q3y h.2)
def qro:List (Nat×be)->Bool|[]=>true|(_,.row τ _)::r=>τ.noRef&&qro r|_::_=>false
def zky:∀{l:List (Nat×be)},qro l=true->∀{d:fq l},ar (lr (bj l d))
 |[],_,_=>trivial|(n,.row τ E)::r,h,d=>by
  simp[qro,qA]at h;exact⟨fun x _=>q3y h.1,zky h.2 (d:=d.2)⟩
 |(_,.cells _ _)::_,h,_=>by cases h
 |(_,.loop _ _ _ _ _ _ _ _)::_,h,_=>by cases h
 |(_,.dfr)::_,h,_=>by cases h
 |(_,.it)::_,h,_=>by cases h
 |(_,.dat _ _)::_,h,_=>by cases h
 |(_,.dead)::_,h,_=>by cases h
mutual
def zjx:Pt->Bool|.h τ=>τ.noRef|.agg ps=>qrb ps|.tup ps=>qrb ps|.fn _ ps=>qrb ps|_=>true
def qrb:List Pt->Bool|[]=>true|p::ps=>zjx p&&qrb ps
end
def RS.rows:{α:Type}->RS α->Bool|_,.one p hp _ _ _=>zjx p&&qro hp|_,.two l r=>l.rows&&r.rows
def RS.rows_ok:∀{α:Type}{r:RS α},r.rows=true->∀{x:α},ar (lr (r.res x).2)
 |_,.one _ hp _ _ _,h,_=>zky (l:=hp) (by simp[RS.rows,qA]at h;exact h.2)|_,.two l r,h,.inl a=>by
  simp[RS.rows,qA]at h;exact RS.rows_ok (r:=l) h.1 (x:=a)
 |_,.two l r,h,.inr b=>by
  simp[RS.rows,qA]at h;exact RS.rows_ok (r:=r) h.2 (x:=b)
def qqw(s:St)(τ:Ty):AV->Option (List τ.den)
 |.sl τ' l=>match Ty.eq? τ' τ with|some ⟨h⟩=>some (h▸l)|none=>none
 |.str b=>match Ty.eq? .byte τ with|some ⟨h⟩=>some (h▸(b:List Ty.byte.den))|none=>none
 |.own k=>match af s.hp k with
  |some (.row τ' l _)=>match Ty.eq? τ' τ with|some ⟨h⟩=>some (h▸l)|none=>none
  |_=>none
 |.asl b _ _=>match af s.hp b with|some (.cells cs _)=>qd8 τ cs|_=>none
 |.val (.slice none 0 0)=>some []|_=>none
def zij{s:St}{τ:Ty}{v:AV}{l:List τ.den}(h:qqw s τ v=some l){flat:List AV}{n:Nat}(hs:fm s v=some (flat,n)):flat=l.flatMap τ.enc/\n=l.length:=by
 unfold qqw at h;split at h
 ·split at h
  ·rename_i hh _;subst hh;have h:=qJ h;subst h;simp[fm,qI,qP]at hs;obtain⟨rfl,rfl⟩:=hs;exact⟨rfl,rfl⟩
  ·cases h
 ·split at h
  ·rename_i hh _;subst hh;have h:=qJ h;subst h;simp[fm,qI,qP]at hs;obtain⟨rfl,rfl⟩:=hs;exact⟨(qji _).symm,rfl⟩
  ·cases h
 ·split at h
  ·rename_i hl;split at h
   ·rename_i hh _;subst hh;have h:=qJ h;subst h;simp[fm,hl,qI,qP]at hs;obtain⟨rfl,rfl⟩:=hs;exact⟨rfl,rfl⟩
   ·cases h
  ·cases h
 ·rename_i b m c;split at h
  ·rename_i cs T hl;simp[fm,hl]at hs;cases hq:Nat.beq m c&&Nat.beq cs.length m&&allData (cs.map AV.sym)<;>rw[hq]at hs<;>simp at hs
   obtain⟨rfl,rfl⟩:=hs;simp at hq;have e1:=q1s h;have e2:cs.length=l.length:=by have:=congrArg List.length e1;simpa using this
   refine⟨?_,oA⟩
   rw[e1];have hd:∀x∈l.map τ.av,vf x=true:=by
    intro x hx;rw[← e1]at hx;have:∀{xs:List AV},allData xs=true->∀x∈xs,vf x=true:=by
     intro xs
     induction xs with
     |nil=>intro _ x hx;cases hx
     |cons y ys ih=>
      intro hy x hx;simp[allData,qA]at hy;rcases List.mem_cons.1 hx with q|q
      ·rw[q];exact hy.1
      ·exact ih hy.2 x q
    exact this hq.2 x hx
   clear e1 e2 hq h
   induction l with
   |nil=>rfl|cons y l ih=>
    rw[List.map_cons,List.flatMap_cons,ih (fun x hx=>hd x (by rw[List.map_cons];exact qE _ hx))]
    have hy:=hd (τ.av y) (by rw[List.map_cons];exact qH)
    have:τ.enc y=[τ.av y]:=by cases τ<;>first|rfl|(simp[Ty.av,vf]at hy)
    rw[this];rfl
  ·cases h
 ·have h:=qJ h;subst h;simp[fm,qI,qP]at hs;obtain⟨rfl,rfl⟩:=hs;exact⟨rfl,rfl⟩
 ·cases h
def qpt(τ:Ty):Nat->List AV->Option (List τ.den)
 |0,[]=>some []|n+1,cs=>match τ.dec cs with
  |some (d,r)=>match qpt τ n r with|some ds=>some (d::ds)|none=>none
  |none=>none
 |_,_=>none
def zfy{τ:Ty}:∀{n:Nat}{cs:List AV}{l:List τ.den},qpt τ n cs=some l->fp cs (l.flatMap τ.enc)/\l.length=n
 |0,[],l,h=>by have h:=qJ h;subst h;exact⟨⟨fun _=>rfl,[],rfl,trivial⟩,rfl⟩
 |0,_::_,l,h=>by cases h
 |n+1,cs,l,h=>by
  simp[qpt]at h;split at h
  ·rename_i d r hd;split at h
   ·rename_i ds hds;have h:=qJ h;subst h;obtain⟨ab,rfl,hs⟩:=ux hd;obtain⟨h1,h2⟩:=zfy hds;exact⟨hs.append h1,by simp[h2]⟩
   ·cases h
  ·cases h
structure Tb:Type 1 where
 ents:List ck
 ety:List (Nat×Ty)
 sub:Bool
def qj8:NM->Bool|[]=>true|_=>false
def q3s:List (Nat×be)->Bool|[]=>true|_=>false
def sh(f:FuncId):pg->Bool|.fn f'=>Nat.beq f' f|_=>false
def qph(s:St)(f:FuncId)(xs:List AV)(e:ck):Option Rq:=
 bif sh f e.key&&q3s e.hp&&(!(se xs)||e.out.rows) then
  match Pts.get e.args (qe s.hp xs) [] with
  |some (d,nm)=>match rr s.hp e.hp nm with
   |some (d',nm')=>bif qj8 nm' then some (.bnd (e.F d d') (e.out.sp fun r hp' => .res (se xs) (Pts.put e.args d) r hp')) else none
   |none=>none
  |none=>none
 else none
def order(nm:NM):List (Nat×be)->NM
 |[]=>[]|(n,_)::r=>match ay nm n with|some m=>(n,m)::order nm r|none=>order nm r
def qj3(s:St)(ys:List AV)(nm0:NM)(e:ck):Option Rq:=
 match Pts.get e.args ys nm0 with
 |some (d,nm)=>match rr s.hp e.hp nm with
  |some (d',nm')=>bif dr (order nm' e.hp)&&ul nm' e.hp then
    some (.bnd (e.F d d') (e.out.sp fun r hp' => .mem (order nm' e.hp) (Pts.put e.args d) (bj e.hp d') r hp')) else none
  |none=>none
 |none=>none
def qi3(s:St)(f:FuncId)(ys:List AV)(e:ck):Option Rq:=bif sh f e.key then qj3 s ys [] e else none
def zqb(s:St)(m:Nat)(ys:List AV)(e:ck):Option Rq:=match e.key with|.yld m'=>qj3 s ys [(m',m)] e|_=>none
def xv(g:ck->Option Rq):List ck->Option Rq
 |[]=>none|e::es=>match g e with|some q=>some q|none=>xv g es
def qiu(P:Program)(tb:Tb)(s:St)(t:TypeId)(x y:AV):Option Rq:=
 match x with
 |.own k=>match af s.hp k with
  |some (.row τ l E)=>match qqw s τ y with|some m=>some (.ifb (decide ((l++m).length<=aq)) (.row (.row τ (l++m) E)))|none=>none
  |_=>none
 |_=>match P.underlying t with
  |some (.slice E)=>match af tb.ety E with
   |some τ=>match qqw s τ y with|some m=>some (.ifb (decide (m.length<=aq)) (.row (.row τ m E)))|none=>none
   |none=>none
  |_=>none
def zln(P:Program)(tb:Tb)(s:St)(t:TypeId)(len:Nat)(parts:List (Nat×Operand)):Option Rq:=
 match P.underlying t with
 |some (.slice E)=>match af tb.ety E,eg P E,pp s parts with
  |none,_,_=>some (.tot (.b true))|some τ,some sz,some ps=>match uj (fun i=>some (i*sz,sz)) (qky (len*sz)) ps with
   |some cs=>match qpt τ len cs with|some l=>some (.tot (.row (.row τ l E)))|none=>none
   |none=>none
  |_,_,_=>none
 |_=>none
def zlv(s:St)(k i off:Nat)(v:AV):Option Rq:=match af s.hp k with
 |some (.row τ l E)=>bif Nat.ble (off+v.cells.length) τ.sz then
   some (.bnd l[i]? (.one fun x=>match τ.dec (fl (τ.enc x) off v.cells) with
    |some (y,[]) => .put (((τ.enc y).drop off).take v.cells.length) (.row τ (l.set i y) E)| _ => .none))
  else none
 |_=>none
def pq(P:Program)(tb:Tb)(s:St)(op:Op):Option Rq:=
 match op with
 |.alloc _=>some (.tot .none)|.box _ _=>some (.tot .none)|.buildSlice t len parts=>zln P tb s t len parts.toList|.convert _ _ x=>match s.ev x with|some (.str b)=>some (.ifb (decide (b.length<=maxLen)) .none)|_=>none
 |.store _ x y=>match s.ev x with
  |some (.ptr _ _)=>some (.tot .none)|some (.oel k _ i off)=>match s.ev y with|some v=>zlv s k i off v|none=>none
  |_=>none
 |.call { callee := .builtin .append,args,argTypes }=>match args.toList,argTypes.toList with
  |[x,y],[t,_]=>match s.ev x,s.ev y with|some a,some b=>qiu P tb s t a b|_,_=>none
  |_,_=>none
 |.call { callee := .value g,args,argTypes:=_ }=>match s.ev g,s.evs args.toList with
  |some (.fn (.func f) [] cap),some xs=>match xv (qph s f (xs++cap)) tb.ents with|some q=>some q|none=>xv (qi3 s f (xs++cap)) tb.ents
  |some (.yld m),some ys=>xv (zqb s m ys) tb.ents|_,_=>none
 |_=>none
def vh(P:Program):Op->Bool
 |.alloc _=>false|.box _ _=>false|.buildSlice _ _ _=>false|.store _ _ _=>false|.convert _ dst _=>match P.underlying dst with|some (.slice _)=>false|_=>true
 |.call { callee := .builtin .append,args:=_,argTypes:=_ }=>false|.call { callee := .value _,args:=_,argTypes:=_ }=>false|_=>true
def uq(P:Program)(tb:Tb)(s:St)(op:Op):Option Rq:=bif vh P op then pu P s op else pq P tb s op
mutual
def zx1{hp:List (Nat×ag)}:∀{x:AV},zha x=false->qem hp x=x
 |.agg xs,h=>by simp[qem];rw[q29 (xs:=xs) h]|.own k,h=>by cases h
 |.undef,_=>rfl|.int _ _,_=>rfl|.byte _,_=>rfl|.bool _,_=>rfl|.str _,_=>rfl|.sl _ _,_=>rfl|.arr _ _,_=>rfl|.rop _,_=>rfl|.val _,_=>rfl|.tup _,_=>rfl|.ptr _ _,_=>rfl|.oel _ _ _ _,_=>rfl|.osl _ _ _,_=>rfl|.asl _ _ _,_=>rfl|.yld _,_=>rfl|.pn _,_=>rfl|.fn _ _ _,_=>rfl|.iface _ _,_=>rfl
def q29{hp:List (Nat×ag)}:∀{xs:List AV},se xs=false->qe hp xs=xs
 |[],_=>rfl|x::xs,h=>by
  simp[se,Bool.or_eq_false_iff]at h;simp[qe,q29 h.2,zx1 h.1]
end
def zi2{nm:NM}(h:qj8 nm=true):nm=[]:=by cases nm with|nil=>rfl|cons _ _=>cases h
def ztw:∀{l:List (Nat×be)}{d:fq l},q3s l=true->bj l d=[]|[],_,_=>rfl|_::_,_,h=>by cases h
def q25{f:FuncId}{k:pg}(h:sh f k=true):k = .fn f:=by
 cases k with
 |fn f'=>rw[qN (show Nat.beq f' f=true from h)]|yld _=>cases h
 |ext _=>cases h
 |thr _ _=>cases h
def xw{g:ck->Option Rq}:∀{es:List ck}{q:Rq},xv g es=some q->∃e∈es,g e=some q
 |[],_,h=>by cases h
 |e::es,q,h=>by
  simp[xv]at h;split at h
  ·rename_i q' hq;have h:=qJ h;subst h;exact⟨e,qH,hq⟩
  ·obtain⟨e',h1,h2⟩:=xw h;exact⟨e',qE _ h1,h2⟩
def ze9{P:Program}{s:St}{f:FuncId}{xs:List AV}{e:ck}{q:Rq}{d:D}(he:e.Sound P)(h:qph s f xs e=some q)(ho:q.Out d) :
  ∃b ys r hp' ps,d = .res b ys r hp'/\bp b s.hp xs ys=some ps/\ar ps/\ki P f/\ce P f ys [] r hp'/\(b=true->ar (lr hp')):=by
 unfold qph at h;cases hk:sh f e.key&&q3s e.hp&&(!(se xs)||e.out.rows)<;>rw[hk]at h<;>simp at h
 simp at hk;obtain⟨⟨hk1,hk2⟩,hk3⟩:=hk;split at h
 ·rename_i x nm hg;split at h
  ·rename_i x' nm' hg';cases hn:qj8 nm'<;>rw[hn]at h<;>simp at h
   subst h;have hn:=zi2 hn;subst hn;obtain⟨y,hy,hd⟩:=ho;have hd:=RS.sp_out hd;have hs:=he x x' y hy;rw[q25 hk1]at hs;simp only at hs;rw[ztw hk2]at hs;have hseen:=(Pts.get_seen hg).2 [] rfl (fun n m hh=>by have:=(qa0 hg').1 n m hh;cases this)
   have key:∃ps,bp (se xs) s.hp xs (Pts.put e.args x)=some ps/\ar ps:=by
    cases hb:se xs
    ·rw[q29 hb]at hseen;obtain⟨ps,h1,h2⟩:=hseen;exact qe4 qbi h1 h2
    ·exact qr7 qbi hseen
   obtain⟨ps,k1,k2⟩:=key;refine⟨se xs,Pts.put e.args x,_,_,ps,hd,k1,k2,hs.1,hs.2,fun hb => ?_⟩
   rw[hb]at hk3;exact RS.rows_ok (by simpa using hk3)
  ·cases h
 ·cases h
def q37{nm:NM}:∀{l:List (Nat×be)}{n m:Nat},ay nm n=some m->(∃e∈l,e.1=n)->ay (order nm l) n=some m
 |[],n,m,_,⟨e,he,_⟩=>by cases he
 |(k,p)::r,n,m,h,⟨e,he,hn⟩=>by
  simp[order];cases hq:Nat.beq k n
  ·have hr:∃e∈r,e.1=n:=by
    rcases List.mem_cons.1 he with rfl|he
    ·simp only at hn;subst hn;simp at hq
    ·exact⟨e,he,hn⟩
   split
   ·simp[ay,hq,qF];exact q37 h hr
   ·exact q37 h hr
  ·have:=qN hq;subst this;rw[h];simp[ay]
def zeo{hp:List (Nat×ag)}{N M:NM}(hN:dr N=true):∀{l:List (Nat×be)}{nm nm':NM}{d:fq l},rr hp l nm=some (d,nm')->c8 nm' M->c8 nm' N->∀{hpv:List (Nat×ag)}{ps:List Prop},
  gy (aw N) hp (order M l)=some hpv->jj hpv (bj l d)=some ps->ar ps
 |[],nm,nm',d,h,_,_,hpv,ps,hv,hw=>by
  simp[order,gy,qI]at hv;subst hv;have:=qJ (show some []=some ps from hw);subst this;trivial
 |(j,p)::r,nm,nm',d,h,hM,hS,hpv,ps,hv,hw=>by
  have h:(match ay nm j with
   |some old=>match af hp old with
    |some b=>match p.get b nm with
     |some (d,nm')=>match rr hp r nm' with|some (ds,nm'')=>some ((d,ds),nm'')|none=>none
     |none=>none
    |none=>none
   | none=>none)=some (d,nm'):=h
  split at h
  ·rename_i old ho;split at h
   ·rename_i b hb;split at h
    ·rename_i d1 nm1 h1;split at h
     ·rename_i d2 nm2 h2;simp at h;obtain⟨rfl,rfl⟩:=h;obtain⟨a1,a2⟩:=be.get_seen h1;obtain⟨b1,_⟩:=qa0 h2;have hj:ay M j=some old:=hM _ _ (b1 _ _ (a1 _ _ ho));simp[order,hj,gy,hb]at hv;split at hv
      ·rename_i b' l' e1 e2;simp at e1 hv;subst e1 hv;have hw:(bif Nat.beq j j then(match y6 (d7 (aw N) b) (p.put d1),jj l' (bj r d2) with
        |some ps,some qs=>some (ps++qs)| _,_=>none) else none)=some ps:=hw
       rw[show Nat.beq j j=true by simp]at hw
       simp at hw;split at hw
       ·rename_i p1 p2 w1 w2;have:=qJ hw;subst this;obtain⟨p1',s1,s2⟩:=a2 N hN (b1.trans hS);rw[w1]at s1;have:=qJ s1;subst this;exact du.2 ⟨s2,zeo hN h2 hM hS e2 w2⟩
       ·cases hw
      ·cases hv
     ·cases h
    ·cases h
   ·cases h
  ·cases h
def qj4{s:St}{ys:List AV}{nm0:NM}{e:ck}{q:Rq}{d:D}(h:qj3 s ys nm0 e=some q)(ho:q.Out d) :
  ∃N x x' y,e.F x x'=some y/\d = .mem N (Pts.put e.args x) (bj e.hp x') (e.out.res y).1 (e.out.res y).2/\dr N=true/\c8 nm0 N /\
   (∀ps,bp false [] (AV.rens (aw N) ys) (Pts.put e.args x)=some ps->ar ps)/\∀hpv ps,gy (aw N) s.hp N=some hpv->jj hpv (bj e.hp x')=some ps->ar ps:=by
 unfold qj3 at h;split at h
 ·rename_i x nm hg;split at h
  ·rename_i x' nm' hg';cases hk:dr (order nm' e.hp)&&ul nm' e.hp<;>rw[hk]at h<;>simp at h
   subst h;simp at hk;obtain⟨y,hy,hd⟩:=ho;have hsub:c8 nm' (order nm' e.hp):=fun n m hh=>q37 hh (q0c hk.2 n m hh)
   obtain⟨g1,g2⟩:=Pts.get_seen hg;obtain⟨g1',_⟩:=qa0 hg';refine⟨order nm' e.hp,x,x',y,hy,RS.sp_out hd,hk.1,g1.trans (g1'.trans hsub),fun ps hv => ?_,fun hpv ps hv hw=>zeo hk.1 hg' (c8.refl _) hsub hv hw⟩
   obtain⟨ps',h1,h2⟩:=g2 _ hk.1 (g1'.trans hsub);rw[hv]at h1;have:=qJ h1;subst this;exact h2
  ·cases h
 ·cases h
def ziq{s s':St}{q:Prop}{ys xs:List AV}{names:List (Nat×Nat)}{hp hp':List (Nat×ag)}{r:AV}{t:Nat}{ps:List Prop}(h:qi s q ys names xs hp r hp' t=some (ps,s'))(hq:q)
  (h1:∀ps,bp false [] (AV.rens (aw names) ys) xs=some ps->ar ps) (h2:∀hpv ps,gy (aw names) s.hp names=some hpv->jj hpv hp=some ps->ar ps):ar ps:=by
 unfold qi at h;cases hb:dr names&&og names&&az (s.nx+32*t) s.hp&&Nat.blt t s.n<;>rw[hb]at h<;>simp at h
 split at h
 ·rename_i hpv ps1 e1 e2;split at h
  ·rename_i ps2 e3;simp at h;obtain⟨rfl,_⟩:=h;exact⟨hq,du.2 ⟨h1 _ e2,h2 _ _ e1 e3⟩⟩
  ·cases h
 ·cases h
def zhu{P:Program}{s:St}{d:D}{op:Op}(h:vh P op=false):di P s d op=none:=by
 unfold vh at h;split at h<;>first
  |rfl
  |cases h
  | (split at h
     ·rename_i src dst x _ E hE;simp[di,hE];have hc:∀v,rl P dst v=none:=fun v=>by
       unfold rl;rw[hE]
      have hc':∀v,xe P dst v=none:=fun v=>by
       unfold xe;split
       ·rw[hc]
       ·rw[hc]
      cases P.underlying src<;>cases s.ev x<;>simp[hc']
     ·cases h)
def zht{P:Program}{s:St}{d:D}{o:Oper}(h:vh P o.op=true):ja P s d o=none:=by
 obtain⟨dst,op,ty,pos,after,guard⟩:=o;simp only at h
 cases hA:ja P s d ⟨dst,op,ty,pos,after,guard⟩ with
 |none=>rfl|some R=>
  exfalso;unfold ja at hA;split at hA
  ·rename_i e _;simp only at e;subst e;cases h
  ·rename_i e _;simp only at e;subst e;cases h
  ·rename_i e _;simp only at e;subst e;cases h
  ·rename_i e _;simp only at e;subst e;cases h
  ·rename_i e _;simp only at e;subst e;cases h
  ·rename_i e _;simp only at e;subst e;split at hA
   ·rename_i e2 _;simp only[vh,e2]at h;cases h
   ·cases hA
  ·cases hA
def zxk{P:Program}{s:St}{d:D}{o:Oper}(h:vh P o.op=true):po P s d o=none:=by
 obtain⟨dst,op,ty,pos,after,guard⟩:=o;simp only at h
 cases hA:po P s d ⟨dst,op,ty,pos,after,guard⟩ with
 |none=>rfl|some R=>
  exfalso;unfold po at hA;split at hA
  ·rename_i e;simp only at e;subst e;cases h
  ·rename_i e;simp only at e;subst e;cases h
  ·rename_i e;simp only at e;subst e;cases h
  ·cases hA
def zso{P:Program}{tb:Tb}{s:St}{t t2:TypeId}{y:AV}{q:Rq}{d:D}{ps:List Prop}{b:ag}(h:qiu P tb s t (.val (.slice none 0 0)) y=some q)(ho:q.Out d)(ha:oa P s d t t2 [] 0 y=some (ps,b)):ar ps:=by
 unfold qiu at h;simp only at h;unfold oa at ha;split at h
 ·rename_i E hE;split at h
  ·rename_i τ hτ;split at h
   ·rename_i m hm;have h:=qJ h;subst h;obtain⟨h1,rfl⟩:=ho;simp only[hE]at ha;split at ha
    ·rename_i sz flat n e1 e2;obtain⟨k1,k2⟩:=zij hm e2;cases hq:Nat.beq τ.sz sz&&Nat.beq E E&&mr P E&&qbk P t2<;>rw[hq]at ha<;>simp only[qT,qF,reduceCtorEq,qI,qP]at ha
     obtain⟨rfl,_⟩:=ha;exact⟨by rw[k1];rfl,oA,of_decide_eq_true h1,trivial⟩
    ·cases ha
   ·cases h
  ·cases h
 ·cases h
def zsp{P:Program}{tb:Tb}{s:St}{t t2:TypeId}{k:Nat}{τ0:Ty}{l0:List τ0.den}{E0:TypeId}{y:AV}{q:Rq}{d:D}{ps:List Prop}{b:ag}(hk:af s.hp k=some (.row τ0 l0 E0))(h:qiu P tb s t (.own k) y=some q)(ho:q.Out d)(ha:oa P s d t t2 (l0.flatMap τ0.enc) l0.length y=some (ps,b)):ar ps:=by
 unfold qiu at h;simp only[hk]at h;unfold oa at ha;split at h
 ·rename_i m hm;have h:=qJ h;subst h;obtain⟨h1,rfl⟩:=ho;split at ha
  ·rename_i E _ _ _ e0 ed;simp only[D.row.injEq,ag.row.injEq]at ed;obtain⟨rfl,ed,rfl⟩:=ed;have ed:=eq_of_heq ed;subst ed;split at ha
   ·rename_i sz flat n e1 e2;obtain⟨k1,k2⟩:=zij hm e2;cases hq:Nat.beq τ0.sz sz&&Nat.beq E E0&&mr P E&&qbk P t2<;>rw[hq]at ha<;>simp only[qT,qF,reduceCtorEq,qI,qP]at ha
    obtain⟨rfl,_⟩:=ha;exact⟨by rw[k1,List.flatMap_append],by rw[k2,qM],of_decide_eq_true h1,trivial⟩
   ·cases ha
  ·cases ha
 ·cases h
def zd9{P:Program}{tb:Tb}{s:St}{o:Oper}{q:Rq}{d:D}{ps:List Prop}{v:AV}{new:List (Nat×ag)}(hT:∀e∈tb.ents,e.Sound P)(hv:vh P o.op=false)(h:pq P tb s o.op=some q)(ho:q.Out d)(ha:ja P s d o=some (ps,v,new)):ar ps:=by
 obtain⟨dst,op,ty,pos,after,guard⟩:=o;simp only at h hv;have cnd:∀{b:Bool}{x:AV}{y:List (Nat×ag)}{ps0 ps:List Prop}{v:AV}{new:List (Nat×ag)},(bif b then some (ps0,x,y) else none)=some (ps,v,new)->ar ps0->ar ps:=fun{b} _ _ _ _ _ _ e k=>by
  cases b
  ·cases e
  ·simp at e;obtain⟨rfl,_⟩:=e;exact k
 unfold ja at ha;split at ha
 ·split at ha
  ·exact cnd ha trivial
  ·cases ha
 ·split at ha
  ·exact cnd ha trivial
  ·cases ha
 ·rename_i g args ats t e _;simp only at e;subst e;split at ha
  ·rename_i f cap xs b xs' r hp' e1 e2;split at ha
   ·rename_i ps1 hps;refine cnd ha ?_;simp[pq,e1,e2]at h;have key:∀e∈tb.ents,qph s f (xs++cap) e=some q->ar (ki P f::ce P f xs' [] r hp'::(ps1++(bif b then lr hp' else[]))):=fun e he hc=>by
     obtain⟨b1,ys,r1,hp1,ps2,k1,k2,k3,k4,k5,k6⟩:=ze9 (hT e he) hc ho;simp at k1;obtain⟨rfl,rfl,rfl,rfl⟩:=k1;rw[hps]at k2;have:=qJ k2;subst this;refine⟨k4,k5,du.2 ⟨k3,?_⟩⟩;cases b
     ·trivial
     ·exact k6 rfl
    split at h
    ·rename_i q' hq;have h:=qJ h;subst h;obtain⟨e,he,hc⟩:=xw hq;exact key e he hc
    ·exfalso;obtain⟨e,he,hc⟩:=xw h;unfold qi3 at hc;cases hk:sh f e.key<;>rw[hk]at hc<;>simp at hc
     obtain⟨N,x,x',y,_,k2,_⟩:=qj4 hc ho;cases k2
   ·cases ha
  ·cases ha
 ·rename_i args ats tt e _;simp only at e;subst e;split at ha
  ·rename_i x y t t2 e1 e2;split at ha
   ·rename_i v' e3 e4;split at ha
    ·rename_i ps1 b e5;refine cnd ha ?_;simp[pq,e1,e2,e3,e4]at h;exact zso h ho e5
    ·cases ha
   ·cases ha
  ·cases ha
 ·rename_i t len parts tt e _;simp only at e;subst e;split at ha
  ·rename_i ps1 b e1;refine cnd ha ?_;simp[pq]at h;unfold zln at h;unfold xd at e1;split at h
   ·rename_i E hE;split at h
    ·have h:=qJ h;subst h;have ho:d=_:=ho;subst ho;simp[hE]at e1
    ·rename_i τ sz ps2 i1 i2 i3;split at h
     ·rename_i cs hcs;split at h
      ·rename_i l hl;have h:=qJ h;subst h;have ho:d=_:=ho;subst ho;simp only[hE,i2,i3,hcs]at e1;cases hq:Nat.beq τ.sz sz&&Nat.beq E E&&mr P E&&Nat.ble (len*τ.sz) 16777216&&AV.ones cs<;>rw[hq]at e1<;>simp at e1
       obtain⟨⟨j1,ps3,j2,j3⟩,j4⟩:=zfy hl;rw[j2]at e1;simp at e1;obtain⟨rfl,_⟩:=e1;exact du.2 ⟨j3,j4,j1 _,trivial⟩
      ·cases h
     ·cases h
    ·cases h
   ·cases h
  ·split at ha
   ·exact cnd ha trivial
   ·cases ha
 ·rename_i src dst x tt e _;simp only at e;subst e;split at ha
  ·rename_i E b e1 e2 e3;split at ha
   ·refine cnd ha ?_;simp[pq,e3,qI]at h;subst h;exact⟨of_decide_eq_true ho.1,trivial⟩
   ·cases ha
  ·cases ha
 ·cases ha
def q44:∀(ys a b:List AV)(k:Nat),fl (a++b) (a.length+k) ys=a++fl b k ys
 |[],_,_,_=>rfl|y::ys,a,b,k=>by
  simp only[fl];rw[List.set_append_right _ _ oA,Nat.add_sub_cancel_left,Nat.add_assoc]
  exact q44 ys a (b.set k y) (k+1)
def zlr:∀(ys a b:List AV)(k:Nat),k+ys.length<=a.length->fl (a++b) k ys=fl a k ys++b
 |[],_,_,_,_=>rfl|y::ys,a,b,k,h=>by
  simp at h;simp[fl];rw[List.set_append_left _ _ oA]
  exact zlr ys (a.set k y) b (k+1) (by rw[List.length_set];omega)
def qev:∀(ys a:List AV)(k j:Nat),k+ys.length<=a.length->(fl a k ys)[j]? = if k<=j/\j<k+ys.length then ys[j-k]? else a[j]?
 |[],a,k,j,_=>by simp only[fl,qZ];rw[qW oA]|y::ys,a,k,j,h=>by
  simp at h;simp only[fl];rw[qev ys (a.set k y) (k+1) j (by rw[List.length_set];omega)]
  simp only[qL];by_cases h1:k+1<=j/\j<k+1+ys.length
  ·rw[qX h1,qX,show j-k=(j-(k+1))+1 by omega];simp
  ·rw[qW h1];by_cases h2:j=k
   ·subst h2;rw[qX];simp[show j<a.length by omega]
   ·rw[qW oA,List.getElem?_set_ne oA]
def zls{τ:Ty}{y:τ.den}{ys:List AV}{off:Nat}:∀{l:List τ.den}{i:Nat}{x:τ.den},l[i]? = some x->off+ys.length<=τ.sz->τ.enc y=fl (τ.enc x) off ys->(l.set i y).flatMap τ.enc=fl (l.flatMap τ.enc) (i*τ.sz+off) ys
 |[],_,_,h,_,_=>by simp at h|z::l,0,x,h,ho,he=>by
  simp at h;subst h;simp;rw[zlr _ _ _ _ (by rw[τ.enc_length];exact ho),he]
 |z::l,i+1,x,h,ho,he=>by
  simp at h;simp;rw[show(i+1)*τ.sz+off=(τ.enc z).length+(i*τ.sz+off) by rw[τ.enc_length,Nat.succ_mul];omega,q44,zls h ho he]
def q5s{b:Bool}{hp:List (Nat×ag)}:∀{xs ys:List AV}{ps:List Prop},bp b hp xs ys=some ps->ar ps->∀(j:Nat)(x y:AV),xs[j]? = some x->ys[j]? = some y->∃qs,vw b hp x y=some qs/\ar qs
 |x::xs,y::ys,ps,h,hp,j,u,v,hu,hv=>by
  simp[bp]at h;split at h
  ·rename_i p1 h1;split at h
   ·rename_i p2 h2;have:=qJ h;subst this
    cases j with|zero=>simp at hu hv;subst hu hv;exact⟨p1,h1,(du.1 hp).1⟩|succ j=>exact q5s h2 (du.1 hp).2 j u v (by simpa using hu) (by simpa using hv)
   ·cases h
  ·cases h
 |[],[],_,_,_,j,_,_,hu,_=>by simp at hu|[],_::_,_,h,_,_,_,_,_,_=>by simp[bp]at h|_::_,[],_,h,_,_,_,_,_,_=>by simp[bp]at h
def zms{b:Bool}{hp:List (Nat×ag)}:∀{xs ys:List AV}{ps:List Prop},bp b hp xs ys=some ps->(∀(j:Nat)(x y:AV),xs[j]? = some x->ys[j]? = some y->∃qs,vw b hp x y=some qs/\ar qs)->ar ps
 |x::xs,y::ys,ps,h,hq=>by
  simp[bp]at h;split at h
  ·rename_i p1 h1;split at h
   ·rename_i p2 h2;have:=qJ h;subst this;obtain⟨q1,e1,a1⟩:=hq 0 x y rfl rfl;rw[h1]at e1;have:=qJ e1;subst this;exact du.2 ⟨a1,zms h2 fun j u v hu hv=>hq (j+1) u v (by simpa using hu) (by simpa using hv)⟩
   ·cases h
  ·cases h
 |[],[],_,h,_=>by simp[bp,qI]at h;subst h;trivial|[],_::_,_,h,_=>by simp[bp]at h|_::_,[],_,h,_=>by simp[bp]at h
def qja:∀{τ:Ty}{d:τ.den},∀x∈τ.enc d,vf x=true
 |.int _,_,x,h=>by simp[Ty.enc,List.mem_singleton]at h;subst h;rfl|.byte,_,x,h=>by simp[Ty.enc,List.mem_singleton]at h;subst h;rfl|.bool,_,x,h=>by simp[Ty.enc,List.mem_singleton]at h;subst h;rfl|.str,_,x,h=>by simp[Ty.enc,List.mem_singleton]at h;subst h;rfl|.unit,_,x,h=>by simp[Ty.enc]at h|.prod a b,d,x,h=>by
  rcases List.mem_append.1 h with h|h
  ·exact qja x h
  ·exact qja x h
 |.list _,_,x,h=>by simp[Ty.enc,List.mem_singleton]at h;subst h;rfl|.tree a,d,x,h=>by
  rcases List.mem_append.1 h with h|h
  ·exact qja x h
  ·simp at h;subst h;rfl
def z4k{x y:AV}(hx:vf x=true)(hy:vf y=true){qs:List Prop}(h:vw false [] x y=some qs)(hq:ar qs):y=x:=by
 cases x<;>first|cases hx|skip
 all_goals (cases y<;>first|cases hy|skip)
 all_goals (have:=qJ h;subst this;exact hq.1)
def zka{ρ:Nat->Option Nat}:∀{xs:List AV}{j:Nat},(AV.rens ρ xs)[j]? = (xs[j]?).map (AV.ren ρ)|[],j=>by simp[AV.rens]|x::xs,0=>by simp[AV.rens]|x::xs,j+1=>by simp[AV.rens,List.getElem?_cons_succ];exact zka
def z3b{τ:Ty}{l:List τ.den}{i off:Nat}{x y:τ.den}{c:List AV}{ps:List Prop}(ho:off+c.length<=τ.sz)(hx:l[i]? = some x)(hd:τ.dec (fl (τ.enc x) off c)=some (y,[]))
  (hv:bp false [] c (((τ.enc y).drop off).take c.length)=some ps) :
  ar (ps++[i*τ.sz+off+c.length<=l.length*τ.sz,(l.set i y).flatMap τ.enc=fl (l.flatMap τ.enc) (i*τ.sz+off) (((τ.enc y).drop off).take c.length),(l.set i y).length=l.length,AV.rens (fun _=>none) c=c]):=by
 obtain⟨ab,e1,hr,qs,hq1,hq2⟩:=ux hd;simp at e1;subst e1;have hle:off+c.length<=(τ.enc x).length:=by rw[τ.enc_length];exact ho
 have ac:(((τ.enc y).drop off).take c.length).length=c.length:=by simp[τ.enc_length];omega
 have hseg:∀(j:Nat)(z u:AV),c[j]? = some z->(((τ.enc y).drop off).take c.length)[j]? = some u->∃qs,vw false [] z u=some qs/\ar qs:=fun j z u h1 h2=>by
  have hj:j<c.length:=(List.getElem?_eq_some_iff.1 h1).1;refine q5s hq1 hq2 (off+j) z u ?_ ?_
  ·rw[qev _ _ _ _ hle,qX,Nat.add_sub_cancel_left];exact h1
  ·rw[List.getElem?_take,qX hj,List.getElem?_drop]at h2;exact h2
 have he:τ.enc y=fl (τ.enc x) off (((τ.enc y).drop off).take c.length):=by
  apply List.ext_getElem?;intro j;rw[qev _ _ _ _ (by rw[ac];exact hle),ac]
  by_cases hj:off<=j/\j<off+c.length
  ·rw[qX hj,List.getElem?_take,qX,List.getElem?_drop,show off+(j-off)=j by omega]
  ·rw[qW hj]
   cases hz:(τ.enc x)[j]? with
   |none=>
    have:=List.getElem?_eq_none_iff.1 hz;rw[τ.enc_length]at this;exact List.getElem?_eq_none_iff.2 (by rw[τ.enc_length];exact this)
   |some z=>
    have hjl:j<τ.sz:=by have:=(List.getElem?_eq_some_iff.1 hz).1;rwa [τ.enc_length]at this
    have hu:∃u,(τ.enc y)[j]? = some u:=⟨_,List.getElem?_eq_getElem (by rw[τ.enc_length];exact hjl)⟩
    obtain⟨u,hu⟩:=hu;obtain⟨q,q1,q2⟩:=q5s hq1 hq2 j z u (by rw[qev _ _ _ _ hle,qW hj];exact hz) hu
    rw[hu,z4k (qja z (List.mem_of_getElem? hz)) (qja u (List.mem_of_getElem? hu)) q1 q2]
 refine du.2 ⟨zms hv hseg,?_,zls hx (by rw[ac];exact ho) he,oB,?_,trivial⟩
 ·have hi:i<l.length:=(List.getElem?_eq_some_iff.1 hx).1;have:(i+1)*τ.sz<=l.length*τ.sz:=Nat.mul_le_mul_right _ hi;rw[Nat.succ_mul]at this;omega
 ·apply List.ext_getElem?;intro j;have h:=congrArg (fun l=>l[off+j]?) (hr (fun _=>none))
  simp[zka]at h ⊢;by_cases hj:j<c.length
  ·rw[qev _ _ _ _ hle,qX,Nat.add_sub_cancel_left]at h;exact h
  ·rw[List.getElem?_eq_none_iff.2 oA];rfl
def zsr{P:Program}{tb:Tb}{s:St}{o:Oper}{q:Rq}{d:D}{ps:List Prop}{s':St}(hT:∀e∈tb.ents,e.Sound P)(h:pq P tb s o.op=some q)(ho:q.Out d)(ha:po P s d o=some (ps,s')):ar ps:=by
 obtain⟨dst,op,ty,pos,after,guard⟩:=o;simp only at h;have cnd:∀{b:Bool}{x:St}{ps:List Prop}{s':St},(bif b then some (([]:List Prop),x) else none)=some (ps,s')->ar ps:=fun{b} _ _ _ e=>by
  cases b
  ·cases e
  ·simp at e;obtain⟨rfl,_⟩:=e;trivial
 unfold po at ha;split at ha
 ·rename_i t x y e;simp only at e;subst e;split at ha
  ·split at ha
   ·exact cnd ha
   ·cases ha
  ·rename_i k sz i off v n e1 e2 e3 _;split at ha
   ·rename_i τ0 l0 E0 ys τ l E e4;simp[pq,e1,e2,zlv,e4]at h;cases hbb:Nat.ble (off+v.cells.length) τ0.sz<;>rw[hbb]at h<;>simp at h
    subst h;obtain⟨x0,hx0,hd⟩:=ho;simp[Sp.Out]at hd;split at hd
    ·rename_i y0 hdec;simp at hd;obtain⟨rfl,rfl,hl,rfl⟩:=hd;have hl:=eq_of_heq hl;subst hl;cases hb:Nat.beq v.cells.length n&&AV.ones v.cells&&Nat.beq sz τ.sz&&Nat.beq τ.sz τ.sz&&Nat.beq E E<;>rw[hb]at ha<;>simp only[qT,qF,reduceCtorEq]at ha
     simp only[qA]at hb;obtain⟨⟨⟨⟨b1,_⟩,b3⟩,_⟩,_⟩:=hb;have b1:=qN b1;have b3:=qN b3;subst b1 b3;split at ha
     ·rename_i ps1 hvs;simp only[qI,qP]at ha;obtain⟨rfl,_⟩:=ha;exact z3b (Nat.le_of_ble_eq_true hbb) hx0 hdec hvs
     ·cases ha
    ·cases hd
   ·cases ha
  ·cases ha
 ·rename_i args ats e;simp only at e;subst e;split at ha
  ·rename_i x y t t2 tt e1 e2 _;split at ha
   ·rename_i k v e3 e4;split at ha
    ·rename_i τ0 l0 E0 e5;split at ha
     ·rename_i ps1 τ l E e6;simp[pq,e1,e2,e3,e4]at h;cases hb:az (s.nx+32*tt) s.hp&&Nat.beq τ.sz τ0.sz&&Nat.beq E E0&&Nat.blt tt s.n<;>rw[hb]at ha<;>simp at ha
      obtain⟨rfl,_⟩:=ha;exact zsp e5 h ho e6
     ·cases ha
    ·cases ha
   ·cases ha
  ·cases ha
 ·rename_i g args ats e;simp only at e;subst e;split at ha
  ·rename_i f cap ys names xs hp r hp' t e1 e2 e3;simp[pq,e1,e2]at h;split at h
   ·rename_i q' hq;have h:=qJ h;subst h;obtain⟨e,he,hc⟩:=xw hq;obtain⟨b1,ys1,r1,hp1,ps2,k1,_⟩:=ze9 (hT e he) hc ho;cases k1
   ·obtain⟨e,he,hc⟩:=xw h;unfold qi3 at hc;cases hk:sh f e.key<;>rw[hk]at hc<;>simp at hc
    obtain⟨N,x,x',y,k1,k2,k3,k4,k5,k6⟩:=qj4 hc ho;simp at k2;obtain⟨rfl,rfl,rfl,rfl,rfl⟩:=k2;have hs:=hT e he x x' y k1;rw[q25 hk]at hs;exact ziq ha hs k5 k6
  ·rename_i m ys names xs hp r hp' t e1 e2 e3;simp[pq,e1,e2]at h;obtain⟨e,he,hc⟩:=xw h;unfold zqb at hc;split at hc
   ·rename_i m' hm';obtain⟨N,x,x',y,k1,k2,k3,k4,k5,k6⟩:=qj4 hc ho;simp at k2;obtain⟨rfl,rfl,rfl,rfl,rfl⟩:=k2;have hs:=hT e he x x' y k1;rw[hm']at hs;have hr:aw names m=some m':=vq k3 (k4 _ _ (by simp[ay]))
    simp[hr]at ha;exact ziq ha hs k5 k6
   ·cases hc
  ·cases ha
 ·cases ha
def zec{P:Program}{tb:Tb}{s:St}{o:Oper}{q:Rq}{d:D}{ps:List Prop}{s':St}(hT:∀e∈tb.ents,e.Sound P)(h:uq P tb s o.op=some q)(ho:q.Out d)(ha:pm P s d o=some (ps,s')):ar ps:=by
 unfold uq at h;unfold pm at ha;cases hv:vh P o.op<;>rw[hv]at h<;>simp at h
 ·split at ha
  ·rename_i ps' v new e;unfold fj at e;rw[zhu hv]at e;split at ha
   ·simp at ha;obtain⟨rfl,_⟩:=ha;exact zd9 hT hv h ho e
   ·cases ha
  ·exact zsr hT h ho ha
 ·split at ha
  ·rename_i ps' v new e;unfold fj at e;split at e
   ·rename_i ps1 v1 e1;simp at e;obtain⟨rfl,rfl,rfl⟩:=e;split at ha
    ·simp at ha;obtain⟨rfl,_⟩:=ha;exact zea h ho e1
    ·cases ha
   ·rw[zht hv]at e;cases e
  ·rw[zxk hv]at ha;cases ha
def zeb{P:Program}{tb:Tb}{s:St}{o:Oper}{q:Rq}{d:D}{ps:List Prop}{v:AV}{new:List (Nat×ag)}(hT:∀e∈tb.ents,e.Sound P)(h:uq P tb s o.op=some q)(ho:q.Out d)(ha:fj P s d o=some (ps,v,new)):ar ps:=by
 unfold uq at h;unfold fj at ha;cases hv:vh P o.op<;>rw[hv]at h<;>simp at h
 ·rw[zhu hv]at ha;exact zd9 hT hv h ho ha
 ·split at ha
  ·rename_i ps1 v1 e1;simp at ha;obtain⟨rfl,rfl,rfl⟩:=ha;exact zea h ho e1
  ·rw[zht hv]at ha;cases ha
def q46(P:Program)(tb:Tb)(s:St)(o:Oper):Option (Bool×St):=
 bif tb.sub then
  match o.op with
  |.slice t x lo hi mx=>match s.ev x,o.dst,mx with
   |some (.own k),some tt,none=>match af s.hp k,P.underlying t with
    |some (.row τ l E),some (.slice E')=>match eg P E' with
     |some sz'=>bif Nat.beq τ.sz sz'&&Nat.blt tt s.n&&az (s.nx+32*tt) s.hp then
       (match jc s lo,jc s hi with
       |some (some a),some none=>some (decide (0<=a/\a.toNat<l.length),{ s with fr:=(tt,.osl k τ.sz a.toNat)::s.fr })|some none,some (some b)=>some (decide (0<=b/\b<=l.length),{ s with fr:=(tt,.own (s.nx+32*tt))::s.fr,hp:=(s.nx+32*tt,.row τ (l.take b.toNat) E)::(k,.dead)::s.hp })| _,_=>none)
      else none
     |none=>none
    |_,_=>none
   |_,_,_=>none
  |.call { callee := .builtin .clear,args,argTypes }=>match args.toList,argTypes.toList,o.dst with
   |[x],[t],none=>match s.ev x with
    |some (.osl k sz lo)=>match af s.hp k,P.underlying t with
     |some (.row τ l E),some (.slice E')=>match yx P E' with
      |some zs=>match τ.dec zs with|some (z,[])=>bif Nat.beq sz τ.sz&&Nat.blt 0 τ.sz&&AV.ones zs then some (true,{ s with hp:=(k,.row τ (l.take lo++List.replicate (l.length-lo) z) E)::s.hp }) else none|_=>none
      |none=>none
     |_,_=>none
    |_=>none
   |_,_,_=>none
  |_=>none
 else none
section
variable{P:Program}{vif:World}{vh8:Gh}{vic:List (Nat×ag)}{G:Gh}{s:St}{a:Act}{w:World}{tb:Tb}
def z2z:∀(ys b:List AV),ys.length=b.length->fl b 0 ys=ys:=fun ys b h=>by
 apply List.ext_getElem?;intro j;rw[qev _ _ _ _ oA]
 by_cases hj:0<=j/\j<0+ys.length
 ·rw[qX hj];rfl
 ·rw[qW hj,List.getElem?_eq_none_iff.2 oA,List.getElem?_eq_none_iff.2 oA]
def zgt{τ:Ty}{z:τ.den}:∀(n:Nat),(List.replicate n z).flatMap τ.enc=(List.replicate n (τ.enc z)).flatten|0=>rfl|n+1=>by simp[List.replicate_succ,zgt n]
def zko{xs:List AV}{vs:List Value}(h:ak xs G vs):∀(n:Nat),ak (List.replicate n xs).flatten G (List.replicate n vs).flatten|0=>trivial|n+1=>by simp[List.replicate_succ,List.flatten_cons];exact vp h (zko h n)
def qqc{β:Type}(l:List β):∀(n:Nat),(List.replicate n l).flatten.length=n*l.length|0=>by simp|n+1=>by rw[List.replicate_succ,List.flatten_cons,qM,qqc l n,Nat.succ_mul,Nat.add_comm]
def zgs{β:Type}(l:List β):∀(n i:Nat),i<n*l.length->(List.replicate n l).flatten[i]? = l[i%l.length]?
 |0,i,h=>by simp at h|n+1,i,h=>by
  rw[List.replicate_succ,List.flatten_cons];by_cases hi:i<l.length
  ·rw[List.getElem?_append_left hi,Nat.mod_eq_of_lt hi]
  ·have hh:i<n*l.length+l.length:=by rw[← Nat.succ_mul];exact h
   rw[List.getElem?_append_right oA,zgs l n (i-l.length) oA,← Nat.mod_eq_sub_mod oA]
def vh2(cs:Array Value)(n:Nat):(Builtin.zeroCells cs n).toList=(List.replicate n cs.toList).flatten:=by
 apply List.ext_getElem?;intro i;by_cases hi:i<n*cs.size
 ·rw[zgs _ n i (by simpa using hi)]
  have h0:0<cs.size:=by
   rcases Nat.eq_zero_or_pos cs.size with h|h;· rw[h]at hi;simp at hi
   ·exact h
  simp[Builtin.zeroCells,hi,Nat.mod_lt _ h0]
 ·rw[List.getElem?_eq_none_iff.2 (by simp[Builtin.zeroCells];omega),List.getElem?_eq_none_iff.2 (by rw[qqc];simp;omega)]
def z3j(hr:ai vif vh8 vic G s a w){o:Oper}{s':St}(h:q46 P tb s o=some (true,s')){N:Act->World->Prop}(hN:∀G' a' w',ai vif vh8 vic G' s' a' w'->N a' w'):fg P o a w N:=by
 obtain⟨dst,op,ty,pos,after,guard⟩:=o;unfold q46 at h;cases hsub:tb.sub<;>rw[hsub]at h<;>simp only[qT,qF,reduceCtorEq]at h
 split at h
 ·rename_i t x lo hi mx;split at h
  ·rename_i k tt hx;split at h
   ·rename_i τ l E E' hl hu;split at h
    ·rename_i sz' hsz;cases hb:Nat.beq τ.sz sz'&&Nat.blt tt s.n&&az (s.nx+32*tt) s.hp<;>rw[hb]at h<;>simp only[qT,qF,reduceCtorEq]at h
     simp only[qA,Nat.blt_eq]at hb;obtain⟨⟨b1,b2⟩,b3⟩:=hb;have b1:=qN b1;subst b1;obtain⟨ad,c,us,h1,h3,h4,h5⟩:=(hr.fin.mem.holds _ _ hl).rowAt;obtain⟨ad0,n0,c0,ho0,hxe⟩:=bi hr hx;rw[h1]at ho0;simp only[qI,qP]at ho0;obtain⟨rfl,rfl,rfl⟩:=ho0;have hc:l.length<=c:=by
      rcases h3.2 with⟨_,q,_⟩|⟨_,_,_,_,_,_,q,_⟩<;>omega
     split at h
     ·rename_i i0 hlo hhi;simp only[qI,qP,decide_eq_true_eq]at h;obtain⟨⟨g0,g1⟩,rfl⟩:=h;rcases p8 hr hlo with⟨_,e⟩|⟨xo,kx,mm,rfl,e,hxv⟩
      ·cases e
      injection e with e;subst e
      rcases p8 hr hhi with⟨rfl,_⟩|⟨_,_,_,_,e,_⟩
      rotate_left
      ·cases e
      have r1:(Instr.sliceBounds true l.length c ((some xo).map a.eval) (Option.map a.eval none) none).run P w = .ok (i0.toNat,l.length,c) w:=by
       simp[Instr.sliceBounds,hxv,qp (P:=P) (w:=w) g0 (show i0<=(l.length:Int) by omega)]
      have hne:l≠[]:=fun e=>by subst e;simp at g1
      rcases h3.2 with⟨_,q,_⟩|⟨g,vs,fz,rfl,k2,k3,k4,k5,k6,k7,k8⟩
      ·exact absurd (List.eq_nil_of_length_eq_zero q) hne
      ·have hrun:(execOp a.eval ⟨some tt,.slice t x (some xo) none none,ty,pos,after,guard⟩).run P w = .ok (.value (.slice (some ⟨g,i0.toNat*τ.sz,none⟩) (l.length-i0.toNat) (c-i0.toNat))) w:=by
        simp only[wQ,Option.map_none]at r1;simp[execOp,Instr.sliceAt,Instr.slice,bh hu,hxe,r1,gw hsz,show c≠i0.toNat by omega,l8]
       refine er oB ?_
       unfold Oper.wp;rw[hrun];exact hN _ _ _ (gm (v := .osl k τ.sz i0.toNat) hr (by have hb2:Nat.blt tt s.n=true:=(by simpa using b2);simp[St.add,hb2,qT,List.nil_append]) ⟨g,l.length,c,h1,g1,rfl⟩)
     ·rename_i i0 hlo hhi;simp at h;obtain⟨⟨g0,g1⟩,rfl⟩:=h;rcases p8 hr hhi with⟨_,e⟩|⟨xo,kx,mm,rfl,e,hxv⟩
      ·cases e
      injection e with e;subst e
      rcases p8 hr hlo with⟨rfl,_⟩|⟨_,_,_,_,e,_⟩
      rotate_left
      ·cases e
      have r1:(Instr.sliceBounds true l.length c (Option.map a.eval none) ((some xo).map a.eval) none).run P w = .ok (0,i0.toNat,c) w:=by
       simp[Instr.sliceBounds,hxv,qp (P:=P) (w:=w) g0 (show i0<=(c:Int) by omega)]
      have hlt:(l.take i0.toNat).length=i0.toNat:=by simp;omega
      have hrun:(execOp a.eval ⟨some tt,.slice t x none (some xo) none,ty,pos,after,guard⟩).run P w = .ok (.value (.slice ad i0.toNat c)) w:=by
       simp at r1
       have had:(if c=0 then ad else ad.map (·.add (0*τ.sz)))=ad:=by
        split
        ·rfl
        ·rcases h3.2 with⟨rfl,_,_⟩|⟨g,vs,fz,rfl,_⟩
         ·rfl
         ·simp[l8]
       simp[execOp,Instr.sliceAt,wQ,Option.map_none];simp[Instr.slice,bh hu,hxe,r1,gw hsz];simpa using had
      refine er oB ?_
      unfold Oper.wp;rw[hrun];have hk':=mi b3 (s.nx+32*tt) (wF _) oA
      obtain⟨f1,f2⟩:=hr.fresh _ oA hk'
      have hrow:gc w E τ.sz ad (l.take i0.toNat).length c (us.take (i0.toNat*τ.sz)):=by
       rw[hlt];have hm:i0.toNat*τ.sz<=l.length*τ.sz:=Nat.mul_le_mul_right _ oA
       refine⟨by rw[List.length_take,h3.1];omega,?_⟩
       rcases h3.2 with⟨q1,q2,q3⟩|⟨g,vs,fz,q1,q2,q3,q4,q5,q6,q7,q8⟩
       ·exact .inl ⟨q1,oA,q3⟩
       ·exact .inr ⟨g,vs,fz,q1,q2,q3,oA,q5,q6,by rw[← q7,List.take_take,Nat.min_eq_left hm],q8⟩
      have hreps:ak ((l.take i0.toNat).flatMap τ.enc) G.data (us.take (i0.toNat*τ.sz)):=by
       have:=qes (i0.toNat*τ.sz) h4;have e:(l.flatMap τ.enc).take (i0.toNat*τ.sz)=(l.take i0.toNat).flatMap τ.enc:=by
        have e1:l.flatMap τ.enc=(l.take i0.toNat).flatMap τ.enc++(l.drop i0.toNat).flatMap τ.enc:=by rw[← List.flatMap_append,List.take_append_drop]
        rw[e1,List.take_append_of_le_length (by rw[ng,hlt];exact wF _),List.take_of_length_le (by rw[ng,hlt];exact wF _)]
       rwa [e]at this
      have hfin:=hr.fin.take hl h1 hk' f2 h5 (w':=w) ⟨rfl,rfl,rfl,wF _,fun _ _ _=>rfl⟩ (.inl rfl) hrow hreps
      have hle:G.le (G.addOwn (s.nx+32*tt) (ad,(l.take i0.toNat).length,c)):=Gh.addOwn_le f2;refine hN _ _ _ ⟨by obtain⟨bs,q1,q2⟩:=hr.defers;exact⟨bs,q1,ry hle.box q2⟩,by simp[Act.put,hr.size],fun i z hz => ?_,fun m hm hlm => ?_,hfin⟩
      ·simp[af]at hz;cases hbq:Nat.beq tt i
       ·rw[hbq]at hz;simp at hz;have hne:tt≠i:=fun e=>by subst e;simp at hbq
        obtain⟨u,u1,u2⟩:=hr.frame i z hz;exact⟨u,by simp[Act.put,hne,u1],u2.le hle⟩
       ·rw[hbq]at hz;simp at hz;subst hz;have:=qN hbq;subst this;exact⟨_,by simp[Act.put,hr.size,b2],ad,i0.toNat,c,by rw[Gh.addOwn_self,hlt],rfl⟩
      ·simp[af]at hlm;cases hbq:Nat.beq (s.nx+32*tt) m
       ·rw[hbq]at hlm;simp at hlm;cases hbk:Nat.beq k m
        ·rw[hbk]at hlm;obtain⟨g1,g2⟩:=hr.fresh m hm hlm;refine⟨g1,?_⟩;show(bif Nat.beq m (s.nx+32*tt) then some _ else G.own m)=none
         cases hbm:Nat.beq m (s.nx+32*tt)
         ·exact g2
         ·have:=qN hbm;subst this;simp at hbq
        ·rw[hbk]at hlm;cases hlm
       ·rw[hbq]at hlm;cases hlm
     ·cases h
    ·cases h
   ·cases h
  ·cases h
 ·rename_i args ats;split at h
  ·rename_i x t ha hty;split at h
   ·rename_i k sz lo hx;split at h
    ·rename_i τ l E E' hl hu;split at h
     ·rename_i zs hzs;split at h
      ·rename_i z hdec;cases hb:Nat.beq sz τ.sz&&Nat.blt 0 τ.sz&&AV.ones zs<;>rw[hb]at h<;>simp at h
       subst h;simp only[qA]at hb;obtain⟨⟨b1,b2⟩,b3⟩:=hb;have b1:=qN b1;have b2:0<τ.sz:=by simpa using b2
       subst b1;have e1:args=#[x]:=by rw[← Array.toArray_toList (xs:=args),ha]
       have e2:ats=#[t]:=by rw[← Array.toArray_toList (xs:=ats),hty]
       subst e1 e2;obtain⟨g,n,c,o1,o2,hxe⟩:=bi hr hx;obtain⟨ad,c',q1,q2⟩:=hr.fin.mem.holds _ _ hl;rw[o1]at q1;simp at q1;obtain⟨rfl,rfl,rfl⟩:=q1;rcases q2 with⟨q,_⟩|⟨g',vs,fz,q,k2,k3,k4,k5,k6,k7,k8,k9⟩
       ·cases q
       ·simp at q;subst q;obtain⟨ab,e,hsd⟩:=ux hdec;simp at e;subst e;obtain⟨zv,hz1,hz2⟩:=qrq (P:=P) hzs w G.data;obtain⟨ps,hv1,hv2⟩:=hsd.2;have hz3:ak (τ.enc z) G.data zv.cells.toList:=ld (Gh.le.refl _) (fun e=>by cases e) hv1 hv2 hz2
        have hone:∀v∈zv.cells.toList,v.oneCell'=true:=o7 hz2 b3;have hzl:zv.cells.toList.length=τ.sz:=by rw[← hz3.length,τ.enc_length]
        have hzc:=vh2 zv.cells (l.length-lo);have hones:∀v∈(List.replicate (l.length-lo) zv.cells.toList).flatten,v.oneCell'=true:=fun v hv=>by
         obtain⟨ys,h1,h2⟩:=List.mem_flatten.1 hv;rw[List.eq_of_mem_replicate h1]at h2;exact hone v h2
        have hfrl:(List.replicate (l.length-lo) zv.cells.toList).flatten.length=(l.length-lo)*τ.sz:=by rw[qqc,hzl]
        have hmul:lo*τ.sz+(l.length-lo)*τ.sz=l.length*τ.sz:=by rw[← Nat.add_mul];congr 1;omega
        have hcl:l.length*τ.sz<=c*τ.sz:=Nat.mul_le_mul_right _ k4;obtain⟨w',cur',s1,s2,s3,s4⟩:=qeu (P:=P) g (lo*τ.sz) E fz (List.replicate (l.length-lo) zv.cells.toList).flatten 0 vs w k2 (by rw[hfrl];omega) k3 hones
        have hrun:(execOp a.eval ⟨none,.call { callee := .builtin .clear,args:=#[x],argTypes:=#[t] },ty,pos,after,guard⟩).run P w = .ok (.value (.tuple #[])) w':=by
         obtain⟨m,hm⟩:∃m,l.length-lo=m+1:=⟨l.length-lo-1,oA⟩
         rw[hm]at s1 hzc;simp[execOp,resolve,invoke,builtin,hxe,hm,Builtin.clear_,bh hu,hz1,hzc,s1]
        refine er oB ?_
        unfold Oper.wp;rw[hrun];have hat:G.at k (.row τ l E)=some g:=by simp[Gh.at,o1]
        have hl':(l.take lo++List.replicate (l.length-lo) z).length=l.length:=by simp;omega
        have hfl:(l.take lo++List.replicate (l.length-lo) z).flatMap τ.enc=fl (l.flatMap τ.enc) (lo*τ.sz) (List.replicate (l.length-lo) (τ.enc z)).flatten:=by
         have e1:l.flatMap τ.enc=(l.take lo).flatMap τ.enc++(l.drop lo).flatMap τ.enc:=by rw[← List.flatMap_append,List.take_append_drop]
         have e2:((l.take lo).flatMap τ.enc).length=lo*τ.sz:=by rw[ng,List.length_take,Nat.min_eq_left oA]
         have e3:((l.drop lo).flatMap τ.enc).length=(l.length-lo)*τ.sz:=by rw[ng,List.length_drop]
         rw[List.flatMap_append,zgt,e1];have:=q44 (List.replicate (l.length-lo) (τ.enc z)).flatten ((l.take lo).flatMap τ.enc) ((l.drop lo).flatMap τ.enc) 0;rw[e2,Nat.add_zero]at this;rw[this,z2z _ _ (by rw[e3,qqc,τ.enc_length])]
        refine hN G _ _ ⟨hr.defers,hr.size,hr.frame,fun m hm hlm=>hr.fresh m hm ?_,hr.fin.update (bx' := .row τ (l.take lo++List.replicate (l.length-lo) z) E) hl hat (by simp[Gh.at,o1]) s4 ?_ k9⟩
        ·simp[af]at hlm;cases hbq:Nat.beq k m
         ·rw[hbq]at hlm;exact hlm
         ·rw[hbq]at hlm;cases hlm
        ·have hsz:cur'.size=vs.size:=by
          have:=congrArg List.length s3;rw[qe0]at this;simpa using this
         refine⟨some ⟨g,0,none⟩,c,by rw[hl'];exact o1,.inr ⟨g,cur',fz,rfl,s2,by rw[hsz];exact k3,by rw[hl'];exact k4,k5,by rw[hsz];exact k6,?_,?_,k9⟩⟩
         ·rw[hl',hfl,s3,Nat.add_zero,q5q _ _ _ _ (by have:vs.toList.length=vs.size:=Array.length_toList;omega)]
          exact qrj _ k7 (zko hz3 _)
         ·intro u hu';rw[s3]at hu';rcases qe1 _ _ _ _ hu' with hu'|hu'
          ·exact k8 u hu'
          ·exact hones u hu'
      ·cases h
     ·cases h
    ·cases h
   ·cases h
  ·cases h
 ·cases h
end
def q2d(P:Program)(s:St)(o:Oper):Option (Bool×St):=
 match o.op,o.dst with
 |.convert src dst x,some tt=>match s.ev x with
  |some (.own k)=>match af s.hp k,P.underlying src,P.underlying dst with
   |some (.row τ l E),some (.slice _),some (.slice e)=>match P.underlying e with|some (.int .u8)=>bif Nat.beq src dst&&Nat.blt tt s.n then some (decide (0<l.length),{ s with fr:=(tt,.own k)::s.fr,hp:=(k,.row τ l E)::s.hp }) else none|_=>none
   |_,_,_=>none
  |_=>none
 |_,_=>none
section
variable{P:Program}{vif:World}{vh8:Gh}{vic:List (Nat×ag)}{G:Gh}{s:St}{a:Act}{w:World}
def zwa(hr:ai vif vh8 vic G s a w){o:Oper}{s':St}(h:q2d P s o=some (true,s')){N:Act->World->Prop}(hN:∀G' a' w',ai vif vh8 vic G' s' a' w'->N a' w'):fg P o a w N:=by
 obtain⟨dst,op,ty,pos,after,guard⟩:=o;unfold q2d at h;split at h
 ·rename_i src dst x tt e1 e2;simp only at e1 e2;subst e1 e2;split at h
  ·rename_i k hx;split at h
   ·rename_i τ l E E1 E2 hl hus hud;split at h
    ·rename_i hue;cases hb:Nat.beq src dst&&Nat.blt tt s.n<;>rw[hb]at h<;>simp only[qT,qF,reduceCtorEq,qI,qP,decide_eq_true_eq]at h
     obtain⟨hpos,rfl⟩:=h;simp only[qA]at hb;have hsd:=qN hb.1;subst hsd;rw[hus]at hud;cases hud;obtain⟨ad0,n0,c0,o1,hxe⟩:=bi hr hx;obtain⟨ad,c',q1,q2⟩:=hr.fin.mem.holds _ _ hl;rw[o1]at q1;simp only[qI,qP]at q1;obtain⟨rfl,rfl,rfl⟩:=q1;rcases q2 with⟨_,q,_⟩|⟨g,vs,fz,rfl,k2,k3,k4,k5,k6,k7,k8,k9⟩
     ·subst q;simp at hpos
     ·have hw:(w.freeze ⟨g,vs.size,none⟩ 1).heap[g]? = some (.cells vs E (if fz.1==fz.2 then(vs.size,vs.size+1) else(min fz.1 vs.size,max fz.2 (vs.size+1)))):=by
       simp only[World.freeze,Nat.one_ne_zero,if_false,Array.getElem?_modify,k2];simp
      have hshape:w.shape? g=some (E,vs.size):=by simp only[World.shape?,k2]
      have hrun:(execOp a.eval ⟨some tt,.convert src src x,ty,pos,after,guard⟩).run P w = .ok (.value (.slice (some ⟨g,0,none⟩) l.length c0)) (w.freeze ⟨g,vs.size,none⟩ 1):=by
       simp[execOp,hxe,convert,bh hus,bh hue,markStringish,hshape]
      refine er oB ?_
      unfold Oper.wp;rw[hrun];have hat:G.at k (.row τ l E)=some g:=by simp[Gh.at,o1]
      have hbel:bu (fun b=>b=g) w (w.freeze ⟨g,vs.size,none⟩ 1):=by
       refine⟨rfl,rfl,rfl,?_,fun j hj hne => ?_⟩
       ·simp[World.freeze]
       ·simp only[World.freeze,Nat.one_ne_zero,if_false,Array.getElem?_modify];rw[qW (fun q=>hne q.symm)]
      have hok:c7 G (w.freeze ⟨g,vs.size,none⟩ 1) k (.row τ l E):=by
       refine⟨some ⟨g,0,none⟩,c0,o1,.inr ⟨g,vs,_,rfl,hw,?_,k4,k5,k6,k7,k8,k9⟩⟩;refine .inr ?_;split
       ·exact wF _
       ·rename_i hne;rcases k3 with rfl|k3
        ·simp at hne
        ·simp only;omega
      have hfin:=hr.fin.update (bx' := .row τ l E) hl hat hat hbel hok k9;have hb2:Nat.blt tt s.n=true:=hb.2;refine hN G _ _ ?_;have hr2:ai vif vh8 vic G { s with hp:=(k,.row τ l E)::s.hp } a (w.freeze ⟨g,vs.size,none⟩ 1):=⟨hr.defers,hr.size,hr.frame,fun m hm hlm=>hr.fresh m hm (by
       simp only[af]at hlm;cases hbq:Nat.beq k m
       ·rw[hbq]at hlm;exact hlm
       ·rw[hbq]at hlm;cases hlm),hfin⟩
      exact gm (v := .own k) hr2 (by simp[St.add,hb2,qT,List.nil_append]) ⟨_,_,_,o1,rfl⟩
    ·cases h
   ·cases h
  ·cases h
 ·cases h
end
def q24(f:FuncId):pg->Bool|.ext f'=>Nat.beq f' f|_=>false
def qp3(f:FuncId):List ck->Option ck|[]=>none|e::es=>bif q24 f e.key then some e else qp3 f es
def q17{R:Type}(tb:Tb)(s:St)(o:Oper)(K:St->Option R):Option (Option R):=
 match o.op,o.dst with
 |.call { callee := .value g,args,argTypes:=_ },some tt=>match s.ev g,s.evs args.toList with
  |some (.fn (.func f) [] []),some xs=>match qp3 f tb.ents with
   |some e=>match Pts.get e.args (qe s.hp xs) [] with
    |some (d,nm)=>match rr s.hp e.hp nm with
     |some (d',nm')=>bif qj8 nm'&&Nat.blt tt s.n then
       some ((e.F d d').bind fun r=>bif noRef (e.out.res r).1 then K { s with fr:=(tt,(e.out.res r).1)::s.fr } else none) else none
     |none=>none
    |none=>none
   |none=>none
  |_,_=>none
 |_,_=>none
def q11{f:FuncId}:∀{es:List ck}{e:ck},qp3 f es=some e->e∈es/\e.key = .ext f
 |[],e,h=>by cases h
 |e'::es,e,h=>by
  unfold qp3 at h;cases hb:q24 f e'.key<;>rw[hb]at h<;>simp at h
  ·exact⟨qE _ (q11 h).1,(q11 h).2⟩
  ·subst h;refine⟨qH,?_⟩;unfold q24 at hb;split at hb
   ·rename_i f' hk;rw[hk,qN hb]
   ·cases hb
section
variable{P:Program}{vif:World}{vh8:Gh}{vic:List (Nat×ag)}{G:Gh}{s:St}{a:Act}{w:World}{R:Type}{tb:Tb}
def zv5(hT:∀e∈tb.ents,e.Sound P)(hr:ai vif vh8 vic G s a w){o:Oper}{K:St->Option R}{r:Option R}{x:R}(h:q17 tb s o K=some r)(hx:r=some x){N:Act->World->Prop}(hN:∀s',K s'=some x->∀G' a' w',ai vif vh8 vic G' s' a' w'->N a' w'):fg P o a w N:=by
 obtain⟨dst,op,ty,pos,after,guard⟩:=o;unfold q17 at h;split at h
 ·rename_i g args ats tt e1 e2;simp only at e1 e2;subst e1 e2;split at h
  ·rename_i f xs hg hargs;split at h
   ·rename_i e he;split at h
    ·rename_i d nm hget;split at h
     ·rename_i d' nm' hbg;cases hb:qj8 nm'&&Nat.blt tt s.n<;>rw[hb]at h<;>simp only[qT,qF,reduceCtorEq,qI]at h
      simp only[qA]at hb;have hn:=zi2 hb.1;subst hn;rw[hx]at h;obtain⟨y,hy,h⟩:=Option.bind_eq_some_iff.1 h;cases hnr:noRef (e.out.res y).1<;>rw[hnr]at h<;>simp only[qT,qF,reduceCtorEq]at h
      obtain⟨hmem,hkey⟩:=q11 he;have hs:=hT e hmem d d' y hy;rw[hkey]at hs;have hs:qlq P f (Pts.put e.args d) (e.out.res y).1:=hs;have hseen:=(Pts.get_seen hget).2 [] rfl (fun n m hh=>by have:=(qa0 hbg).1 n m hh;cases this)
      obtain⟨ps,k1,k2⟩:=qr7 (qbi (ps:=e.args) (d:=d)) hseen;obtain⟨z1,z2,z3,z4⟩:=q0b hr.fin;obtain⟨fs,cs,hge,hfs,hcs⟩:=bi hr hg;have hfs0:fs=#[]:=Array.eq_empty_of_size_eq_zero (by have:=hfs.length;simpa using this.symm)
      have hcs0:cs=#[]:=Array.eq_empty_of_size_eq_zero (by have:=hcs.length;simpa using this.symm)
      subst hfs0 hcs0;have hreps:=ld z1 (fun _=>z4) k1 k2 (xp hr hargs)
      obtain⟨v,hv1,hv2⟩:=hs w _ _ z2 hreps;have hv3:aj (e.out.res y).1 G v:=qq3 (G:=G.allData s.hp w) (G':=G) (fun _ _ q=>q) (fun _ _ q=>q) hnr hv2
      have hrun:(execOp a.eval ⟨some tt,.call { callee := .value g,args:=args,argTypes:=ats },ty,pos,after,guard⟩).run P w = .ok (.value v) w:=by
       have e3:(args.toList.map a.eval).toArray=args.map a.eval:=by rw[← Array.toArray_toList (xs:=args.map a.eval),Array.toList_map]
       try rw[e3]at hv1
       simp[execOp,resolve,hge,Deferred.ofValue,invoke,hv1]
      refine er oB ?_
      unfold Oper.wp;rw[hrun];have hb2:Nat.blt tt s.n=true:=hb.2;exact hN _ h _ _ _ (gm (v:=(e.out.res y).1) hr (by simp[St.add,hb2,qT,List.nil_append]) hv3)
     ·cases h
    ·cases h
   ·cases h
  ·cases h
 ·cases h
end
def q5l(P:Program)(t:TypeId):Option Ty:=match P.underlying t with
 |some (.int k)=>match k with|.u8=>some .byte|k=>some (.int k)
 |some .bool=>some .bool|some .string=>some .str|_=>none
def Ty.zero1:(τ:Ty)->Option τ.den|.int _=>some (0:Int)|.byte=>some (0:UInt8)|.bool=>some false|.str=>some ([]:List UInt8)|_=>none
def s9:Ty->AV->Bool
 |.int k,x=>match x with|.int k' n=>decide (k'=k)&&decide (n=0)|_=>false
 |.byte,x=>match x with|.byte c=>decide (c=0)|_=>false
 |.bool,x=>match x with|.bool b => !b|_=>false
 |.str,x=>match x with|.str s=>s.isEmpty|_=>false
 |_,_=>false
def um(τ:Ty):List AV->Bool|[]=>true|x::xs=>s9 τ x&&um τ xs
def Ty.is1:Ty->Bool|.int _=>true|.byte=>true|.bool=>true|.str=>true|_=>false
def xf(P:Program)(T:TypeId):Bool:=match P.underlying T with|some (.array n _)=>Nat.blt 32 n|_=>false
def q0m(P:Program)(s:St)(o:Oper):Option (Bool×St):=
 match o.op,o.dst with
 |.alloc T,some t=>match P.underlying T with
  |some (.array n E)=>bif Nat.blt 32 n then
    match q5l P E,yx P T with
    |some τ,some zs=>match τ.zero1 with
     |some z=>bif Nat.beq zs.length n&&um τ zs&&Nat.ble n 65536&&AV.ones zs&&az (s.nx+32*t) s.hp&&Nat.blt t s.n then
       some (true,{ s with fr:=(t,.oel (s.nx+32*t) 1 0 0)::s.fr,hp:=(s.nx+32*t,.row τ (List.replicate n z) T)::s.hp }) else none
     |none=>none
    |_,_=>none
   else none
  |_=>none
 |.load T x,some t=>bif xf P T then match s.ev x with
  |some (.oel k sz 0 0)=>match af s.hp k,yw P T,eg P T with|some (.row τ l _),some true,some n=>bif τ.is1&&Nat.beq sz 1&&Nat.blt t s.n then some (decide (l.length=n),{ s with fr:=(t,.arr τ l)::s.fr }) else none|_,_,_=>none
  |_=>none else none
 |.store T x y,none=>bif xf P T then match s.ev x,s.ev y with
  |some (.oel k sz 0 0),some (.arr τ l)=>match af s.hp k,eg P T with|some (.row τ0 l0 E0),some n=>bif τ.is1&&τ0.is1&&Nat.beq sz 1 then some (decide (l.length=l0.length)&&decide (l.length=n),{ s with hp:=(k,.row τ l E0)::s.hp }) else none|_,_=>none
  |_,_=>none else none
 |.indexAddr T x i,some t=>bif xf P T then match P.underlying T with
  |some (.array n E)=>match s.ev x,eg P E with
   |some (.oel k sz 0 0),some 1=>bif Nat.beq sz 1&&Nat.blt t s.n then
     match s.evy i with|some (.int _ j)=>some (decide (0<=j)&&decide (j<n),{ s with fr:=(t,.oel k 1 j.toNat 0)::s.fr })|some (.byte c)=>some (Nat.ble 256 n||decide (c.toNat<n),{ s with fr:=(t,.oel k 1 c.toNat 0)::s.fr })|_=>none
    else none
   |_,_=>none
  |_=>none else none
 |_,_=>none
def qej{τ:Ty}(h:τ.is1=true):τ.sz=1:=by cases τ<;>first|rfl|cases h
def q8p{τ:Ty}{z:τ.den}(h:τ.zero1=some z):τ.is1=true:=by cases τ<;>first|rfl|cases h
def vh3{τ:Ty}{x:AV}{z:τ.den}{G:Gh}{v:Value}(h:s9 τ x=true)(hz:τ.zero1=some z)(hr:aj x G v):ak (τ.enc z) G [v]:=by
 cases τ with
 |int k=>
  cases x<;>simp only[s9,wJ,qA,decide_eq_true_eq]at h
  obtain⟨rfl,rfl⟩:=h;cases hz;exact⟨hr,trivial⟩
 |byte=>
  cases x<;>simp[s9,wJ,decide_eq_true_eq]at h
  subst h;cases hz;exact⟨hr,trivial⟩
 |bool=>
  cases x with
  |bool b=>
   cases b
   ·cases hz;exact⟨hr,trivial⟩
   ·cases h
  |_=>cases h
 |str=>
  cases x with
  |str l=>
   cases l
   ·cases hz;exact⟨hr,trivial⟩
   ·cases h
  |_=>cases h
 |_=>cases hz
def zd6{τ:Ty}{z:τ.den}{G:Gh}(hz:τ.zero1=some z):∀{zs:List AV}{vs:List Value},um τ zs=true->ak zs G vs->ak ((List.replicate zs.length z).flatMap τ.enc) G vs
 |[],[],_,_=>trivial|x::zs,v::vs,h,hr=>by
  simp[um,qA]at h;rw[qL,List.replicate_succ,List.flatMap_cons];exact vp (vs:=[v]) (vh3 h.1 hz hr.1) (zd6 hz h.2 hr.2)
 |[],_::_,_,h=>h.elim|_::_,[],_,h=>h.elim
def zvu{τ:Ty}(h:τ.is1=true)(x:τ.den):τ.enc x=[τ.av x]:=by cases τ<;>first|rfl|cases h
def zek{τ:Ty}(h:τ.is1=true){x:τ.den}{G:Gh}{v:Value}:aj (τ.av x) G v↔τ.V1 G.imm x v:=by cases τ<;>first|exact Iff.rfl|cases h
def qqb{τ:Ty}(h:τ.is1=true):∀(l:List τ.den),l.flatMap τ.enc=l.map τ.av|[]=>rfl|x::l=>by rw[List.flatMap_cons,zvu h,qqb h l];rfl
def zsv{τ:Ty}(h:τ.is1=true){l:List τ.den}{G:Gh}{v:Value}(hv:aj (.arr τ l) G v):∃vs:Array Value,v = .agg vs/\ak (l.flatMap τ.enc) G.data vs.toList:=by
 obtain⟨vs,rfl,h1,h2⟩:=hv;refine⟨vs,rfl,?_⟩;rw[qqb h];have:∀(l:List τ.den)(us:List Value),us.length=l.length->(∀(j:Nat)(x:τ.den),l[j]? = some x->∃u,us[j]? = some u/\τ.V1 G.imm x u)->ak (l.map τ.av) G.data us:=by
  intro l
  induction l with
  |nil=>intro us hl _;rw[List.eq_nil_of_length_eq_zero hl];trivial|cons x l ih=>
   intro us hl hu
   cases us with
   |nil=>cases hl
   |cons u us=>
    refine⟨?_,ih us (by simpa using hl) (fun j y hy=>hu (j+1) y (by simpa using hy))⟩
    obtain⟨u',e,k⟩:=hu 0 x rfl;simp at e;subst e;exact(zek h (G:=G.data)).2 k
 exact this l vs.toList (by simpa using h1) (fun j x hx=>by obtain⟨u,k1,k2⟩:=h2 j x hx;exact⟨u,by simpa using k1,k2⟩)
def q4n{τ:Ty}(h:τ.is1=true){l:List τ.den}{G:Gh}{vs:List Value}(hv:ak (l.flatMap τ.enc) G.data vs):aj (.arr τ l) G (.agg vs.toArray):=by
 rw[qqb h]at hv;refine⟨vs.toArray,rfl,by simpa using hv.length.symm,fun j x hx => ?_⟩
 obtain⟨u,k1,k2⟩:=jx hv (i:=j) (x:=τ.av x) (by simp[hx])
 exact⟨u,by simpa using k1,(zek h (G:=G.data)).1 k2⟩
section
variable{P:Program}{vif:World}{vh8:Gh}{vic:List (Nat×ag)}{G:Gh}{s:St}{a:Act}{w:World}
def zsu(hr:ai vif vh8 vic G s a w){o:Oper}{s':St}(h:q0m P s o=some (true,s')){N:Act->World->Prop}(hN:∀G' a' w',ai vif vh8 vic G' s' a' w'->N a' w'):fg P o a w N:=by
 obtain⟨dst,op,ty,pos,after,guard⟩:=o;unfold q0m at h;split at h
 ·rename_i T t e1 e2;simp only at e1 e2;subst e1 e2;split at h
  ·rename_i n E hu;cases hn:Nat.blt 32 n<;>rw[hn]at h<;>simp only[qT,qF,reduceCtorEq]at h
   split at h
   ·rename_i τ zs hτ hzs;split at h
    ·rename_i z hz;cases hb:Nat.beq zs.length n&&um τ zs&&Nat.ble n 65536&&AV.ones zs&&az (s.nx+32*t) s.hp&&Nat.blt t s.n<;>rw[hb]at h<;>simp only[qT,qF,reduceCtorEq,qI,qP,true_and]at h
     subst h;simp only[qA]at hb;obtain⟨⟨⟨⟨⟨b1,b2⟩,b3⟩,b4⟩,b5⟩,b6⟩:=hb;have b1:=qN b1;have b3:n<=65536:=Nat.le_of_ble_eq_true b3;have hsz:τ.sz=1:=qej (q8p hz);obtain⟨Z,hz1,hz2⟩:=qrq (P:=P) hzs w G.data;have ac:Z.cells.toList.length=n:=by rw[← hz2.length,b1]
     have hreps:=zd6 hz b2 hz2;rw[b1]at hreps;have hone:=o7 hz2 b4;have hrun:(execOp a.eval ⟨some t,.alloc T,ty,pos,after,guard⟩).run P w = .ok (.value (.pointer (some ⟨w.heap.size,0,none⟩))) (w.alloc (.cells Z.cells T)):=by
      simp[execOp,Instr.alloc,hz1,newVar,newRow]
     refine er oB ?_
     unfold Oper.wp;rw[hrun];have hrow:gc (w.alloc (.cells Z.cells T)) T τ.sz (some ⟨w.heap.size,0,none⟩) (List.replicate n z).length n Z.cells.toList:=by
      refine⟨by rw[hsz,ac];simp,.inr ⟨w.heap.size,Z.cells,(0,0),rfl,qb _ _,.inl rfl,oB,?_,?_,?_,hone⟩⟩
      ·exact Nat.le_trans b3 oE
      ·rw[hsz,← ac];simp
      ·rw[List.take_of_length_le];rw[hsz,ac];simp
     obtain⟨G',hG⟩:=zkx (t:=t) (v := .oel (s.nx+32*t) 1 0 0) (u := .pointer (some ⟨w.heap.size,0,none⟩)) (s':={ s with fr:=(t,.oel (s.nx+32*t) 1 0 0)::s.fr,hp:=(s.nx+32*t,.row τ (List.replicate n z) T)::s.hp }) hr b5 (qkr _ _) hrow hreps
      (fun b hb=>by injection hb with hb;subst hb;exact wF _) (fun G' hG'=>⟨w.heap.size,_,n,hG',oB⟩)
      (by have hb2:Nat.blt t s.n=true:=b6;simp only[St.add,hb2,qT];rfl)
     exact hN _ _ _ hG
    ·cases h
   ·cases h
  ·cases h
 ·rename_i T x t e1 e2;simp only at e1 e2;subst e1 e2;cases hbig:xf P T<;>rw[hbig]at h<;>simp only[qT,qF,reduceCtorEq]at h
  split at h
  ·rename_i k sz hx;split at h
   ·rename_i τ l E n hl hagg hn;cases hb:τ.is1&&Nat.beq sz 1&&Nat.blt t s.n<;>rw[hb]at h<;>simp only[qT,qF,reduceCtorEq,qI,qP,decide_eq_true_eq]at h
    obtain⟨ac,rfl⟩:=h;simp only[qA]at hb;obtain⟨⟨b1,b2⟩,b3⟩:=hb;have hsz:τ.sz=1:=qej b1;obtain⟨B,n0,c0,ho,hxe⟩:=bi hr hx;obtain⟨ad,c',h1,h3⟩:=hr.fin.mem.holds _ _ hl;rw[ho]at h1;simp only[qI,qP]at h1;obtain⟨rfl,rfl,rfl⟩:=h1;rcases h3 with⟨h3,_⟩|⟨g,vs,fz,k1,k2,k3,k4,k5,k6,k7,k8,k9⟩
    ·cases h3
    ·simp only[qI,Addr.mk.injEq,and_true]at k1;subst k1;have hfl:(l.flatMap τ.enc).length=n:=by rw[ng,hsz,ac,Nat.mul_one]
     have hload:m0 P T (l.flatMap τ.enc) 0=some (.agg (l.flatMap τ.enc)):=by
      unfold m0;rw[hagg,hn];have:Nat.ble (0+n) (l.flatMap τ.enc).length=true:=by rw[hfl,wO];simp
      simp only[this,qT,List.drop_zero];rw[List.take_of_length_le (by rw[hfl];exact wF _)]
     obtain⟨u,hu,us,rfl,hru⟩:=qbw (P:=P) (w:=w) hload (B:=B) (o:=0) k7 (fun j u hu=>by
      rw[List.getElem?_take]at hu;split at hu
      ·rw[wO];exact cell_of_heap k2 hu
      ·cases hu)
     have hrun:(execOp a.eval ⟨some t,.load T x,ty,pos,after,guard⟩).run P w = .ok (.value (.agg us)) w:=by
      simp only[Nat.add_zero]at hu;simp[execOp,hxe,Instr.loadAt,Instr.sureAddr,hu]
     refine er oB ?_
     unfold Oper.wp;rw[hrun];have hb2:Nat.blt t s.n=true:=b3;have:=q4n (G:=G) b1 hru;exact hN _ _ _ (gm (v := .arr τ l) hr (by simp only[St.add,hb2,qT,List.nil_append]) (by simpa using this))
   ·cases h
  ·cases h
 ·rename_i T x y e1 e2;simp only at e1 e2;subst e1 e2;cases hbig:xf P T<;>rw[hbig]at h<;>simp only[qT,qF,reduceCtorEq]at h
  split at h
  ·rename_i k sz τ l hx hy;split at h
   ·rename_i τ0 l0 E0 n hl hn;cases hb:τ.is1&&τ0.is1&&Nat.beq sz 1<;>rw[hb]at h<;>simp only[qT,qF,reduceCtorEq,qI,qP,qA,decide_eq_true_eq]at h
    obtain⟨⟨ac,hlen2⟩,rfl⟩:=h;simp only[qA]at hb;obtain⟨⟨b1,b2⟩,b3⟩:=hb;have hsz:τ.sz=1:=qej b1;have hsz0:τ0.sz=1:=qej b2;obtain⟨B,n0,c0,ho0,hxe⟩:=bi hr hx;obtain⟨us,hye,hus⟩:=zsv b1 (bi hr hy);obtain⟨ad,c,h1,h3⟩:=hr.fin.mem.holds _ _ hl;rw[ho0]at h1;simp only[qI,qP]at h1;obtain⟨rfl,rfl,rfl⟩:=h1;rcases h3 with⟨h3,_⟩|⟨g,vs,fz,k1,k2,k3,k4,k5,k6,k7,k8,k9⟩
    ·cases h3
    ·simp only[qI,Addr.mk.injEq,and_true]at k1;subst k1;have hul:us.toList.length=n:=by rw[← hus.length,ng,hsz,hlen2,Nat.mul_one]
     have hones:∀v∈us.toList,v.oneCell'=true:=o7 hus (by
      rw[qqb b1];have:∀l:List τ.den,AV.ones (l.map τ.av)=true:=by
       intro l
       induction l with
       |nil=>rfl|cons x l ih=>
        simp only[List.map_cons,AV.ones,ih,Bool.and_true];cases τ<;>first|rfl|cases b1
      exact this l)
     have hle:l0.length<=vs.size:=by rw[k6,hsz0,Nat.mul_one];exact k4
     obtain⟨w',cur',m1,m2,m3,m4⟩:=qeu (P:=P) B 0 E0 fz us.toList 0 vs w k2 oA k3 hones
     have hrun:(execOp a.eval ⟨none,.store T x y,ty,pos,after,guard⟩).run P w = .ok .skip w':=by
      have hul':us.size=n:=by simpa using hul
      simp[execOp,Instr.storeAt,hxe,hye,Instr.sureAddr,storeVar,gw hn,Value.cells,hul',m1]
     refine er oB ?_
     unfold Oper.wp;rw[hrun];have hcs:cur'.size=vs.size:=by rw[← Array.length_toList,m3,qe0,Array.length_toList]
     refine hN G _ _ ⟨hr.defers,hr.size,hr.frame,fun m hm hlm=>hr.fresh m hm ?_,?_⟩
     ·simp only[af]at hlm;cases hbq:Nat.beq k m
      ·rw[hbq]at hlm;exact hlm
      ·rw[hbq]at hlm;cases hlm
     ·refine hr.fin.update (bx' := .row τ l E0) hl (B:=B) (by simp[Gh.at,ho0]) (by simp[Gh.at,ho0]) m4 ⟨some ⟨B,0,none⟩,c0,by rw[ac];exact ho0,.inr ⟨B,cur',fz,rfl,m2,by rw[hcs];exact k3,by rw[ac];exact k4,k5,by rw[hcs,hsz,← hsz0];exact k6,?_,?_,k9⟩⟩ k9
      ·rw[m3,hsz,Nat.mul_one,Nat.add_zero];have:=q5p us.toList vs.toList 0 (by simp only[Array.length_toList]at hul ⊢;omega)
       rw[wO,List.take_zero,List.nil_append]at this;rw[hlen2,← hul,this];exact hus
      ·intro u hu;rw[m3]at hu;rcases qe1 _ _ _ _ hu with hu|hu
       ·exact k8 u hu
       ·exact hones u hu
   ·cases h
  ·cases h
 ·rename_i T x i t e1 e2;simp only at e1 e2;subst e1 e2;cases hbig:xf P T<;>rw[hbig]at h<;>simp only[qT,qF,reduceCtorEq]at h
  split at h
  ·rename_i n E hu;split at h
   ·rename_i k sz hx hsz;cases hb:Nat.beq sz 1&&Nat.blt t s.n<;>rw[hb]at h<;>simp only[qT,qF,reduceCtorEq]at h
    simp only[qA]at hb;have b1:=qN hb.1;subst b1;obtain⟨B,n0,c0,ho,hxe⟩:=bi hr hx;have hb2:Nat.blt t s.n=true:=hb.2;have key:∀(j:Nat)(kk:IntKind),a.eval i = .int kk (j:Int)->j<n->s'={ s with fr:=(t,.oel k 1 j 0)::s.fr }->fg P ⟨some t,.indexAddr T x i,ty,pos,after,guard⟩ a w N:=by
     intro j kk hi hj hs';have hrun:(execOp a.eval ⟨some t,.indexAddr T x i,ty,pos,after,guard⟩).run P w = .ok (.value (.pointer (some ⟨B,j,none⟩))) w:=by
      simp[execOp,hxe,hi,Instr.indexAt,asIntOf,bh hu,gw hsz,l8,Instr.sureAddr,hj]
     refine er oB ?_
     unfold Oper.wp;rw[hrun];subst hs';exact hN _ _ _ (gm (v := .oel k 1 j 0) hr (by simp[St.add,hb2,qT,List.nil_append]) ⟨B,n0,c0,ho,oB⟩)
    split at h
    ·rename_i kk j hi;simp at h;obtain⟨⟨h1,h2⟩,h3⟩:=h;have hie:a.eval i = .int kk j:=jq hr hi;exact key j.toNat kk (by rw[Int.toNat_of_nonneg h1];exact hie) oA h3.symm
    ·rename_i c hi;simp only[qI,qP,Bool.or_eq_true,decide_eq_true_eq]at h;obtain⟨h1,h3⟩:=h;have hie:a.eval i = .int .u8 c.toNat:=jq hr hi;have hlt:c.toNat<n:=by
      rcases h1 with h1|h1
      ·have:=Nat.le_of_ble_eq_true h1;have:=c.toNat_lt;omega
      ·exact h1
     exact key c.toNat .u8 hie hlt h3.symm
    ·cases h
   ·cases h
  ·cases h
 ·cases h
end
def qkb:TypeDesc->Bool|.interface _=>false|_=>true
def q3t(P:Program)(s:St)(o:Oper):Option (Bool×St):=
 match o.op,o.dst with
 |.makeInterface T x,some tt=>match s.ev x,P.underlying T with|some v,some d=>bif qkb d&&Nat.blt tt s.n then some (true,{ s with fr:=(tt,.iface T v)::s.fr }) else none|_,_=>none
 |.build T parts,some tt=>bif xf P T then match parts.toList with
  |[]=>match P.underlying T with
   |some (.array n E)=>match q5l P E,qdr P s T [] with
    |some τ,some ([],.agg zs)=>match τ.zero1 with|some z=>bif Nat.beq zs.length n&&um τ zs&&Nat.blt tt s.n then some (true,{ s with fr:=(tt,.arr τ (List.replicate n z))::s.fr }) else none|none=>none
    |_,_=>none
   |_=>none
  |_=>none else none
 |.binOp op t x y _,some tt=>match s.ev y,P.underlying t with
  | some (.val (.slice none 0 0)),some (.slice _)=>bif Nat.blt tt s.n then(match s.ev x,op with
   |some (.own k),.eql=>match af s.hp k with|some (.row _ l _)=>some (decide (0<l.length),{ s with fr:=(tt,.val (.bool false))::s.fr })|_=>none
   |some (.own k),.neq=>match af s.hp k with|some (.row _ l _)=>some (decide (0<l.length),{ s with fr:=(tt,.val (.bool true))::s.fr })|_=>none
   |some (.val (.slice none 0 0)),.eql=>some (true,{ s with fr:=(tt,.val (.bool true))::s.fr })|some (.val (.slice none 0 0)),.neq=>some (true,{ s with fr:=(tt,.val (.bool false))::s.fr })| _,_=>none) else none
  |_,_=>none
 |_,_=>none
def zqc{τ:Ty}{x:AV}{z:τ.den}{G G':Gh}{v:Value}(h:s9 τ x=true)(hz:τ.zero1=some z)(hr:aj x G v):ak (τ.enc z) G' [v]:=by
 cases τ with
 |int k=>
  cases x<;>simp only[s9,wJ,qA,decide_eq_true_eq]at h
  obtain⟨rfl,rfl⟩:=h;cases hz;exact⟨hr,trivial⟩
 |byte=>
  cases x<;>simp[s9,wJ,decide_eq_true_eq]at h
  subst h;cases hz;exact⟨hr,trivial⟩
 |bool=>
  cases x with
  |bool b=>
   cases b
   ·cases hz;exact⟨hr,trivial⟩
   ·cases h
  |_=>cases h
 |str=>
  cases x with
  |str l=>
   cases l
   ·cases hz;exact⟨hr,trivial⟩
   ·cases h
  |_=>cases h
 |_=>cases hz
def zd5{τ:Ty}{z:τ.den}{G G':Gh}(hz:τ.zero1=some z):∀{zs:List AV}{vs:List Value},um τ zs=true->ak zs G vs->ak ((List.replicate zs.length z).flatMap τ.enc) G' vs
 |[],[],_,_=>trivial|x::zs,v::vs,h,hr=>by
  simp[um,qA]at h;rw[qL,List.replicate_succ,List.flatMap_cons];exact vp (vs:=[v]) (zqc h.1 hz hr.1) (zd5 hz h.2 hr.2)
 |[],_::_,_,h=>h.elim|_::_,[],_,h=>h.elim
section
variable{P:Program}{vif:World}{vh8:Gh}{vic:List (Nat×ag)}{G:Gh}{s:St}{a:Act}{w:World}
def z2d{P:Program}{t E:TypeId}(hu:P.underlying t=some (.slice E))(d:Nat)(x:Option Addr)(n c:Nat)(w:World)(h:x=none->n=0/\c=0) :
  (Op.equalIn (d+1) t (.slice x n c) (.slice none 0 0)).run P w = .ok x.isNone w:=by
 cases x with
 |none=>obtain⟨rfl,rfl⟩:=h rfl;simp[Op.equalIn,bh hu]
 |some a=>simp[Op.equalIn,bh hu]
def z2c{P:Program}{t E:TypeId}(hu:P.underlying t=some (.slice E))(x:Option Addr)(n c:Nat)(w:World)(h:x=none->n=0/\c=0) :
  (Op.equal t (.slice x n c) (.slice none 0 0)).run P w = .ok x.isNone w:=z2d hu 9999 x n c w h
def zyx(hr:ai vif vh8 vic G s a w){o:Oper}{s':St}(h:q3t P s o=some (true,s')){N:Act->World->Prop}(hN:∀G' a' w',ai vif vh8 vic G' s' a' w'->N a' w'):fg P o a w N:=by
 obtain⟨dst,op,ty,pos,after,guard⟩:=o;unfold q3t at h;split at h
 ·rename_i T x tt e1 e2;simp only at e1 e2;subst e1 e2;split at h
  ·rename_i v d hx hu;cases hb:qkb d&&Nat.blt tt s.n<;>rw[hb]at h<;>simp only[qT,qF,reduceCtorEq,qI,qP,true_and]at h
   subst h;simp only[qA]at hb;refine er oB ?_
   unfold Oper.wp;have hrun:(execOp a.eval ⟨some tt,.makeInterface T x,ty,pos,after,guard⟩).run P w = .ok (.value (.iface T (a.eval x))) w:=by
    have h1:=hb.1;cases d<;>simp only[qkb,wJ]at h1<;>simp[execOp,Instr.makeInterface,bh hu]
   rw[hrun];exact hN G _ _ (gm (v := .iface T v) hr oS ⟨_,rfl,bi hr hx⟩)
  ·cases h
 ·rename_i T parts tt e1 e2;simp only at e1 e2;subst e1 e2;cases hbig:xf P T<;>rw[hbig]at h<;>simp only[qT,qF,reduceCtorEq]at h
  split at h
  ·rename_i hp;split at h
   ·rename_i n E hu;split at h
    ·rename_i τ zs hτ hbu;split at h
     ·rename_i z hz;cases hb:Nat.beq zs.length n&&um τ zs&&Nat.blt tt s.n<;>rw[hb]at h<;>simp only[qT,qF,reduceCtorEq,qI,qP,true_and]at h
      subst h;simp only[qA]at hb;have b1:=qN hb.1.1;rw[← hp]at hbu;obtain⟨u,hu1,us,rfl,hu3⟩:=zdn hr hbu;refine er oB ?_
      unfold Oper.wp;have hrun:(execOp a.eval ⟨some tt,.build T parts,ty,pos,after,guard⟩).run P w = .ok (.value (.agg us)) w:=by
       simp only[execOp,Sem.run_bind,hu1,Result.andThen_ok];rfl
      rw[hrun];have hrep:=zd5 (G':=G.data) hz hb.1.2 hu3;rw[b1]at hrep;have:=q4n (q8p hz) (G:=G) hrep;exact hN G _ _ (gm (v := .arr τ (List.replicate n z)) hr oS this)
     ·cases h
    ·cases h
   ·cases h
  ·cases h
 ·rename_i op t x y p tt e1 e2;simp only at e1 e2;subst e1 e2;split at h
  ·rename_i E hy hu;cases hb:Nat.blt tt s.n<;>rw[hb]at h<;>simp only[qT,qF,reduceCtorEq]at h
   have hye:a.eval y = .slice none 0 0:=bi hr hy;have go:∀(op:BinOp)(q:Bool)(ad:Option Addr)(n c:Nat),a.eval x = .slice ad n c->(ad=none->n=0/\c=0)->(op = .eql/\q=ad.isNone\/op = .neq/\q = !ad.isNone) ->
     s'={ s with fr:=(tt,.val (.bool q))::s.fr }->fg P ⟨some tt,.binOp op t x y p,ty,pos,after,guard⟩ a w N:=by
    intro op q ad n c hxe hnil hq hs';subst hs';refine er oB ?_
    unfold Oper.wp;have hq':=z2c (P:=P) hu ad n c w hnil;have hrun:(execOp a.eval ⟨some tt,.binOp op t x y p,ty,pos,after,guard⟩).run P w = .ok (.value (.bool q)) w:=by
     rcases hq with⟨rfl,rfl⟩|⟨rfl,rfl⟩<;>simp[execOp,hxe,hye,eqGuard,binOp,hq']
    rw[hrun];exact hN G _ _ (gm (v := .val (.bool q)) hr (by simp[St.add,hb,qT,List.nil_append]) rfl)
   have owned:∀{k:Nat}{τ:Ty}{l:List τ.den}{E:TypeId},s.ev x=some (.own k)->af s.hp k=some (.row τ l E)->0<l.length->∃ad n c,a.eval x = .slice (some ad) n c:=by
    intro k τ l E hx hl hpos;obtain⟨ad0,n0,c0,o1,hxe⟩:=bi hr hx;obtain⟨ad,c',q1,q2⟩:=hr.fin.mem.holds _ _ hl;rw[o1]at q1;simp at q1;obtain⟨rfl,rfl,rfl⟩:=q1;rcases q2 with⟨_,q,_⟩|⟨g,vs,fz,rfl,_⟩
    ·subst q;simp at hpos
    ·exact⟨_,_,_,hxe⟩
   split at h
   ·rename_i k hx;split at h
    ·rename_i hl;simp at h;obtain⟨ad,n,c,he⟩:=owned hx hl h.1;exact go _ false _ _ _ he (fun q=>by cases q) (.inl ⟨rfl,rfl⟩) h.2.symm
    ·cases h
   ·rename_i k hx;split at h
    ·rename_i hl;simp at h;obtain⟨ad,n,c,he⟩:=owned hx hl h.1;exact go _ true _ _ _ he (fun q=>by cases q) (.inr ⟨rfl,rfl⟩) h.2.symm
    ·cases h
   ·rename_i hx;simp at h;exact go _ true _ _ _ (bi hr hx) (fun _=>⟨rfl,rfl⟩) (.inl ⟨rfl,rfl⟩) h.symm
   ·rename_i hx;simp at h;exact go _ false _ _ _ (bi hr hx) (fun _=>⟨rfl,rfl⟩) (.inr ⟨rfl,rfl⟩) h.symm
   ·cases h
  ·cases h
 ·cases h
end
def cr(s:List UInt8)(p:Nat):Nat×Nat:=Utf8.decode ⟨s.toArray⟩ p
def q2x{R:Type}(P:Program)(s:St)(o:Oper)(K:St->Option R):Option (Option R):=
 match o.op,o.dst with
 |.range T x,some t=>match P.underlying T,s.ev x with
  |some .string,some (.str l)=>bif az (s.nx+32*t) s.hp&&Nat.blt t s.n then
    some (K { s with fr:=(t,.ptr (s.nx+32*t) 0)::s.fr,hp:=(s.nx+32*t,.it l 0)::s.hp }) else none
  |_,_=>none
 |.next x true,some t=>match s.ev x with
  |some (.ptr b 0)=>match af s.hp b with
   |some (.it l p)=>bif Nat.blt t s.n then
     some (bif Nat.blt p l.length then K { s with fr:=(t,.tup [.val (.bool true),.int .i64 p,.int .i32 (cr l p).1])::s.fr,hp:=(b,.it l (p+(cr l p).2))::s.hp }
      else K { s with fr:=(t,.tup [.val (.bool false)])::s.fr }) else none
   |_=>none
  |_=>none
 |.convert src dst x,some t=>match P.underlying src,P.underlying dst,s.evy x with|some _,some .string,some (.int _ n)=>bif Nat.blt t s.n then some (K { s with fr:=(t,.str (kw n))::s.fr }) else none|_,_,_=>none
 |_,_=>none
section
variable{P:Program}{vif:World}{vh8:Gh}{vic:List (Nat×ag)}{G:Gh}{s:St}{a:Act}{w:World}
def ztl(w:World)(B:Nat)(o:Obj):bu (fun b=>b=B) w (w.putObj B o):=
 ⟨rfl,rfl,rfl,oB,fun k _ hne=>World.putObj_heap_other hne⟩
def ai.setBox(hr:ai vif vh8 vic G s a w){n:Nat}{bx bx':ag}{B:Nat}(hn:af s.hp n=some bx)(hB:G.at n bx=some B)(hB':∀c,G.at n bx'=some c->c=B){o:Obj}
  (hok:c7 G (w.putObj B o) n bx') (hi:∀o,G.imm B o=none):ai vif vh8 vic G { s with hp:=(n,bx')::s.hp } a (w.putObj B o):=
 ⟨hr.defers,hr.size,hr.frame,fun m hm hl=>hr.fresh m hm (by
  simp[af]at hl;cases hb:Nat.beq n m
  ·rw[hb]at hl;exact hl
  ·rw[hb]at hl;cases hl),hr.fin.update' hn hB hB' (ztl w B o) hok hi⟩
def Gh.addBox(G:Gh)(k:Nat)(B:Nat):Gh:={ imm:=G.imm,box:=fun m=>bif Nat.beq m k then some B else G.box m,own:=G.own }
def Gh.addBox_le{k B:Nat}(h:G.box k=none):G.le (G.addBox k B):=
 ⟨fun _ _ _ h=>h,fun n B' hn=>by
  show(bif Nat.beq n k then some B else G.box n)=_
  cases hb:Nat.beq n k
  ·exact hn
  ·(have:=qN hb;subst this;rw[h]at hn;cases hn),fun _ _ h=>h⟩
def Gh.addBox_self{k B:Nat}:(G.addBox k B).box k=some B:=by show(bif Nat.beq k k then some B else G.box k)=_;simp
def Gh.addBox_ne{k B m:Nat}(h:m≠k):(G.addBox k B).box m=G.box m:=by
 show(bif Nat.beq m k then some B else G.box m)=_
 cases hb:Nat.beq m k
 ·rfl
 ·exact absurd (qN hb) h
def ai.newBox(hr:ai vif vh8 vic G s a w){k:Nat}{bx:ag}{o:Obj}(hk:af s.hp k=none)(hkx:s.nx<=k)(hat:∀b,(G.addBox k w.heap.size).at k bx=some b->b=w.heap.size)
  (hok:c7 (G.addBox k w.heap.size) (w.alloc o) k bx):ai vif vh8 vic (G.addBox k w.heap.size) { s with hp:=(k,bx)::s.hp } a (w.alloc o):=by
 obtain⟨hkb,hko⟩:=hr.fresh k hkx hk;have hle:G.le (G.addBox k w.heap.size):=Gh.addBox_le hkb;have hl1:∀n b,af [(k,bx)] n=some b->n=k/\b=bx:=fun n b h=>by
  simp[af]at h;cases hb:Nat.beq k n
  ·rw[hb]at h;cases h
  ·rw[hb]at h;simp at h;exact⟨(qN hb).symm,h.symm⟩
 have hlt:∀b o v,G.imm b o=some v->b<w.heap.size:=fun b o v h=>World.block_lt_of_cell? _ _ (hr.fin.mem.agree _ _ _ h)
 refine⟨by obtain⟨bs,h1,h2⟩:=hr.defers;exact⟨bs,h1,ry hle.box h2⟩,hr.size,fun i x hx=>by obtain⟨v,h1,h2⟩:=hr.frame i x hx;exact⟨v,h1,h2.le hle⟩,fun m hm hl => ?_,?_⟩
 ·simp[af]at hl;cases hb:Nat.beq k m
  ·rw[hb]at hl;obtain⟨h1,h2⟩:=hr.fresh m hm hl;exact⟨by rw[Gh.addBox_ne (fun e=>by subst e;simp at hb)];exact h1,h2⟩
  ·rw[hb]at hl;cases hl
 ·refine hr.fin.extend (new:=[(k,bx)]) hle (qkr _ _) (fun _ _ _ h => .inl h) (fun b o v h => ?_) hr.fin.mem.one ?_ ?_ ?_
  ·rw[World.cell?_alloc_lt _ _ _ (hlt b o v h)];exact hr.fin.mem.agree _ _ _ h
  ·intro n b h;obtain⟨rfl,_⟩:=hl1 n b h;exact hk
  ·intro n b h;obtain⟨rfl,rfl⟩:=hl1 n b h;exact⟨hok,fun b hb=>by rw[hat b hb];exact wF _⟩
  ·intro n m b b' c h1 h2 _ _;obtain⟨rfl,_⟩:=hl1 n b h1;obtain⟨rfl,_⟩:=hl1 m b' h2;rfl
def iv(l:List UInt8):(⟨l.toArray⟩:ByteArray).size=l.length:=by simp[ByteArray.size]
def zxl{R:Type}(hr:ai vif vh8 vic G s a w){o:Oper}{K:St->Option R}{r:Option R}{x:R}(h:q2x P s o K=some r)(hx:r=some x){N:Act->World->Prop}(hN:∀s',K s'=some x->∀G' a' w',ai vif vh8 vic G' s' a' w'->N a' w'):fg P o a w N:=by
 obtain⟨dst,op,ty,pos,after,guard⟩:=o;unfold q2x at h;split at h
 ·rename_i T y t e1 e2;simp only at e1 e2;subst e1 e2;split at h
  ·rename_i l hu hy;cases hb:az (s.nx+32*t) s.hp&&Nat.blt t s.n<;>rw[hb]at h<;>simp only[qT,qF,reduceCtorEq,qI]at h
   simp only[qA]at hb;subst h;have hk:=mi hb.1 _ (wF _) oA
   have he:a.eval y = .string ⟨l.toArray⟩:=bi hr hy;refine er oB ?_
   unfold Oper.wp;have hrun:(execOp a.eval ⟨some t,.range T y,ty,pos,after,guard⟩).run P w = .ok (.value (.pointer (some ⟨w.heap.size,0,none⟩))) (w.iter ⟨l.toArray⟩ 0):=by
    simp[execOp,he,run_range_string w T ⟨l.toArray⟩ hu]
   rw[hrun];have hr1:=hr.newBox (k:=s.nx+32*t) (bx := .it l 0) (o := .stringIter ⟨l.toArray⟩ 0) hk oA (fun b hb=>by
    have hb:(G.addBox (s.nx+32*t) w.heap.size).box (s.nx+32*t)=some b:=hb;rw[Gh.addBox_self]at hb;injection hb with hb;exact hb.symm)
    ⟨w.heap.size,Gh.addBox_self,qb _ _,fun o=>by
     cases hq:(G.addBox (s.nx+32*t) w.heap.size).imm w.heap.size o with
     |none=>rfl|some v=>
      have:=World.block_lt_of_cell? _ _ (hr.fin.mem.agree _ _ _ hq);simp at this⟩
   exact hN _ hx _ _ _ (gm (v := .ptr (s.nx+32*t) 0) hr1 oS ⟨w.heap.size,Gh.addBox_self,rfl⟩)
  ·cases h
 ·rename_i y t e1 e2;simp only at e1 e2;subst e1 e2;split at h
  ·rename_i b hy;split at h
   ·rename_i l p hb;cases ht:Nat.blt t s.n<;>rw[ht]at h<;>simp only[qT,qF,reduceCtorEq,qI]at h
    subst h;obtain⟨B,hB,he⟩:=bi hr hy;obtain⟨B',k1,k2,k3⟩:=hr.fin.mem.holds b _ hb;rw[hB]at k1;injection k1 with k1;subst k1
    refine er oB ?_
    unfold Oper.wp;cases hp:Nat.blt p l.length<;>rw[hp]at hx<;>simp only[qT,qF]at hx
    ·have hp':¬p<(⟨l.toArray⟩:ByteArray).size:=fun hlt=>by
      rw[iv]at hlt;have:Nat.blt p l.length=true:=Nat.ble_eq_true_of_le hlt;rw[hp]at this;cases this
     have hrun:(execOp a.eval ⟨some t,.next y true,ty,pos,after,guard⟩).run P w = .ok (.value (.tuple #[.bool false])) w:=by
      simp[execOp,he,Instr.next,getObj,Sem.run,k2,hp']
     rw[hrun];exact hN _ hx _ _ _ (gm (v := .tup [.val (.bool false)]) hr (by simp only[St.add,ht,qT,List.nil_append]) ⟨_,rfl,rfl,trivial⟩)
    ·have hp':p<(⟨l.toArray⟩:ByteArray).size:=by
      rw[iv];exact Nat.le_of_ble_eq_true hp
     have hlt:=(Array.getElem?_eq_some_iff.1 k2).1;have hrun:(execOp a.eval ⟨some t,.next y true,ty,pos,after,guard⟩).run P w = .ok (.value (.tuple #[.bool true,.int .i64 p,.int .i32 (cr l p).1])) (w.putObj B (.stringIter ⟨l.toArray⟩ (p+(cr l p).2))):=by
      simp[execOp,he,Instr.next,getObj,setObj,Sem.run,k2,hp',goInt,cr,World.putObj]
     rw[hrun];have hr1:=hr.setBox (bx' := .it l (p+(cr l p).2)) (o := .stringIter ⟨l.toArray⟩ (p+(cr l p).2)) hb (show G.at b (.it l p)=some B from hB) (fun c hc=>by
      have hc:G.box b=some c:=hc;rw[hB]at hc;exact(qJ hc).symm) ⟨B,hB,World.putObj_heap_same hlt,k3⟩ k3
     exact hN _ hx _ _ _ (gm (v := .tup [.val (.bool true),.int .i64 p,.int .i32 (cr l p).1]) hr1 (by simp only[St.add,ht,qT,List.nil_append]) ⟨_,rfl,rfl,rfl,rfl,trivial⟩)
   ·cases h
  ·cases h
 ·rename_i src d y t e1 e2;simp only at e1 e2;subst e1 e2;split at h
  ·rename_i ds k n hs hd hy;cases ht:Nat.blt t s.n<;>rw[ht]at h<;>simp only[qT,qF,reduceCtorEq,qI]at h
   subst h;have he:a.eval y = .int k n:=jq hr hy;refine er oB ?_
   unfold Oper.wp;have hrun:(execOp a.eval ⟨some t,.convert src d y,ty,pos,after,guard⟩).run P w = .ok (.value (.string ⟨(kw n).toArray⟩)) w:=by
    simp[execOp,he,convert,run_underlying hs,run_underlying hd,Conv.intToString,kw]
   rw[hrun];exact hN _ hx _ _ _ (gm (v := .str (kw n)) hr (by simp[St.add,ht,qT,List.nil_append]) rfl)
  ·cases h
 ·cases h
end
def q5b{R:Type}(P:Program)(s:St)(o:Oper)(K:St->Option R):Option (Option R):=
 match o.op,o.dst with
 |.indexAddr T (.global g) i,some t=>match LC.glob g,P.underlying T with
  |some ⟨τ,l⟩,some (.array n E)=>match eg P E with
   |some sz=>bif Nat.beq sz τ.sz&&(Nat.ble l.length n&&Nat.blt t s.n) then
     match s.evy i with
     |some (.int _ j)=>some (match am l j with|some y=>K { s with fr:=(t,.rop (τ.enc y))::s.fr }|none=>none)
     |some (.byte c)=>some (match l[c.toNat]? with|some y=>K { s with fr:=(t,.rop (τ.enc y))::s.fr }|none=>none)
     |_=>none
    else none
   |none=>none
  |_,_=>none
 |_,_=>none
section
variable{P:Program}{vif:World}{vh8:Gh}{vic:List (Nat×ag)}{G:Gh}{s:St}{a:Act}{w:World}
def z3q{R:Type}(hr:ai vif vh8 vic G s a w){o:Oper}{K:St->Option R}{r:Option R}{x:R}(h:q5b P s o K=some r)(hx:r=some x){N:Act->World->Prop}(hN:∀s',K s'=some x->∀G' a' w',ai vif vh8 vic G' s' a' w'->N a' w'):fg P o a w N:=by
 obtain⟨dst,op,ty,pos,after,guard⟩:=o;unfold q5b at h;split at h
 ·rename_i T g i t e1 e2;simp only at e1 e2;subst e1 e2;split at h
  ·rename_i τ l n E hg hu;split at h
   ·rename_i sz hsz;cases hb:Nat.beq sz τ.sz&&(Nat.ble l.length n&&Nat.blt t s.n)<;>rw[hb]at h<;>simp only[qT,qF,reduceCtorEq]at h
    simp only[qA]at hb;obtain⟨b1,b2,b3⟩:=hb;have b1:=qN b1;have b2:=Nat.le_of_ble_eq_true b2;subst b1;have key:∀(j:Nat)(kk:IntKind)(y:τ.den),a.eval i = .int kk (j:Int)->l[j]? = some y->K { s with fr:=(t,.rop (τ.enc y))::s.fr }=some x->fg P ⟨some t,.indexAddr T (.global g) i,ty,pos,after,guard⟩ a w N:=by
     intro j kk y hi hy hk;have hj:j<n:=Nat.lt_of_lt_of_le (List.getElem?_eq_some_iff.1 hy).1 b2;have hrun:(execOp a.eval ⟨some t,.indexAddr T (.global g) i,ty,pos,after,guard⟩).run P w = .ok (.value (.pointer (some ⟨g,j*τ.sz,none⟩))) w:=by
      have hge:a.eval (.global g) = .pointer (some ⟨g,0,none⟩):=by simp[Act.eval]
      simp[execOp,hge,hi,Instr.indexAt,asIntOf,bh hu,gw hsz,l8,Instr.sureAddr,hj]
     refine er oB ?_
     unfold Oper.wp;rw[hrun];exact hN _ hk _ _ _ (gm (v := .rop (τ.enc y)) hr (by simp[St.add,b3,qT,List.nil_append]) ⟨g,j*τ.sz,rfl,qz.2 (hr.fin.mem.tab.1 g τ l hg j y hy)⟩)
    split at h
    ·rename_i kk j hi;have h:=qJ h;rw[← h]at hx;split at hx
     ·rename_i y hy;have hie:a.eval i = .int kk j:=jq hr hi;obtain⟨h1,h2⟩:=qjv hy;exact key j.toNat kk y (by rw[Int.toNat_of_nonneg h1];exact hie) h2 hx
     ·cases hx
    ·rename_i c hi;have h:=qJ h;rw[← h]at hx;split at hx
     ·rename_i y hy;exact key c.toNat .u8 y (jq hr hi) hy hx
     ·cases hx
    ·cases h
   ·cases h
  ·cases h
 ·cases h
end
def vv(s:List UInt8):Nat->Nat->List Int|0,_=>[]|f+1,i=>bif Nat.blt i s.length then((cr s i).1:Int)::vv s f (i+(cr s i).2) else[]
def gg(s:List UInt8):List Int:=vv s s.length 0
def q3l{R:Type}(P:Program)(s:St)(o:Oper)(K:St->Option R):Option (Option R):=
 match o.op,o.dst with
 |.makeSlice T x y,some t=>match P.underlying T with
  |some (.slice E)=>match q5l P E,yx P E,eg P E,s.evy x,s.evy y with
   |some τ,some [z0],some 1,some (.int _ n),some (.int _ m)=>match τ.zero1 with
    |some z=>bif s9 τ z0&&mr P E&&az (s.nx+32*t) s.hp&&Nat.blt t s.n then
      some (bif decide (0<=n/\n=m/\n<=4294967296) then K { s with fr:=(t,.own (s.nx+32*t))::s.fr,hp:=(s.nx+32*t,.row τ (List.replicate n.toNat z) E)::s.hp } else none) else none
    |none=>none
   |_,_,_,_,_=>none
  |_=>none
 |.convert src dst x,some t=>match P.underlying src,P.underlying dst with
  |some .string,some (.slice E)=>match P.underlying E,s.ev x with
   |some (.int .i32),some (.str b)=>bif az (s.nx+32*t) s.hp&&Nat.blt t s.n then
     some (bif decide (b.length<=4294967296) then K { s with fr:=(t,.own (s.nx+32*t))::s.fr,hp:=(s.nx+32*t,.row (.int .i32) (gg b) E)::s.hp } else none) else none
   |_,_=>none
  |some (.slice E),some .string=>match P.underlying E,s.ev x with
   |some (.int .i32),some v=>match qkn s v with|some l=>bif Nat.blt t s.n then some (K { s with fr:=(t,.str (jg l))::s.fr }) else none|none=>none
   |_,_=>none
  |_,_=>none
 |.slice T x lo (some hi) (some mx),some t=>match P.underlying T with
  |some (.slice E)=>match eg P E,jc s lo,s.evy hi,s.evy mx,s.ev x with
   |some sz,some a,some (.int _ b),some (.int _ c),some (.sl τ l)=>bif Nat.beq τ.sz sz&&Nat.blt t s.n then
     some (bif decide (0<=a.getD 0/\a.getD 0<=b/\b<=c/\c<=(l.length:Int)) then K { s with fr:=(t,.sl τ ((l.drop (a.getD 0).toNat).take (b.toNat-(a.getD 0).toNat)))::s.fr } else none) else none
   |_,_,_,_,_=>none
  |_=>none
 |_,_=>none
def zk9(s:List UInt8):∀(f i:Nat)(acc:Array Value),Conv.runesFrom ⟨s.toArray⟩ f i acc=acc++((vv s f i).map (Value.int .i32)).toArray
 |0,i,acc=>by simp[Conv.runesFrom,vv]|f+1,i,acc=>by
  unfold Conv.runesFrom vv;rw[iv];by_cases h:i<s.length
  ·have hb:Nat.blt i s.length=true:=Nat.ble_eq_true_of_le h;rw[qX h,hb];simp;rw[show Utf8.decode (⟨s.toArray⟩:ByteArray) i=cr s i from rfl]
   rw[zk9 s f];simp
  ·have hb:Nat.blt i s.length=false:=by
    cases hq:Nat.blt i s.length
    ·rfl
    ·exact absurd (Nat.le_of_ble_eq_true hq) h
   rw[qW h,hb];simp
def zlb(s:List UInt8):∀(f i:Nat),(vv s f i).length<=f
 |0,_=>wF _|f+1,i=>by
  unfold vv;cases Nat.blt i s.length
  ·simp
  ·simp;have:=zlb s f (i+(cr s i).2);omega
def zgc(G:Gh):∀(l:List Int),ak (List.flatMap (β:=AV) (Ty.int .i32).enc l) G (l.map (Value.int .i32))
 |[]=>trivial|_::l=>⟨rfl,zgc G l⟩
section
variable{P:Program}{vif:World}{vh8:Gh}{vic:List (Nat×ag)}{G:Gh}{s:St}{a:Act}{w:World}
def z3a(w:World)(o:Obj):cd w (w.drew.alloc o):=⟨rfl,rfl,rfl,oB,fun k hk _=>Below.heap_alloc w.drew _ k hk⟩
def vh6{τ:Ty}{z:τ.den}{x:AV}{G G':Gh}{v:Value}(h:s9 τ x=true)(hz:τ.zero1=some z)(hr:aj x G v)(n:Nat):ak ((List.replicate n z).flatMap τ.enc) G' (List.replicate n v):=by
 induction n with
 |zero=>trivial|succ n ih=>
  rw[List.replicate_succ,List.replicate_succ,List.flatMap_cons];exact vp (vs:=[v]) (zqc h hz hr) ih
def zyh{R:Type}(hr:ai vif vh8 vic G s a w){o:Oper}{K:St->Option R}{r:Option R}{x:R}(h:q3l P s o K=some r)(hx:r=some x){N:Act->World->Prop}(hN:∀s',K s'=some x->∀G' a' w',ai vif vh8 vic G' s' a' w'->N a' w'):fg P o a w N:=by
 obtain⟨dst,op,ty,pos,after,guard⟩:=o;unfold q3l at h;split at h
 ·rename_i T y1 y2 t e1 e2;simp only at e1 e2;subst e1 e2;split at h
  ·rename_i E hu;split at h
   ·rename_i τ z0 kn n km m hτ hz0 hs1 hn hm;split at h
    ·rename_i z hz;cases hb:s9 τ z0&&mr P E&&az (s.nx+32*t) s.hp&&Nat.blt t s.n<;>rw[hb]at h<;>simp only[qT,qF,reduceCtorEq,qI]at h
     simp only[qA]at hb;subst h;cases hd:decide (0<=n/\n=m/\n<=4294967296)<;>rw[hd]at hx<;>simp only[qT,qF,reduceCtorEq]at hx
     obtain⟨h0,rfl,h2⟩:=of_decide_eq_true hd;have en:a.eval y1 = .int kn n:=jq hr hn;have em:a.eval y2 = .int km n:=jq hr hm;obtain⟨i,zv,hi,hzv,q1,_,q3,q4,q5⟩:=qll hb.1.1.2 hs1;unfold yx at hz0;rw[hi]at hz0;simp only[hzv,qI]at hz0;obtain⟨v,hv,hzo⟩:∃v,zv.cells.toList=[v]/\z0=mj v:=by
      cases hq:zv.cells.toList with
      |nil=>rw[hq]at hz0;cases hz0
      |cons v l=>rw[hq]at hz0;cases l with|nil=>simp only[qep,List.cons.injEq,and_true]at hz0;exact⟨v,rfl,hz0.symm⟩|cons _ _=>simp[qep]at hz0
     have hvc:zv.cells=#[v]:=by rw[← Array.toArray_toList (xs:=zv.cells),hv]
     have hv1:v.oneCell'=true:=q4 v (by rw[hv];exact List.mem_singleton.2 rfl)
     have hbytes:(i.bytes:Int)*n<=281474976710656:=by
      have:(i.bytes:Int)*n<=32768*4294967296:=Int.mul_le_mul oA h2 h0 oA
      omega
     have hr1:=run_make (P:=P) w T E i zv hu hi hzv kn km n n h0 (Int.le_refl _) hbytes oA
     have hmc:madeCells zv.cells (n.toNat*i.size)=Array.replicate n.toNat v:=by
      rw[q5,Nat.mul_one,hvc];apply Array.ext
      ·simp[madeCells]
      ·intro j h1 h2;simp[madeCells,Nat.mod_one]
     rw[hmc]at hr1;have hsz:τ.sz=1:=qej (q8p hz);have hz0v:aj z0 G v:=by rw[hzo];exact qrh G v
     have ac:(List.replicate n.toNat z).length=n.toNat:=List.length_replicate;obtain⟨G',hG⟩:=qkj (τ:=τ) (l:=List.replicate n.toNat z) (E:=E) (ad:=some ⟨w.heap.size,0,none⟩) (c:=n.toNat) (us:=List.replicate n.toNat v) (w':=w.alloc (.cells (Array.replicate n.toNat v) E)) hr hb.1.2 (qkr _ _)
      ⟨by rw[ac,hsz];simp,.inr ⟨w.heap.size,Array.replicate n.toNat v,(0,0),rfl,qb _ _,.inl rfl,by rw[ac];exact wF _,oT,by simp[hsz],by rw[ac,hsz];simp,fun u hu=>by
       rw[Array.toList_replicate]at hu;rw[(List.mem_replicate.1 hu).2];exact hv1⟩⟩ (vh6 hb.1.1.1 hz hz0v _) (fun b hb=>by injection hb with hb;simp at hb;omega)
      (s':={ s with fr:=(t,.own (s.nx+32*t))::s.fr,hp:=(s.nx+32*t,.row τ (List.replicate n.toNat z) E)::s.hp }) mA
     refine er oB ?_
     unfold Oper.wp;rw[show(execOp a.eval ⟨some t,.makeSlice T y1 y2,ty,pos,after,guard⟩).run P w = .ok (.value (.slice (some ⟨w.heap.size,0,none⟩) n.toNat n.toNat)) (w.alloc (.cells (Array.replicate n.toNat v) E)) by simp[execOp,en,em,hr1]]
     rw[ac]at hG;exact hN _ hx _ _ _ hG
    ·cases h
   ·cases h
  ·cases h
 ·rename_i src dst y t e1 e2;simp only at e1 e2;subst e1 e2;split at h
  ·rename_i E hs hd;split at h
   ·rename_i b he hy;cases hb:az (s.nx+32*t) s.hp&&Nat.blt t s.n<;>rw[hb]at h<;>simp only[qT,qF,reduceCtorEq,qI]at h
    simp only[qA]at hb;subst h;cases hdd:decide (b.length<=4294967296)<;>rw[hdd]at hx<;>simp only[qT,qF,reduceCtorEq]at hx
    have hbl:=of_decide_eq_true hdd;have hev:a.eval y = .string ⟨b.toArray⟩:=bi hr hy;have hrf:Conv.runesFrom (⟨b.toArray⟩:ByteArray) (⟨b.toArray⟩:ByteArray).size 0 #[]=((gg b).map (Value.int .i32)).toArray:=by
     rw[zk9,iv];simp[gg]
    have hlr:(gg b).length<=b.length:=zlb b _ _;have hrun:=run_runes_of_string (P:=P) w src dst E (⟨b.toArray⟩:ByteArray) hs hd he (by rw[hrf];simp;omega)
    rw[hrf]at hrun;simp only[List.size_toArray,wC]at hrun;have hcap:(gg b).length<=grownCap w (gg b).length 0 E:=grownCap_ge _ _ _ _;have hcap2:grownCap w (gg b).length 0 E<=maxLen:=grownCap_le_maxLen _ _ _ _ oT
    obtain⟨G',hG⟩:=qkj (τ := .int .i32) (l:=gg b) (E:=E) (ad:=some ⟨w.heap.size,0,none⟩) (c:=grownCap w (gg b).length 0 E) (us:=(gg b).map (Value.int .i32)) (w':=w.drew.alloc (.cells (((gg b).map (Value.int .i32)).toArray++Array.replicate (grownCap w (gg b).length 0 E-(gg b).length) (.int .i32 0)) E)) hr hb.1 (z3a _ _)
     ⟨by rw[wC];exact(Nat.mul_one _).symm,.inr ⟨w.heap.size,_,(0,0),rfl,qb w.drew _,.inl rfl,hcap,hcap2,by rw[show(Ty.int IntKind.i32).sz=1 from rfl,Nat.mul_one,Array.size_append,Array.size_replicate,List.size_toArray,wC];omega,by rw[show(Ty.int IntKind.i32).sz=1 from rfl,Nat.mul_one,Array.toList_append,show List.length (α:=(Ty.int IntKind.i32).den) (gg b)=((gg b).map (Value.int .i32)).length from(wC _).symm];exact List.take_left' rfl,fun u hu=>by
      simp only[Array.toList_append,wA,List.mem_map,Array.toList_replicate,List.mem_replicate]at hu;rcases hu with⟨c,_,rfl⟩|⟨_,rfl⟩<;>rfl⟩⟩ (zgc _ _) (fun b hb=>by injection hb with hb;simp at hb;omega)
     (s':={ s with fr:=(t,.own (s.nx+32*t))::s.fr,hp:=(s.nx+32*t,.row (.int .i32) (gg b) E)::s.hp }) mA
    refine er oB ?_
    unfold Oper.wp;rw[show(execOp a.eval ⟨some t,.convert src dst y,ty,pos,after,guard⟩).run P w = .ok (.value (.slice (some ⟨w.heap.size,0,none⟩) (gg b).length (grownCap w (gg b).length 0 E))) (w.drew.alloc (.cells (((gg b).map (Value.int .i32)).toArray++Array.replicate (grownCap w (gg b).length 0 E-(gg b).length) (.int .i32 0)) E)) by simp[execOp,hev,hrun]]
    exact hN _ hx _ _ _ hG
   ·cases h
  ·rename_i E hs hd;split at h
   ·rename_i v he hy;split at h
    ·rename_i l hl;cases ht:Nat.blt t s.n<;>rw[ht]at h<;>simp only[qT,qF,reduceCtorEq,qI]at h
     subst h;have hsrc:=zla hl;have hrun:(convert src dst (a.eval y)).run P w = .ok (.string ⟨(jg l).toArray⟩) w:=by
      rcases qkq hr (bi hr hy) hsrc with⟨b',rfl,_⟩|⟨ad,c,us,he1,h1,h2,h3⟩
      ·simp[qkn]at hl
      ·rw[he1];have hus:=q4q h1
       cases ad with
       |none=>
        have:l=[]:=by
         rcases h3 with h3|⟨_,_,h3,_⟩
         ·rw[hus]at h3;simpa using h3
         ·cases h3
        subst this;rw[run_convert_runes_nil w src dst E _ c hs he hd];rfl
       |some ad=>
        have hlc:=qet (P:=P) (w:=w) (ad:=ad) h3;have ac:us.length=l.length:=by rw[hus];simp
        rw[ac,hus]at hlc;rw[run_convert_runes_string w src dst E _ _ _ hs he hd,run_runesToString w ad l.length c l hlc,zk8]
     refine er oB ?_
     unfold Oper.wp;rw[show(execOp a.eval ⟨some t,.convert src dst y,ty,pos,after,guard⟩).run P w = .ok (.value (.string ⟨(jg l).toArray⟩)) w by simp[execOp,hrun]]
     exact hN _ hx _ _ _ (gm (v := .str (jg l)) hr (by simp only[St.add,ht,qT,List.nil_append]) rfl)
    ·cases h
   ·cases h
  ·cases h
 ·rename_i T y lo hi mx t e1 e2;simp only at e1 e2;subst e1 e2;split at h
  ·rename_i E hu;split at h
   ·rename_i sz lo' kb b kc c τ l hsz hlo hhi hmx hy;cases hb:Nat.beq τ.sz sz&&Nat.blt t s.n<;>rw[hb]at h<;>simp only[qT,qF,reduceCtorEq,qI]at h
    simp only[qA]at hb;subst h;cases hdd:decide (0<=lo'.getD 0/\lo'.getD 0<=b/\b<=c/\c<=(l.length:Int))<;>rw[hdd]at hx<;>simp only[qT,qF,reduceCtorEq]at hx
    obtain⟨g0,g1,g2,g3⟩:=of_decide_eq_true hdd;have hq:=qN hb.1;subst hq;obtain⟨ad,cp,hv,hc,hl⟩:=bi hr hy;have eb:a.eval hi = .int kb b:=jq hr hhi;have ec:a.eval mx = .int kc c:=jq hr hmx;have hbounds:(Instr.sliceBounds true l.length cp (lo.map a.eval) (some (a.eval hi)) (some (a.eval mx))).run P w = .ok ((lo'.getD 0).toNat,b.toNat,c.toNat) w:=by
     rcases p8 hr hlo with⟨rfl,rfl⟩|⟨xo,kx,m,rfl,rfl,hxo⟩
     ·simp[Instr.sliceBounds,eb,ec,qp (P:=P) (w:=w) (show 0<=c by omega) (show c<=(cp:Int) by omega),qp (P:=P) (w:=w) (show 0<=b by omega) (show b<=(c.toNat:Int) by omega)]
     ·simp only[Option.getD_some]at g0 g1;simp[Instr.sliceBounds,eb,ec,hxo,qp (P:=P) (w:=w) (show 0<=c by omega) (show c<=(cp:Int) by omega),qp (P:=P) (w:=w) (show 0<=b by omega) (show b<=(c.toNat:Int) by omega),qp (P:=P) (w:=w) g0 (show m<=(b.toNat:Int) by omega)]
    generalize lo'.getD 0=i0 at *
    have hrun:(Instr.sliceAt T (a.eval y) (lo.map a.eval) (some (a.eval hi)) (some (a.eval mx))).run P w = .ok (.slice (if c.toNat=i0.toNat then ad else ad.map (·.add (i0.toNat*τ.sz))) (b.toNat-i0.toNat) (c.toNat-i0.toNat)) w:=by
     simp[Instr.sliceAt,Instr.slice,bh hu,hv,hbounds,gw hsz]
    refine er oB ?_
    unfold Oper.wp
    rw[show(execOp a.eval ⟨some t,.slice T y lo (some hi) (some mx),ty,pos,after,guard⟩).run P w = .ok (.value (.slice (if c.toNat=i0.toNat then ad else ad.map (·.add (i0.toNat*τ.sz))) (b.toNat-i0.toNat) (c.toNat-i0.toNat))) w by simp[execOp,hrun]]
    refine hN _ hx _ _ _ (gm (v := .sl τ ((l.drop i0.toNat).take (b.toNat-i0.toNat))) hr (by simp[St.add,hb.2,qT,List.nil_append]) ?_)
    have ac:((l.drop i0.toNat).take (b.toNat-i0.toNat)).length=b.toNat-i0.toNat:=by simp;omega
    refine⟨_,_,by rw[ac],by rw[ac];omega,?_⟩
    rcases hl with rfl|⟨B,o,rfl,hcells⟩
    ·exact .inl oB
    ·by_cases hci:c.toNat=i0.toNat
     ·exact .inl (List.eq_nil_of_length_eq_zero (by rw[ac];omega))
     ·refine .inr ⟨B,o+i0.toNat*τ.sz,by rw[qW hci];simp[l8],fun k y hy => ?_⟩
      rw[List.getElem?_take]at hy;split at hy
      ·rw[List.getElem?_drop]at hy;have:=hcells _ _ hy
       rwa [show o+i0.toNat*τ.sz+k*τ.sz=o+(i0.toNat+k)*τ.sz by rw[Nat.add_mul];omega]
      ·cases hy
   ·cases h
  ·cases h
 ·cases h
end
def zle(P:Program)(T:TypeId):Bool:=match P.underlying T with
 |some (.struct fs)=>match fs.toList with
  |[f,g]=>match P.underlying f.type,P.underlying g.type with|some (.pointer T'),some (.slice _)=>Nat.beq T' T|_,_=>false
  |_=>false
 |_=>false
def qqn:AV->Bool|.val (.pointer none)=>true|_=>false
def zi3(n:Nat):List AV->List AV|[]=>[]|x::cs=>(bif qqn x then .pn n else x)::cs
def q41(P:Program)(s:St)(o:Oper):Option St:=
 match o.op,o.dst with
 | .alloc T,some t=>bif zle P T then(match pm P s .none o with
  |some ([],s1)=>match af s1.hp (s.nx+32*t) with|some (.cells cs T')=>some { s1 with hp:=(s.nx+32*t,.cells (zi3 (s.nx+32*t) cs) T')::s1.hp }|_=>none
  | _=>none) else none
 |_,_=>none
section
variable{P:Program}{vif:World}{vh8:Gh}{vic:List (Nat×ag)}{G:Gh}{s:St}{a:Act}{w:World}
def ai.rebox{n:Nat}{bx bx':ag}(hr:ai vif vh8 vic G s a w)(h:af s.hp n=some bx)(hat:G.at n bx'=G.at n bx)(hok:c7 G w n bx') :
  ai vif vh8 vic G { s with hp:=(n,bx')::s.hp } a w:=by
 have key:∀m b,af ((n,bx')::s.hp) m=some b->(m=n/\b=bx')\/af s.hp m=some b:=fun m b hh=>by
  simp[af]at hh;cases hb:Nat.beq n m
  ·rw[hb]at hh;exact .inr hh
  ·rw[hb]at hh;simp at hh;exact .inl ⟨(qN hb).symm,hh.symm⟩
 have old:∀m b,af ((n,bx')::s.hp) m=some b->∃b0,af s.hp m=some b0/\G.at m b0=G.at m b:=fun m b hh=>by
  rcases key m b hh with⟨rfl,rfl⟩|h1
  ·exact⟨bx,h,hat.symm⟩
  ·exact⟨b,h1,rfl⟩
 refine⟨hr.defers,hr.size,hr.frame,fun m hm hl=>hr.fresh m hm ?_,⟨⟨hr.fin.mem.agree,hr.fin.mem.one,fun m b hh => ?_,fun m m' b b' c h1 h2 h3 h4 => ?_,hr.fin.mem.tab⟩,hr.fin.bel,hr.fin.imm_le,hr.fin.imm_new,fun m b c h1 h2 => ?_,hr.fin.keep,hr.fin.keepOwn⟩⟩
 ·simp[af]at hl;cases hb:Nat.beq n m
  ·rw[hb]at hl;exact hl
  ·rw[hb]at hl;cases hl
 ·rcases key m b hh with⟨rfl,rfl⟩|h1
  ·exact hok
  ·exact hr.fin.mem.holds m b h1
 ·obtain⟨c1,k1,e1⟩:=old m b h1;obtain⟨c2,k2,e2⟩:=old m' b' h2;exact hr.fin.mem.apart m m' c1 c2 c k1 k2 (e1.trans h3) (e2.trans h4)
 ·obtain⟨c1,k1,e1⟩:=old m b h1;exact hr.fin.base m c1 c k1 (e1.trans h2)
def zxh{x:AV}(h:qqn x=true):x = .val (.pointer none):=by
 unfold qqn at h;split at h
 ·rfl
 ·cases h
def z1u{n B:Nat}(hB:G.box n=some B):∀{cs:List AV}{vs:List Value},ak cs G vs->ak (zi3 n cs) G vs
 |[],[],_=>trivial|x::cs,v::vs,⟨h1,h2⟩=>by
  refine⟨?_,h2⟩;cases hb:qqn x
  ·exact h1
  ·have:=zxh hb;subst this;exact⟨B,hB,.inl h1⟩
 |[],_::_,h=>h.elim|_::_,[],h=>h.elim
def z2l(hr:ai vif vh8 vic G s a w){o:Oper}{s':St}(h:q41 P s o=some s'){N:Act->World->Prop}(hN:∀G' a' w',ai vif vh8 vic G' s' a' w'->N a' w'):fg P o a w N:=by
 unfold q41 at h;split at h
 ·rename_i T t _ _;cases hs:zle P T<;>rw[hs]at h<;>simp at h
  split at h
  ·rename_i s1 ha;split at h
   ·rename_i cs T' hl;simp at h;subst h;refine qow hr ha trivial fun G' a' w' hr'=>hN G' a' w' ?_
    obtain⟨B,vs,h1,h2,h3,h4,h5⟩:=hr'.fin.mem.holds _ _ hl;exact hr'.rebox hl rfl ⟨B,vs,h1,h2,z1u h1 h3,h4,h5⟩
   ·cases h
  ·cases h
 ·cases h
end
def q2v:Operand->Bool|.const .nilIface=>true|_=>false
def qpm(P:Program)(s:St)(t:TypeId)(x y:Operand):Option Bool:=
 match P.underlying t with
 | some (.interface _)=>bif q2v y then(match s.ev x with
  |some (.val .nilIface)=>some true|some (.iface _ _)=>some false| _=>none) else none
 |_=>none
def zhs(P:Program)(T:TypeId):Bool:=match P.underlying T with
 |some (.array _ E)=>match P.underlying E with|some .string=>true|some (.struct _)=>true|_=>false
 |_=>false
def q1e(P:Program)(s:St)(o:Oper):Option St:=
 match o.op,o.dst with
 | .binOp op t x y _,some tt=>bif Nat.blt tt s.n then(match op with
  |.eql=>match qpm P s t x y with|some b=>some { s with fr:=(tt,.val (.bool b))::s.fr }|none=>none
  |.neq=>match qpm P s t x y with|some b=>some { s with fr:=(tt,.val (.bool (!b)))::s.fr }|none=>none
  | _=>none) else none
 | .store T (.tmp t) _,none=>bif zhs P T&&Nat.blt t s.n then(match af s.fr t with
  |some (.ptr b 0)=>match pm P s .none o with
   |some ([],s1)=>match af s1.hp b,af s1.fr t with|some (.cells cs _),some (.ptr b' 0)=>bif Nat.beq b' b&&Nat.blt t s1.n then(bif allData (cs.map AV.sym) then some { s1 with fr:=(t,.rop (cs.map AV.sym))::s1.fr,hp:=(b,.dead)::s1.hp } else none) else none|_,_=>none
   |_=>none
  | _=>none) else none
 |_,_=>none
section
variable{P:Program}{vif:World}{vh8:Gh}{vic:List (Nat×ag)}{G:Gh}{s:St}{a:Act}{w:World}
def ai.ropBox(hr:ai vif vh8 vic G s a w){b t:Nat}{cs:List AV}{T:TypeId}(hb:af s.hp b=some (.cells cs T))(hd:allData (cs.map AV.sym)=true)(ht:af s.fr t=some (.ptr b 0)) :
  ∃G',ai vif vh8 vic G' { s with fr:=(t,.rop (cs.map AV.sym))::s.fr,hp:=(b,.dead)::s.hp } a w:=by
 obtain⟨B,vs,h1,h2,h3,h4,h5⟩:=hr.fin.mem.holds _ _ hb
 let G':Gh:={ imm:=fun c o=>if c=B then vs[o]? else G.imm c o,box:=G.box,own:=G.own }
 have hi:∀c o v,G.imm c o=some v->G'.imm c o=some v:=fun c o v h=>by
  show(if c=B then vs[o]? else G.imm c o)=some v
  split
  ·rename_i e;subst e;rw[h5]at h;cases h
  ·exact h
 have hB:∀o,G'.imm B o=vs[o]? := fun o=>qX rfl
 have hne:∀c,c≠B->∀o,G'.imm c o=G.imm c o:=fun c h o=>qW h
 have hle:G.le G':=⟨hi,fun _ _ h=>h,fun _ _ h=>h⟩
 have hat:∀n bx,G'.at n bx=G.at n bx:=fun n bx=>by cases bx<;>rfl
 have hatB:G.at b (.cells cs T)=some B:=h1;have hlook:∀n bx,af ((b,ag.dead)::s.hp) n=some bx->bx = .dead\/(n≠b/\af s.hp n=some bx):=fun n bx h=>by
  simp[af]at h;cases hq:Nat.beq b n
  ·rw[hq]at h;exact .inr ⟨fun e=>by subst e;simp at hq,h⟩
  ·rw[hq]at h;simp at h;exact .inl h.symm
 have hother:∀n bx c,n≠b->af s.hp n=some bx->G.at n bx=some c->(∀o,G.imm c o=none)->∀o,G'.imm c o=none:=fun n bx c hn k1 k2 k3 o=>by
  by_cases e:c=B
  ·subst e;exact absurd (hr.fin.mem.apart n b bx _ _ k1 hb k2 hatB) hn
  ·rw[hne c e];exact k3 o
 have hcell:∀o v,vs[o]? = some v->w.cell? ⟨B,o,none⟩=some v:=fun o v h=>cell_of_heap h2 (by simpa using h)
 refine⟨G',⟨hr.defers,hr.size,fun i x hx => ?_,fun m hm hl => ?_,⟨⟨fun c o v h => ?_,fun c o v h => ?_,fun n bx hn => ?_,fun n m bx bx' c k1 k2 k3 k4 => ?_,LC.mono hi (fun _ _ _ _=>rfl) hr.fin.mem.tab⟩,hr.fin.bel,fun c o v h=>hi _ _ _ (hr.fin.imm_le c o v h),fun c o v h => ?_,fun n bx c k1 k2 => ?_,hr.fin.keep,hr.fin.keepOwn⟩⟩⟩
 ·simp[af]at hx;cases hq:Nat.beq t i
  ·rw[hq]at hx;obtain⟨v,k1,k2⟩:=hr.frame i x hx;exact⟨v,k1,k2.le hle⟩
  ·rw[hq]at hx;simp at hx;subst hx;have:=qN hq;subst this;obtain⟨v,k1,B',k2,k3⟩:=hr.frame t _ ht;rw[h1]at k2;injection k2 with k2;subst k2
   refine⟨v,k1,B,0,k3,q4l hi (q4o hd (qri h3)) fun i u hu => ?_⟩
   rw[wO,hB];simpa using hu
 ·refine hr.fresh m hm ?_;simp[af]at hl;cases hq:Nat.beq b m
  ·rw[hq]at hl;exact hl
  ·rw[hq]at hl;cases hl
 ·by_cases e:c=B
  ·subst e;rw[hB]at h;exact hcell o v h
  ·rw[hne c e]at h;exact hr.fin.mem.agree c o v h
 ·by_cases e:c=B
  ·subst e;rw[hB]at h;exact h4 v (by obtain⟨k,e⟩:=Array.getElem?_eq_some_iff.1 h;rw[← e];simp)
  ·rw[hne c e]at h;exact hr.fin.mem.one c o v h
 ·rcases hlook n bx hn with rfl|⟨hnb,k0⟩
  ·trivial
  ·have hb0:=hr.fin.mem.holds n bx k0;have ho:=hother n bx
   cases bx with
   |cells cs T=>
    obtain⟨C,vs,q1,q2,q3,q4,q5⟩:=hb0;exact⟨C,vs,q1,q2,q3.le hle,q4,ho C hnb k0 (by simp[Gh.at,q1]) q5⟩
   |loop st pe f j fr ps tag D=>
    obtain⟨C,tmps,DB,q1,q2,q3,q4,q5,q6⟩:=hb0;exact⟨C,tmps,DB,q1,q2,q3,q4,fun i x hx=>by obtain⟨v,r1,r2⟩:=q5 i x hx;exact⟨v,r1,r2.le hle⟩,ho C hnb k0 (by simp[Gh.at,q1]) q6⟩
   |dfr=>
    obtain⟨C,q1,q2,q3⟩:=hb0;exact⟨C,q1,q2,ho C hnb k0 (by simp[Gh.at,q1]) q3⟩
   |it s0 p0=>
    obtain⟨C,q1,q2,q3⟩:=hb0;exact⟨C,q1,q2,ho C hnb k0 (by simp[Gh.at,q1]) q3⟩
   |row τ1 l1 E1=>
    obtain⟨ad,c,q1,q3⟩:=hb0;refine⟨ad,c,q1,?_⟩;rcases q3 with q3|⟨g,vs,fz,r1,r2,r3,r4,r5,r6,r7,r8,r9⟩
    ·exact .inl q3
    ·exact .inr ⟨g,vs,fz,r1,r2,r3,r4,r5,r6,ak.data_le hi r7,r8,ho g hnb k0 (by subst r1;simp[Gh.at,q1]) r9⟩
   |dead=>trivial
 ·rcases hlook n bx k1 with rfl|⟨hn,j1⟩
  ·cases k3
  ·rcases hlook m bx' k2 with rfl|⟨hm,j2⟩
   ·cases k4
   ·rw[hat]at k3 k4;exact hr.fin.mem.apart n m bx bx' c j1 j2 k3 k4
 ·by_cases e:c=B
  ·subst e;exact .inr (hr.fin.base b _ _ hb hatB)
  ·rw[hne c e]at h;exact hr.fin.imm_new c o v h
 ·rcases hlook n bx k1 with rfl|⟨hn,j1⟩
  ·cases k2
  ·rw[hat]at k2;exact hr.fin.base n bx c j1 k2
def zfj{t:TypeId}{x y:Operand}{p:String}{b:Bool}(hx:∀v,s.ev x=some v->aj v G (a.eval x))(h:qpm P s t x y=some b) :
  (∀q:Unit,(do eqGuard .eql t x y (a.eval x) (a.eval y);binOp .eql t (a.eval x) (a.eval y):Sem Value).run P w = .ok (.bool b) w) /\
  (do eqGuard .neq t x y (a.eval x) (a.eval y);binOp .neq t (a.eval x) (a.eval y):Sem Value).run P w = .ok (.bool (!b)) w:=by
 unfold qpm at h;split at h
 ·rename_i ms hu;cases hy:q2v y<;>rw[hy]at h<;>simp at h
  have hy:y = .const .nilIface:=by
   unfold q2v at hy;split at hy
   ·rfl
   ·cases hy
  subst hy;have hye:a.eval (.const .nilIface) = .nilIface:=rfl;have q1:∀d,(Op.equalIn (d+1) t .nilIface .nilIface).run P w = .ok true w:=fun d=>by simp[Op.equalIn,bh hu]
  have q2:∀d t' v,(Op.equalIn (d+1) t (.iface t' v) .nilIface).run P w = .ok false w:=fun d t' v=>by simp[Op.equalIn,bh hu]
  have eq1:(Op.equal t .nilIface .nilIface).run P w = .ok true w:=q1 9999;have eq2:∀t' v,(Op.equal t (.iface t' v) .nilIface).run P w = .ok false w:=q2 9999;split at h
  ·rename_i e;simp at h;subst h;have:=hx _ e;simp[aj]at this;rw[this,hye];constructor<;>simp[eqGuard,binOp,eq1]
  ·rename_i e;simp at h;subst h;obtain⟨u,hu2,_⟩:=hx _ e;rw[hu2,hye];constructor<;>simp[eqGuard,binOp,eq2]
  ·cases h
 ·cases h
def zuq(hr:ai vif vh8 vic G s a w){o:Oper}{s':St}(h:q1e P s o=some s'){N:Act->World->Prop}(hN:∀G' a' w',ai vif vh8 vic G' s' a' w'->N a' w'):fg P o a w N:=by
 obtain⟨dst,op,ty,pos,after,guard⟩:=o;unfold q1e at h;split at h
 ·rename_i op t x y p tt e1 e2;simp only at e1 e2;subst e1 e2;cases hb:Nat.blt tt s.n<;>rw[hb]at h<;>simp only[qT,qF,reduceCtorEq]at h
  have go:∀(q:Bool),(do eqGuard op t x y (a.eval x) (a.eval y);binOp op t (a.eval x) (a.eval y):Sem Value).run P w = .ok (.bool q) w->s'={ s with fr:=(tt,.val (.bool q))::s.fr }->fg P ⟨some tt,.binOp op t x y p,ty,pos,after,guard⟩ a w N:=by
   intro q hq hs';subst hs';refine er oB ?_
   unfold Oper.wp;have hrun:(execOp a.eval ⟨some tt,.binOp op t x y p,ty,pos,after,guard⟩).run P w = .ok (.value (.bool q)) w:=by
    simp only[execOp,Sem.run_bind,hq,Result.andThen_ok];rfl
   rw[hrun];exact hN G _ _ (gm (v := .val (.bool q)) hr (by simp[St.add,hb,qT,List.nil_append]) rfl)
  split at h
  ·split at h
   ·rename_i b hc;simp at h;exact go b ((zfj (p := "") (fun v hv => bi hr hv) hc).1 ()) h.symm
   ·cases h
  ·split at h
   ·rename_i b hc;simp at h;exact go (!b) (zfj (p := "") (fun v hv => bi hr hv) hc).2 h.symm
   ·cases h
  ·cases h
 ·rename_i T t y e1 e2;simp only at e1 e2;subst e1 e2;cases hb:zhs P T&&Nat.blt t s.n<;>rw[hb]at h<;>simp at h
  split at h
  ·rename_i b _;split at h
   ·rename_i s1 ha;split at h
    ·rename_i cs T' b' hl ht;cases hq:Nat.beq b' b&&Nat.blt t s1.n<;>rw[hq]at h<;>simp at h
     simp only[qA]at hq;have:=qN hq.1;subst this;cases hs:allData (cs.map AV.sym)<;>rw[hs]at h<;>simp at h
     subst h;refine qow hr ha trivial fun G' a' w' hr' => ?_
     obtain⟨G2,hr2⟩:=hr'.ropBox hl hs ht;exact hN _ _ _ hr2
    ·cases h
   ·cases h
  ·cases h
 ·cases h
end
end Go.Sym
namespace Go.Sym
open Go.RowKit
variable{TT:List PanicEntry->Act->World->Prop}[LC]
structure Md:Type where
 f:List (Nat×AV)
 h:List (Nat×ag)
def St.addM(s:St)(m:Md):St:={ s with fr:=m.f++s.fr,hp:=m.h++s.hp }
def qjs(K:List Nat):List (Nat×ag)->List (Nat×ag)|[]=>[]|(n,b)::r=>bif bn K n then qjs K r else(n,b)::qjs K r
def St.hide(s:St)(K:List Nat):St:={ s with hp:=qjs K s.hp }
def q3e{K:List Nat}:∀{l:List (Nat×ag)}{n:Nat}{b:ag},af (qjs K l) n=some b->af l n=some b/\n∉K
 |[],n,b,h=>by cases h
 |(k,v)::r,n,b,h=>by
  simp[qjs]at h;cases hm:bn K k<;>rw[hm]at h<;>simp at h
  ·simp[af]at h ⊢;cases hb:Nat.beq k n<;>rw[hb]at h<;>simp at h ⊢
   ·exact q3e h
   ·refine⟨h,fun hn => ?_⟩
    rw[← qN hb]at hn;rw[fe.2 hn]at hm;cases hm
  ·obtain⟨h1,h2⟩:=q3e h;refine⟨?_,h2⟩;simp[af];cases hb:Nat.beq k n
   ·exact h1
   ·exfalso;apply h2;rw[← qN hb];exact fe.1 hm
def vl(s:St)(q:Prop)(ys:List AV)(names:List (Nat×Nat))(xs:List AV)(hp:List (Nat×ag))(r:AV)(hp':List (Nat×ag))(t:Nat):Option (List Prop×Md):=
 bif dr names&&og names&&az (s.nx+32*t) s.hp&&Nat.blt t s.n then
  match gy (aw names) s.hp names,bp false [] (AV.rens (aw names) ys) xs with
  |some hpv,some ps1=>match jj hpv hp with|some ps2=>some (q::(ps1++ps2),⟨[(t,r.ren (ma names hp' (s.nx+32*t)))],mb (ma names hp' (s.nx+32*t)) hp'++nf names⟩)|none=>none
  |_,_=>none
 else none
def zir{s:St}{q:Prop}{ys:List AV}{names:List (Nat×Nat)}{xs:List AV}{hp:List (Nat×ag)}{r:AV}{hp':List (Nat×ag)}{t:Nat}{ps:List Prop}{m:Md}(h:vl s q ys names xs hp r hp' t=some (ps,m)):qi s q ys names xs hp r hp' t=some (ps,s.addM m):=by
 unfold vl at h;unfold qi;cases hc:dr names&&og names&&az (s.nx+32*t) s.hp&&Nat.blt t s.n<;>rw[hc]at h<;>simp only[qT,qF,reduceCtorEq]at h ⊢
 split at h
 ·rename_i hpv ps1 h1 h2;split at h
  ·rename_i ps2 h3;simp only[qI,qP]at h;obtain⟨rfl,rfl⟩:=h;rw[h1,h2];simp[h3,St.addM,wM,qS]
  ·cases h
 ·cases h
def q5o{ρ:Nat->Option Nat}{hp hp':List (Nat×ag)}(hhp:∀n b,af hp n=some b->af hp' n=some b):∀{l:List (Nat×Nat)}{r:List (Nat×ag)},gy ρ hp l=some r->gy ρ hp' l=some r
 |[],_,h=>h|(m,n)::l,r,h=>by
  simp[gy]at h ⊢;split at h
  ·rename_i b l' h1 h2;rw[hhp _ _ h1,q5o hhp h2];exact h
  ·cases h
def zis{t s:St}{q:Prop}{ys:List AV}{names:List (Nat×Nat)}{xs:List AV}{hp:List (Nat×ag)}{r:AV}{hp':List (Nat×ag)}{tt:Nat}{R:List Prop×Md}(hhp:∀n b,af t.hp n=some b->af s.hp n=some b)(hroom:az (s.nx+32*tt) s.hp=true)(hnx:t.nx=s.nx)(hn:t.n=s.n)
  (h:vl t q ys names xs hp r hp' tt=some R):vl s q ys names xs hp r hp' tt=some R:=by
 unfold vl at h ⊢;cases hc:dr names&&og names&&az (t.nx+32*tt) t.hp&&Nat.blt tt t.n<;>rw[hc]at h<;>simp at h
 simp only[qA]at hc;rw[hroom,← hn,hc.1.1.1,hc.1.1.2,hc.2,← hnx];split at h
 ·rename_i hpv ps1 h1 h2;rw[q5o hhp h1,h2];exact h
 ·cases h
def qbh(P:Program)(t:St)(d:D)(o:Oper):Option (List Prop×Md):=
 match o.op,o.dst with
 |.store T x y,none=>match t.ev x,t.ev y,eg P T with
  |some (.ptr b off),some v,some n=>match af t.hp b with|some (.cells cs T')=>bif Nat.beq v.cells.length n&&AV.ones v.cells&&Nat.ble (off+n) cs.length then some ([],⟨[],[(b,.cells (fl cs off v.cells) T')]⟩) else none|_=>none
  |_,_,_=>none
 |.call { callee := .builtin .append,args,argTypes },some tt=>match args.toList,argTypes.toList with
  |[x,y],[ty,ty2]=>match t.ev x,t.ev y with
   |some (.own k),some v=>match af t.hp k with
    |some (.row τ0 l0 E0)=>match oa P t d ty ty2 (l0.flatMap τ0.enc) l0.length v with|some (ps,.row τ l E)=>bif az (t.nx+32*tt) t.hp&&Nat.beq τ.sz τ0.sz&&Nat.beq E E0&&Nat.blt tt t.n then some (ps,⟨[(tt,.own (t.nx+32*tt))],[(t.nx+32*tt,.row τ l E),(k,.dead)]⟩) else none|_=>none
    |_=>none
   |_,_=>none
  |_,_=>none
 |.call { callee := .value g,args,argTypes:=_ },some tt=>match t.ev g,t.evs args.toList,d with|some (.fn (.func f) [] cap),some ys,.mem names xs hp r hp'=>vl t (ki P f/\ce P f xs hp r hp') (ys++cap) names xs hp r hp' tt|_,_,_=>none
 |_,_=>none
def ziz{P:Program}{t:St}{d:D}{o:Oper}{ps:List Prop}{m:Md}(h:qbh P t d o=some (ps,m)):pm P t d o=some (ps,t.addM m):=by
 obtain⟨dst,op,ty,pos,after,guard⟩:=o;unfold qbh at h;split at h
 ·rename_i T x y ho hd;simp only at ho hd;subst ho hd;split at h
  ·rename_i b off v n hx hy hn;split at h
   ·rename_i cs T' hb;cases hc:Nat.beq v.cells.length n&&AV.ones v.cells&&Nat.ble (off+n) cs.length<;>rw[hc]at h<;>simp at h
    obtain⟨rfl,rfl⟩:=h;unfold pm;rw[show fj P t d ⟨none,.store T x y,ty,pos,after,guard⟩=none from rfl]
    simp[po,hx,hy,hn,hb,hc,qT];rfl
   ·cases h
  ·cases h
 ·rename_i args argTypes tt ho hd;simp only at ho hd;subst ho hd;split at h
  ·rename_i x y t1 t2 ha ht;split at h
   ·rename_i k v hx hy;split at h
    ·rename_i τ0 l0 E0 hk;split at h
     ·rename_i ps' τ l E hap;cases hc:az (t.nx+32*tt) t.hp&&Nat.beq τ.sz τ0.sz&&Nat.beq E E0&&Nat.blt tt t.n<;>rw[hc]at h<;>simp at h
      obtain⟨rfl,rfl⟩:=h;have hadd:fj P t d ⟨some tt,.call { callee := .builtin .append,args:=args,argTypes:=argTypes },ty,pos,after,guard⟩=none:=by
       simp[fj,di,ja,ha,ht,hx,hy]
      unfold pm;rw[hadd];simp[po,ha,ht,hx,hy,hk,hap,hc,qT];rfl
     ·cases h
    ·cases h
   ·cases h
  ·cases h
 ·rename_i g args argTypes tt ho hd;simp only at ho hd;subst ho hd;split at h
  ·rename_i f cap ys names xs hp r hp' hg hys;have hadd:fj P t (.mem names xs hp r hp') ⟨some tt,.call { callee := .value g,args:=args,argTypes:=argTypes },ty,pos,after,guard⟩=none:=by
    simp[fj,di,ja,hg,hys]
   unfold pm;rw[hadd];simp[po,hg,hys];exact zir h
  ·cases h
 ·cases h
def zyk{P:Program}{t st:St}{d:D}{o:Oper}{R:List Prop×Md}(hs:ph o t st)(hn:t.n=st.n)(h:qbh P t d o=some R):qbh P st d o=some R:=by
 obtain⟨dst,op,ty,pos,after,guard⟩:=o;have hev:=hs.ev;have hhp:=hs.hp;have hroom:=hs.room;have hnx:=hs.nx;simp only at hev hroom;unfold qbh at h ⊢;split at h
 ·rename_i T x y ho hd;simp only at ho hd;subst ho hd;rw[hev x oF,hev y oF]at h
  split at h
  ·rename_i b off v n hx hy hn;split at h
   ·rename_i cs T' hb;simp[hhp _ _ hb];exact h
   ·cases h
  ·cases h
 ·rename_i args argTypes tt ho hd;simp only at ho hd;subst ho hd;have hm:∀z∈args.toList,t.ev z=st.ev z:=fun z hz=>hev z (by simp[Op.operands,Call.operands];simpa using hz)
  split at h
  ·rename_i x y t1 t2 ha ht;rw[hm x (by rw[ha];simp),hm y (by rw[ha];simp)]at h
   split at h
   ·rename_i k v hx hy;split at h
    ·rename_i τ0 l0 E0 hk;simp[hhp _ _ hk];split at h
     ·rename_i ps' τ l E hap;simp[zdm hhp hap];cases hc:az (t.nx+32*tt) t.hp&&Nat.beq τ.sz τ0.sz&&Nat.beq E E0&&Nat.blt tt t.n<;>rw[hc]at h<;>simp only[qT,qF,reduceCtorEq]at h
      simp only[qA]at hc;rw[hroom tt rfl,← hn,hc.1.1.2,hc.1.2,hc.2,← hnx];exact h
     ·cases h
    ·cases h
   ·cases h
  ·cases h
 ·rename_i g args argTypes tt ho hd;simp only at ho hd;subst ho hd;have h1:t.ev g=st.ev g:=hev g oX
  have h2:t.evs args.toList=st.evs args.toList:=qed (fun x hx=>hev x (by simp[Op.operands,Call.operands];exact .inr (by simpa using hx)))
  rw[h1,h2]at h;split at h
  ·exact zis hhp (hroom tt rfl) hnx hn h
  ·cases h
 ·cases h
def gp{β:Type}(A:Nat->List (Nat×β)):List Nat->List (Nat×β)->List (Nat×β)|[],b=>b|i::L,b=>A i++gp A L b
def qqv{β:Type}(l r:List (Nat×β))(n:Nat):af (l++r) n=match af l n with|some b=>some b|none=>af r n:=by
 induction l with
 |nil=>rfl|cons x l ih=>
  obtain⟨k,v⟩:=x;simp[wK,af];cases Nat.beq k n<;>simp[ih]
def oy{β:Type}:∀{l:List (Nat×β)}{m:Nat},af l m≠none->∃e∈l,e.1=m
 |[],m,h=>absurd rfl h|(k,v)::r,m,h=>by
  simp[af]at h;cases hb:Nat.beq k m
  ·rw[hb]at h;obtain⟨e,h1,h2⟩:=oy h;exact⟨e,qE _ h1,h2⟩
  ·exact⟨(k,v),qH,qN hb⟩
def zfc{β:Type}(A:Nat->List (Nat×β)):∀(L M:List Nat)(b:List (Nat×β)),gp A (L++M) b=gp A L (gp A M b)|[],M,b=>rfl|i::L,M,b=>by simp[wK,gp,zfc A L M b]
def qd5{β:Type}{A:Nat->List (Nat×β)}{x:Nat}{b:List (Nat×β)}:∀{L:List Nat},(∀j∈L,af (A j) x=none)->af (gp A L b) x=af b x
 |[],_=>rfl|i::L,h=>by
  simp[gp];rw[qqv,h i qH];exact qd5 (fun j hj=>h j (qE _ hj))
def ziu{β:Type}{A:Nat->List (Nat×β)}{b:List (Nat×β)}:∀{L:List Nat}{e:Nat×β},e∈gp A L b->(∃j∈L,e∈A j)\/e∈b
 |[],e,h => .inr h|i::L,e,h=>by
  rcases List.mem_append.1 h with h|h
  ·exact .inl ⟨i,qH,h⟩
  ·rcases ziu h with⟨j,h1,h2⟩|h
   ·exact .inl ⟨j,qE _ h1,h2⟩
   ·exact .inr h
def lz(pr:Nat->List Nat):List Nat->Prop|[]=>True|i::L=>i∉L/\(∀j∈pr i,j∈L)/\lz pr L
def lz.closed{pr:Nat->List Nat}:∀{L:List Nat},lz pr L->∀i∈L,∀j∈pr i,j∈L
 |[],_,i,hi,_,_=>by cases hi
 |k::L,h,i,hi,j,hj=>by
  rcases List.mem_cons.1 hi with rfl|hi
  ·exact qE _ (h.2.1 j hj)
  ·exact qE _ (h.2.2.closed i hi j hj)
def q07{β:Type}{A:Nat->List (Nat×β)}{x:Nat}{b:List (Nat×β)}{pr:Nat->List Nat}:∀{L:List Nat},lz pr L->(∀i∈L,∀j∈L,i<j->af (A i) x≠none->af (A j) x≠none->i∈pr j) ->
  ∀j∈L,af (A j) x≠none->(∀k∈L,af (A k) x≠none->k<=j)->af (gp A L b) x=af (A j) x
 |[],_,_,j,hj,_,_=>by cases hj
 |i::L,hg,hd,j,hj,hx,hm=>by
  simp[gp];rw[qqv]
  cases hq:af (A i) x with
  |some v=>
   have hij:i<=j:=hm i qH (by rw[hq];simp)
   rcases Nat.lt_or_eq_of_le hij with h|h
   ·exfalso;have hjL:j∈L:=by
     rcases List.mem_cons.1 hj with e|e
     ·omega
     ·exact e
    exact hg.1 (hg.2.2.closed j hjL i (hd i qH j hj h (by rw[hq];simp) hx))
   ·subst h;rw[hq]
  |none=>
   have hjL:j∈L:=by
    rcases List.mem_cons.1 hj with e|e
    ·subst e;exact absurd hq hx
    ·exact e
   exact q07 hg.2.2 (fun a ha c hc=>hd a (qE _ ha) c (qE _ hc)) j hjL hx (fun k hk=>hm k (qE _ hk))
def zgh(p:Nat->Prop):∀(L:List Nat),(∃j∈L,p j)->∃j∈L,p j/\∀k∈L,p k->k<=j
 |[],h=>by obtain⟨j,hj,_⟩:=h;cases hj
 |i::L,h=>by
  by_cases hL:∃j∈L,p j
  ·obtain⟨j,hj,pj,hm⟩:=zgh p L hL;by_cases hi:p i/\j<i
   ·exact⟨i,qH,hi.1,fun k hk pk=>by
     rcases List.mem_cons.1 hk with e|e
     ·omega
     ·have:=hm k e pk;omega⟩
   ·exact⟨j,qE _ hj,pj,fun k hk pk=>by
     rcases List.mem_cons.1 hk with e|e
     ·subst e;have:¬j<k:=fun h=>hi ⟨pk,h⟩
      omega
     ·exact hm k e pk⟩
  ·obtain⟨j,hj,pj⟩:=h;rcases List.mem_cons.1 hj with e|e
   ·subst e;exact⟨j,qH,pj,fun k hk pk=>by
     rcases List.mem_cons.1 hk with e|e
     ·omega
     ·exact absurd ⟨k,e,pk⟩ hL⟩
   ·exact absurd ⟨j,e,pj⟩ hL
def qpi{β:Type}{A:Nat->List (Nat×β)}{x:Nat}{b:List (Nat×β)}{pr:Nat->List Nat}{L L':List Nat}(hg:lz pr L)(hg':lz pr L')(hd:∀i j,(i∈L\/i∈L')->(j∈L\/j∈L')->i<j->af (A i) x≠none->af (A j) x≠none->i∈pr j)
  (hs:∀j,af (A j) x≠none->(j∈L↔j∈L')):af (gp A L b) x=af (gp A L' b) x:=by
 by_cases hex:∃j∈L,af (A j) x≠none
 ·obtain⟨j,hj,hx,hm⟩:=zgh (fun j=>af (A j) x≠none) L hex
  rw[q07 hg (fun i hi j hj=>hd i j (.inl hi) (.inl hj)) j hj hx hm,q07 hg' (fun i hi j hj=>hd i j (.inr hi) (.inr hj)) j ((hs j hx).1 hj) hx (fun k hk hk2=>hm k ((hs k hk2).2 hk) hk2)]
 ·have h1:∀j∈L,af (A j) x=none:=fun j hj=>by
   cases hq:af (A j) x with|none=>rfl|some v=>exact absurd ⟨j,hj,by rw[hq];simp⟩ hex
  have h2:∀j∈L',af (A j) x=none:=fun j hj=>by
   cases hq:af (A j) x with|none=>rfl|some v=>exact absurd ⟨j,(hs j (by rw[hq];simp)).2 hj,by rw[hq];simp⟩ hex
  rw[qd5 h1,qd5 h2]
def q2o{sel:List Nat}{pr:Nat->List Nat}:∀(m:Nat),(∀i,i<m->i∈sel->∀j∈pr i,j<i/\j∈sel)->lz pr (((List.range' 0 m).filter (bn sel)).reverse)
 |0,_=>trivial|m+1,h=>by
  have ih:=q2o m (fun i hi=>h i oA)
  rw[List.range'_1_concat,List.filter_append,List.reverse_append,wO];cases hm:bn sel m
  ·rw[List.filter_cons_of_neg (by simp[hm])];exact ih
  ·rw[List.filter_cons_of_pos hm];refine⟨fun hin => ?_,fun j hj => ?_,ih⟩
   ·have hin:m∈((List.range' 0 m).filter (bn sel)).reverse:=hin;simp only[List.mem_reverse,List.mem_filter,List.mem_range'_1]at hin;omega
   ·have:=h m oA (fe.1 hm) j hj
    show j∈((List.range' 0 m).filter (bn sel)).reverse;rw[List.mem_reverse,List.mem_filter,List.mem_range'_1,fe];exact⟨⟨oA,oA⟩,this.2⟩
def fw(Rs:List HR)(Ms:List (Nat×Md))(j:Nat):List (Nat×AV):=match af Ms j with
 |some md=>md.f|none=>match Rs[j]? with|some r=>[(r.dst,r.v)]|none=>[]
def f5(Rs:List HR)(Ms:List (Nat×Md))(j:Nat):List (Nat×ag):=match af Ms j with
 |some md=>md.h|none=>match Rs[j]? with|some r=>r.new|none=>[]
def ir(Rs:List HR)(j:Nat):List Nat:=match Rs[j]? with|some r=>r.pred|none=>[]
def g9(Rs:List HR)(Ms:List (Nat×Md))(L:List Nat)(s:St):St:={ s with fr:=gp (fw Rs Ms) L s.fr,hp:=gp (f5 Rs Ms) L s.hp }
def d9(Ms:List (Nat×Md))(sel:List Nat):List HR->Nat->St->St
 |[],_,t=>t| r::rs,j,t=>d9 Ms sel rs (j+1) (bif bn sel j then(match af Ms j with
  |some md=>t.addM md| none=>t.addR r) else t)
def qip{Rs:List HR}{Ms:List (Nat×Md)}{sel:List Nat}:∀(rs:List HR)(j:Nat)(t:St),(∀k,k<rs.length->Rs[j+k]? = rs[k]?)->d9 Ms sel rs j t=g9 Rs Ms (((List.range' j rs.length).filter (bn sel)).reverse) t
 |[],j,t,_=>rfl|r::rs,j,t,h=>by
  have h0:Rs[j]? = some r:=by simpa using h 0 oB
  rw[d9,qip rs (j+1) _ (fun k hk=>by have:=h (k+1) oD;rw[show j+1+k=j+(k+1) by omega,this];simp),qL,List.range'_succ]
  cases hm:bn sel j
  ·rw[List.filter_cons_of_neg (by simp[hm])];rfl
  ·rw[List.filter_cons_of_pos hm,List.reverse_cons];simp only[g9,zfc,gp,qT,fw,f5,h0];cases af Ms j<;>rfl
def io(Cs:List (Nat×List Nat×List Nat))(pred:List Nat)(i:Nat):List Nat:=match Cs with|[]=>[]|(m,K,Pm)::r=>bif Nat.beq m i||bn pred m||bn Pm i then io r pred i else K++io r pred i
def ziv{pred:List Nat}{i x:Nat}:∀{Cs:List (Nat×List Nat×List Nat)}{m:Nat}{K Pm:List Nat},(m,K,Pm)∈Cs->m≠i->m∉pred->i∉Pm->x∈K->x∈io Cs pred i
 |(m',K',P')::Cs,m,K,Pm,h,h1,h2,h3,h4=>by
  simp[io];rcases List.mem_cons.1 h with e|h
  ·simp at e;obtain⟨rfl,rfl,rfl⟩:=e;have hc:(Nat.beq m i||bn pred m||bn Pm i)=false:=by
    simp;refine⟨⟨?_,?_⟩,?_⟩
    ·cases hb:Nat.beq m i
     ·rfl
     ·exact absurd (qN hb) h1
    ·cases hb:bn pred m
     ·rfl
     ·exact absurd (fe.1 hb) h2
    ·cases hb:bn Pm i
     ·rfl
     ·exact absurd (fe.1 hb) h3
   rw[hc];exact List.mem_append.2 (.inl h4)
  ·have ih:=ziv h h1 h2 h3 h4;cases Nat.beq m' i||bn pred m' || bn P' i
   ·exact List.mem_append.2 (.inr ih)
   ·exact ih
def mg(lo k:Nat):Prop:=lo<=k/\k<lo+32
def qq9{Rs:List HR}:∀{es:List Edge}{l:List Nat},ml Rs es=some l->∀e∈es,Region.binds .any e=true->∀r,Rs[e.on]? = some r->∀j∈r.pred,j∈l
 |[],l,_,e,he,_,_,_,_,_=>by cases he
 |e0::es,l,h,e,he,hb,r,hr,j,hj=>by
  simp[ml]at h;cases hb0:Region.binds .any e0<;>rw[hb0]at h<;>simp at h
  ·rcases List.mem_cons.1 he with rfl|he
   ·rw[hb0]at hb;cases hb
   ·exact qq9 h e he hb r hr j hj
  ·split at h
   ·rename_i r' l' h1 h2;simp at h;subst h;rw[qj6];rcases List.mem_cons.1 he with rfl|he
    ·rw[hr]at h1;cases h1;exact .inl (qE _ hj)
    ·exact .inr (qq9 h2 e he hb r hr j hj)
   ·cases h
section
variable{P:Program}{vif:World}{vh8:Gh}{vic:List (Nat×ag)}{s:St}
structure n8(ops:Array Oper)(s:St)(Rs:List HR)(Ms:List (Nat×Md))(Cs:List (Nat×List Nat×List Nat))(i:Nat)(o:Oper)(r:HR):Prop where
 get:Rs[i]? = some r
 room:az (s.nx+32*r.dst) s.hp=true
 pred:ml (Rs.take i) o.after.toList=some r.pred
 fresh:ox r.dst (Rs.take i)=true
 reads:ql r.pred (jf ops o) (Rs.take i) 0=true
 writes:qx ops r.dst r.pred i=true
 f:∀e∈fw Rs Ms i,e.1=r.dst
 h:∀e∈f5 Rs Ms i,mg (s.nx+32*r.dst) e.1\/(af Ms i≠none/\(∃K Pm,(i,K,Pm)∈Cs/\e.1∈K/\∀j∈Pm,j∈r.pred)/\((∃b,af s.hp e.1=some b)\/∃c rc,c∈r.pred/\Rs[c]? = some rc/\mg (s.nx+32*rc.dst) e.1)/\∀j,j<i->af Ms j≠none->j∈r.pred)
def jy(s:St)(Rs:List HR)(Ms:List (Nat×Md))(Cs:List (Nat×List Nat×List Nat))(i:Nat)(r:HR):St:=(d9 Ms r.pred (Rs.take i) 0 s).hide (io Cs r.pred i)
def qlp(P:Program)(o:Oper)(t:St)(md:Md):Prop:=∀(st:St),ph o t st->t.n=st.n->∀(vif:World)(vh8:Gh)(vic:List (Nat×ag))(G:Gh)(a:Act)(w:World),ai vif vh8 vic G st a w->∀N:Act->World->Prop,(∀G' a' w',ai vif vh8 vic G' (st.addM md) a' w'->N a' w')->fg P o a w N
def zyj{P:Program}{t:St}{d:D}{o:Oper}{ps:List Prop}{md:Md}(h:qbh P t d o=some (ps,md))(hp:ar ps):qlp P o t md:=
 fun _ hs hn _ _ _ _ _ _ hr _ hN=>qow hr (ziz (zyk hs hn h)) hp hN
def qzs(P:Program)(TT:List PanicEntry->Act->World->Prop)(vif:World)(vh8:Gh)(vic:List (Nat×ag))(n:Nat)(s:St)(Rs:List HR)(Ms:List (Nat×Md))(Cs:List (Nat×List Nat×List Nat))(i:Nat)(o:Oper)(r:HR):Prop:=
 o.guard=none/\(∀t,o.dst=some t->t=r.dst/\t<s.n)/\∀L:List Nat,(∀j∈L,j<n)->ph o (jy s Rs Ms Cs i r) (g9 Rs Ms L s)->∀(G:Gh)(a:Act)(w:World),ai vif vh8 vic G (g9 Rs Ms L s) a w->∀N:Act->World->Prop,qr P TT o a w N
def StX(P:Program)(ops:Array Oper)(s:St)(Rs:List HR)(Ms:List (Nat×Md))(Cs:List (Nat×List Nat×List Nat))(i:Nat)(o:Oper)(r:HR):Prop:=
 (af Ms i=none/\o.dst=some r.dst/\r.dst<s.n/\∃ps,∃c:wi,ne P ops (jy s Rs Ms Cs i r) c o=some (ps,r.v,r.new)/\ar ps) \/
 (∃md,af Ms i=some md/\o.guard=none/\(∀t,o.dst=some t->t=r.dst/\t<s.n)/\qlp P o (jy s Rs Ms Cs i r) md)
def zhe{B:Nat->Prop}{ops:Array Oper}{n:Nat}{Rs:List HR}{Ms:List (Nat×Md)}{Cs:List (Nat×List Nat×List Nat)}{N:Act->World->Prop}(hn:n<=ops.size)(hed:lh ops.toList 0=true)(ac:Rs.length=n)
  (hbnd:∀(L:List Nat)(listed:Array Bool)(i:Nat)(o:Oper),uc ops n L listed->(∀j∈L,¬B j)->ops[i]? = some o->(∀e∈o.after,Region.binds .any e=true->e.on∈L)->(∃i0,i0<n/\i0∉L)->i<n)
  (hO:∀i o,i<n->ops[i]? = some o->∃r,n8 ops s Rs Ms Cs i o r/\((¬B i/\StX P ops s Rs Ms Cs i o r)\/(B i/\qzs P TT vif vh8 vic n s Rs Ms Cs i o r)))
  (htail:(∀i,i<n->¬B i)->∀(G:Gh)(a:Act)(w:World)(listed:Array Bool),ai vif vh8 vic G (d9 Ms (List.range n) Rs 0 s) a w->xc ops n listed->ko P TT ops N (ops.size-n) listed a w) :
  ∀(g:Nat)(L:List Nat)(listed:Array Bool)(G:Gh)(a:Act)(w:World),ops.size=g+L.length->uc ops n L listed->lz (ir Rs) L->(∀j∈L,¬B j)->ai vif vh8 vic G (g9 Rs Ms L s) a w->ko P TT ops N g listed a w:=by
 have hop:∀i,i<n->ops[i]? = some (ops[i]?.getD default):=fun i hi=>by
  have:i<ops.size:=oA
  simp[this]
 -- predecessors
 have hpreds:∀{L:List Nat},(∀i∈L,∀o,ops[i]? = some o->∀e∈o.after,Region.binds .any e=true->e.on∈L)->∀(i:Nat)(o:Oper)(r:HR),i<n->ops[i]? = some o->Rs[i]? = some r->(∀e∈o.after,Region.binds .any e=true->e.on∈L)->(∀j∈r.pred,j∈L/\j<i):=by
  intro L hcl i
  induction i using Nat.strongRecOn with
  |ind i ih=>
   intro o r hi ho hr hall j hj;obtain⟨r',ok,_⟩:=hO i o hi ho;have h1:=ok.get;rw[hr]at h1;injection h1 with h1;subst h1
   obtain⟨e,he,hb,hje⟩:=(qkd ok.pred).2 j hj;have hlt:=oh hed i o (by simpa using ho) e (by simpa using he) hb
   have hlt':e.on<i:=oA
   have heL:=hall e (by simpa using he) hb
   rcases hje with rfl|⟨re,hre,hje⟩
   ·exact⟨heL,hlt'⟩
   ·have hre':Rs[e.on]? = some re:=by rw[List.getElem?_take]at hre;rw[qX hlt']at hre;exact hre
    have hoe:ops[e.on]? = some ops[e.on]:=oB
    have:=ih e.on hlt' ops[e.on] re oA hoe hre' (hcl e.on heL _ hoe) j hje
    exact⟨this.1,oA⟩
 have hlt:∀(i:Nat)(r:HR),i<n->Rs[i]? = some r->∀j∈r.pred,j<i:=fun i r hi hr j hj=>by
  refine(hpreds (L:=List.range n) (fun k hk o ho e he hb => ?_) i _ r hi (hop i hi) hr (fun e he hb => ?_) j hj).2
  ·have:=oh hed k o (by simpa using ho) e (by simpa using he) hb
   have hk':=List.mem_range.1 hk;exact List.mem_range.2 oA
  ·have:=oh hed i _ (by simpa using hop i hi) e (by simpa using he) hb
   exact List.mem_range.2 oA
 have htrans:∀(i:Nat)(r:HR),i<n->Rs[i]? = some r->∀k∈r.pred,∀rk:HR,Rs[k]? = some rk->∀c∈rk.pred,c∈r.pred:=by
  intro i
  induction i using Nat.strongRecOn with
  |ind i ih=>
   intro r hi hr k hk rk hrk c hc;obtain⟨r',ok,_⟩:=hO i _ hi (hop i hi);have h1:=ok.get;rw[hr]at h1;injection h1 with h1;subst h1
   obtain⟨e,he,hb,hje⟩:=(qkd ok.pred).2 k hk;have hle:=oh hed i _ (by simpa using hop i hi) e (by simpa using he) hb
   have hle':e.on<i:=oA
   rcases hje with rfl|⟨re,hre,hje⟩
   ·exact qq9 ok.pred e he hb rk (by rw[List.getElem?_take,qX hle'];exact hrk) c hc
   ·have hre':Rs[e.on]? = some re:=by rw[List.getElem?_take,qX hle']at hre;exact hre
    exact qq9 ok.pred e he hb re hre c (ih e.on hle' re oA hre' k hje rk hrk c hc)
 have hdst:∀(i j:Nat)(r r':HR),i<n->j<n->Rs[i]? = some r->Rs[j]? = some r'->r.dst=r'.dst->i=j:=fun i j r r' hi hj hr hr' hd=>by
  rcases Nat.lt_trichotomy i j with h|h|h
  ·obtain⟨r2,ok,_⟩:=hO j _ hj (hop j hj);have h1:=ok.get;rw[hr']at h1;injection h1 with h1;subst h1
   exact absurd hd (xy.1 ok.fresh r (List.mem_of_getElem? (i:=i) (by rw[List.getElem?_take,qX h];exact hr)))
  ·exact h
  ·obtain⟨r2,ok,_⟩:=hO i _ hi (hop i hi);have h1:=ok.get;rw[hr]at h1;injection h1 with h1;subst h1
   exact absurd hd.symm (xy.1 ok.fresh r' (List.mem_of_getElem? (i:=j) (by rw[List.getElem?_take,qX h];exact hr')))
 have hrs:∀i,i<n->∃r,Rs[i]? = some r/\n8 ops s Rs Ms Cs i (ops[i]?.getD default) r:=fun i hi=>by
  obtain⟨r,ok,_⟩:=hO i _ hi (hop i hi);exact⟨r,ok.get,ok⟩
 -- two that touch the same are ordered
 have old:∀(i:Nat)(r:HR)(x:Nat),n8 ops s Rs Ms Cs i (ops[i]?.getD default) r->mg (s.nx+32*r.dst) x->af s.hp x=none:=fun i r x ok hx=>by
  cases hq:af s.hp x with
  |none=>rfl|some b=>
   have:=yi.1 ok.room _ (qbe hq);unfold mg at hx;simp only at this;omega
 have hC1:∀(x i j:Nat),i<n->j<n->i<j->af (f5 Rs Ms i) x≠none->af (f5 Rs Ms j) x≠none->i∈ir Rs j:=fun x i j hi hj hij h1 h2=>by
  obtain⟨ri,gi,oki⟩:=hrs i hi;obtain⟨rj,gj,okj⟩:=hrs j hj;have hpj:ir Rs j=rj.pred:=by unfold ir;rw[gj]
  rw[hpj];obtain⟨e1,m1,rfl⟩:=oy h1;obtain⟨e2,m2,hx⟩:=oy h2;rcases oki.h e1 m1 with a1|⟨n1,_,c1,_⟩
  ·rcases okj.h e2 m2 with a2|⟨n2,_,c2,_⟩
   ·rw[hx]at a2;exact absurd (hdst i j ri rj hi hj gi gj (by unfold mg at a1 a2;omega)) oA
   ·rw[hx]at c2;rcases c2 with⟨b,hb⟩|⟨c,rc,c3,c4,c5⟩
    ·rw[old i ri _ oki a1]at hb;cases hb
    ·have hcn:c<n:=by have:=hlt j rj hj gj c c3;omega
     have:c=i:=hdst c i rc ri hcn hi c4 gi (by unfold mg at a1 c5;omega)
     exact this▸c3
  ·rcases okj.h e2 m2 with a2|⟨n2,_,c2,c6⟩
   ·rw[hx]at a2;rcases c1 with⟨b,hb⟩|⟨c,rc,c3,c4,c5⟩
    ·rw[old j rj _ okj a2]at hb;cases hb
    ·have hcn:c<i:=hlt i ri hi gi c c3;have:c=j:=hdst c j rc rj oA hj c4 gj (by unfold mg at a2 c5;omega)
     omega
   ·exact c6 i hij n1
 have hC2:∀(d i j:Nat),i<n->j<n->i<j->af (fw Rs Ms i) d≠none->af (fw Rs Ms j) d≠none->i∈ir Rs j:=fun d i j hi hj hij h1 h2=>by
  obtain⟨ri,gi,oki⟩:=hrs i hi;obtain⟨rj,gj,okj⟩:=hrs j hj;obtain⟨e1,m1,rfl⟩:=oy h1;obtain⟨e2,m2,hx⟩:=oy h2;have:=oki.f e1 m1;have:=okj.f e2 m2;exact absurd (hdst i j ri rj hi hj gi gj oA) oA
 -- all have run
 have fin:∀(L:List Nat)(listed:Array Bool)(G:Gh)(a:Act)(w:World),(∀i,i<n->i∈L)->uc ops n L listed->lz (ir Rs) L->(∀j∈L,¬B j)->ai vif vh8 vic G (g9 Rs Ms L s) a w->ko P TT ops N (ops.size-n) listed a w:=by
  intro L listed G a w hall hinv hgood hB hr;refine htail (fun i hi=>hB i (hall i hi)) G a w listed (hr.eqv ?_) ⟨hinv.size,fun j hj=>by rw[hinv.iff j hj];exact⟨fun h=>hinv.lt j h,fun h=>hall j h⟩⟩
  rw[qip (Rs:=Rs) Rs 0 s (fun k _=>by rw[wO]),ac]
  have hmem:∀j,j∈((List.range' 0 n).filter (bn (List.range n))).reverse↔j∈L:=fun j=>by
   rw[List.mem_reverse,List.mem_filter,fe,List.mem_range'_1,List.mem_range];exact⟨fun h=>hall j h.2,fun h=>by have:=hinv.lt j h;exact⟨⟨oA,oA⟩,this⟩⟩
  have hg2:lz (ir Rs) (((List.range' 0 n).filter (bn (List.range n))).reverse):=q2o n (fun i hi _ j hj=>by
   obtain⟨r,gr,_⟩:=hrs i hi;have hp:ir Rs i=r.pred:=by unfold ir;rw[gr]
   rw[hp]at hj;have:=hlt i r hi gr j hj;exact⟨this,List.mem_range.2 oA⟩)
  have hb:∀i,(i∈L\/i∈((List.range' 0 n).filter (bn (List.range n))).reverse)->i<n:=fun i h=>by
   rcases h with h|h
   ·exact hinv.lt i h
   ·exact hinv.lt i ((hmem i).1 h)
  exact⟨rfl,rfl,fun d=>qpi hgood hg2 (fun i j hi hj=>hC2 d i j (hb i hi) (hb j hj)) (fun j _=>(hmem j).symm),fun x=>qpi hgood hg2 (fun i j hi hj=>hC1 x i j (hb i hi) (hb j hj)) (fun j _=>(hmem j).symm),rfl⟩
 intro g
 induction g with
 |zero=>
  intro L listed G a w hg hinv hgood hB hr;have h1:=yj n L hinv.nodup hinv.lt;have hnn:n=ops.size:=oA
  have hall:∀i,i<n->i∈L:=fun i hi=>by
   by_cases hm:i∈L
   ·exact hm
   ·have:=yj n (i::L) (List.nodup_cons.2 ⟨hm,hinv.nodup⟩) (fun j hj=>by
     rcases List.mem_cons.1 hj with rfl|hj;· exact hi
     ·exact hinv.lt j hj)
    simp at this;omega
  have:=fin L listed G a w hall hinv hgood hB hr
  rwa [hnn,Nat.sub_self]at this
 |succ g ih=>
  intro L listed G a w hg hinv hgood hB hr;by_cases hall:∀i,i<n->i∈L
  ·have h1:=yj n L hinv.nodup hinv.lt;have h2:=q28 n L hall;have:=fin L listed G a w hall hinv hgood hB hr
   rwa [show ops.size-n=g+1 by omega]at this
  ·have hex:∃i,i<n/\i∉L/\∀j,j<i->j∈L:=by
    have:∃i,i<n/\i∉L:=by
     simpa using hall
    obtain⟨i,hi,hm⟩:=this;clear hall
    induction i using Nat.strongRecOn with
    |ind i ih=>
     by_cases hsm:∀j,j<i->j∈L
     ·exact⟨i,hi,hm,hsm⟩
     ·have:∃j,j<i/\j∉L:=by simpa using hsm
      obtain⟨j,hj,hjm⟩:=this;exact ih j hj oA hjm
   obtain⟨i0,hi0,hm0,hsm0⟩:=hex;have hi0s:i0<ops.size:=oA
   have h0r:i0∈Region.ready .any ops listed:=by
    refine qbg.2 ⟨hi0s,?_,ops[i0],oB,fun e he hb => ?_⟩
    ·cases hq:listed.getD i0 true
     ·rfl
     ·exact absurd ((hinv.iff i0 hi0s).1 hq) hm0
    ·have:=oh hed i0 ops[i0] oB e he hb
     have hlt:e.on<i0:=oA
     exact(hinv.getD_false oA).2 (hsm0 _ hlt)
   refine⟨fun hnil=>(by rw[hnil]at h0r;cases h0r),fun i hi => ?_⟩
   obtain⟨i1,i2,o,i3,i4⟩:=qbg.1 hi;have hiL:i∉L:=fun h=>by rw[(hinv.iff i i1).2 h]at i2;cases i2
   have hedge:∀e∈o.after,Region.binds .any e=true->e.on∈L:=fun e he hb=>by
    have hlt:=oh hed i o (by simpa using i3) e he hb
    exact(hinv.getD_false oA).1 (i4 e he hb)
   have hin:i<n:=hbnd L listed i o hinv hB i3 hedge ⟨i0,hi0,hm0⟩;obtain⟨r,ok,st⟩:=hO i o hin i3;have gr:=ok.get;have hpred:=hpreds hinv.closed i o r hin i3 gr hedge;have hpr:ir Rs i=r.pred:=by unfold ir;rw[gr]
   have hgood':lz (ir Rs) (i::L):=⟨hiL,fun j hj=>by rw[hpr]at hj;exact(hpred j hj).1,hgood⟩
   have hnext:uc ops n (i::L) (listed.setIfInBounds i true):=by
    refine⟨List.nodup_cons.2 ⟨hiL,hinv.nodup⟩,fun j hj => ?_,by simp[hinv.size],fun j hj => ?_,fun j hj oj hoj e he hb => ?_⟩
    ·rcases List.mem_cons.1 hj with rfl|hj
     ·exact hin
     ·exact hinv.lt j hj
    ·rw[Array.getD_eq_getD_getElem?,Array.getElem?_setIfInBounds];by_cases hij:i=j
     ·subst hij;simp[hinv.size,i1]
     ·rw[qW hij];have:=hinv.iff j hj;rw[Array.getD_eq_getD_getElem?]at this;rw[this,wE];exact⟨fun h => .inr h,fun h=>h.resolve_left (fun e=>hij e.symm)⟩
    ·rcases List.mem_cons.1 hj with rfl|hj
     ·rw[i3]at hoj;injection hoj with hoj;subst hoj
      exact qE _ (hedge e he hb)
     ·exact qE _ (hinv.closed j hj oj hoj e he hb)
   have htk:(Rs.take i).length=i:=by simp;omega
   have hlen':∀k,k<(Rs.take i).length->Rs[0+k]? = (Rs.take i)[k]? := fun k hk=>by
    rw[List.getElem?_take,qX (by rw[htk]at hk;omega),wO]
   have hseen:jy s Rs Ms Cs i r=(g9 Rs Ms (((List.range' 0 i).filter (bn r.pred)).reverse) s).hide (io Cs r.pred i):=by
    unfold jy;rw[qip (Rs:=Rs) (Rs.take i) 0 s hlen',htk]
   have hsel:∀j,j∈((List.range' 0 i).filter (bn r.pred)).reverse↔j∈r.pred:=fun j=>by
    rw[List.mem_reverse,List.mem_filter,fe];refine⟨fun h=>h.2,fun h=>⟨?_,h⟩⟩
    rw[List.mem_range'_1];exact⟨oA,by have:=(hpred j h).2;omega⟩
   have hgsel:lz (ir Rs) (((List.range' 0 i).filter (bn r.pred)).reverse):=q2o i (fun k hk hks j hj=>by
    obtain⟨rk,gk,_⟩:=hrs k oA
    have hpk:ir Rs k=rk.pred:=by unfold ir;rw[gk]
    rw[hpk]at hj;exact⟨hlt k rk oA gk j hj,htrans i r hin gr k hks rk gk j hj⟩)
   have hbn:∀k,(k∈((List.range' 0 i).filter (bn r.pred)).reverse\/k∈L)->k<n:=fun k h=>by
    rcases h with h|h
    ·have:=(hpred k ((hsel k).1 h)).2;omega
    ·exact hinv.lt k h
   -- an operation that has run already,and is no predecessor,writes nothing that is looked at
   have late:∀(j:Nat)(rj:HR),Rs[j]? = some rj->j∈L->rj.dst∈jf ops o->j∈r.pred:=by
    intro j rj hj h hd;have hjn:=hinv.lt j h;have hji:j≠i:=fun e=>hiL (e▸h)
    rcases Nat.lt_or_gt_of_ne hji with hlt'|hgt
    ·rcases q4k ok.reads j rj (by rw[List.getElem?_take,qX hlt'];exact hj) with h'|h'
     ·simpa using h'
     ·exact absurd hd h'
    ·have hoj:=hop j hjn;obtain⟨rj',okj,_⟩:=hO j _ hjn hoj;have k1:=okj.get;rw[hj]at k1;injection k1 with k1;subst k1
     rcases q5x okj.writes i o hgt i3 with h'|h'
     ·have:=hpreds hinv.closed j _ rj hjn hoj hj (hinv.closed j h _ hoj) i h';exact absurd this.1 hiL
     ·exact absurd hd h'
   have hreads:∀d∈jf ops o,af (jy s Rs Ms Cs i r).fr d=af (g9 Rs Ms L s).fr d:=fun d hd=>by
    rw[hseen];show af (gp (fw Rs Ms) _ s.fr) d=af (gp (fw Rs Ms) L s.fr) d;refine qpi hgsel hgood (fun a b ha hb=>hC2 d a b (hbn a ha) (hbn b hb)) (fun j hj=>⟨fun h=>(hpred j ((hsel j).1 h)).1,fun h=>(hsel j).2 ?_⟩)
    obtain⟨rj,gj,okj⟩:=hrs j (hinv.lt j h);obtain⟨e,he,rfl⟩:=oy hj;exact late j rj gj h (by rw[← okj.f e he];exact hd)
   have hhp:∀x b,af (jy s Rs Ms Cs i r).hp x=some b->af (g9 Rs Ms L s).hp x=some b:=fun x b hb=>by
    rw[hseen]at hb;obtain⟨b1,b2⟩:=q3e hb;have b1':af (gp (f5 Rs Ms) (((List.range' 0 i).filter (bn r.pred)).reverse) s.hp) x=some b:=b1;rw[← b1'];refine(qpi hgsel hgood (fun a b ha hb=>hC1 x a b (hbn a ha) (hbn b hb)) (fun j hj=>⟨fun h=>(hpred j ((hsel j).1 h)).1,fun h=>(hsel j).2 ?_⟩)).symm
    have hjn:=hinv.lt j h;obtain⟨rj,gj,okj⟩:=hrs j hjn;obtain⟨e,he,hex⟩:=oy hj;by_cases hjp:j∈r.pred
    ·exact hjp
    ·exfalso;have hji:j≠i:=fun e=>hiL (e▸h)
     rcases okj.h e he with a1|⟨_,⟨K,Pm,k1,k2,k3⟩,_,_⟩
     ·rw[hex]at a1;by_cases hk:∃k∈((List.range' 0 i).filter (bn r.pred)).reverse,af (f5 Rs Ms k) x≠none
      ·obtain⟨k,hk1,hk2⟩:=hk;have hkp:=(hsel k).1 hk1;have hkn:k<n:=hbn k (.inl hk1);obtain⟨rk,gk,okk⟩:=hrs k hkn;obtain⟨e2,he2,hex2⟩:=oy hk2;rcases okk.h e2 he2 with a2|⟨_,_,c1,_⟩
       ·rw[hex2]at a2;have:j=k:=hdst j k rj rk hjn hkn gj gk (by unfold mg at a1 a2;omega)
        exact hjp (this▸hkp)
       ·rw[hex2]at c1;rcases c1 with⟨b',hb'⟩|⟨c,rc,c3,c4,c5⟩
        ·rw[old j rj x okj a1]at hb';cases hb'
        ·have hcn:c<n:=by have:=hlt k rk hkn gk c c3;omega
         have:c=j:=hdst c j rc rj hcn hjn c4 gj (by unfold mg at a1 c5;omega)
         exact hjp (htrans i r hin gr k hkp rk gk j (this▸c3))
      ·have hnone:∀k∈((List.range' 0 i).filter (bn r.pred)).reverse,af (f5 Rs Ms k) x=none:=fun k hk1=>by
        cases hq:af (f5 Rs Ms k) x with|none=>rfl|some v=>exact absurd ⟨k,hk1,by rw[hq];simp⟩ hk
       rw[qd5 hnone,old j rj x okj a1]at b1';cases b1'
     ·refine b2 (ziv k1 hji hjp (fun hiP=>hiL ?_) (hex▸k2))
      exact hgood.closed j h i (by unfold ir;rw[gj];exact k3 i hiP)
   have hroom:az (s.nx+32*r.dst) (g9 Rs Ms L s).hp=true:=by
    rw[yi];intro e he;rcases ziu he with⟨j,hj,he⟩|he
    ·have hjn:=hinv.lt j hj;have hji:j≠i:=fun e=>hiL (e▸hj)
     obtain⟨rj,gj,okj⟩:=hrs j hjn;rcases okj.h e he with a1|⟨_,_,c1,_⟩
     ·have:rj.dst≠r.dst:=fun hq=>hji (hdst j i rj r hjn hin gj gr hq)
      unfold mg at a1;omega
     ·rcases c1 with⟨b',hb'⟩|⟨c,rc,c3,c4,c5⟩
      ·exact yi.1 ok.room (e.1,b') (qbe hb')
      ·have hcL:c∈L:=hgood.closed j hj c (by unfold ir;rw[gj];exact c3)
       have hcn:=hinv.lt c hcL;have:rc.dst≠r.dst:=fun hq=>hiL ((hdst c i rc r hcn hin c4 gr hq)▸hcL)
       unfold mg at c5;omega
    ·exact yi.1 ok.room _ he
   have hsees:(∀d,o.dst=some d->d=r.dst)->ph o (jy s Rs Ms Cs i r) (g9 Rs Ms L s):=fun hd=>by
    refine⟨by rw[hseen];rfl,fun x hx => ?_,hhp,fun d hd' => ?_⟩
    ·cases x with
     |tmp t=>
      exact hreads t (by simp only[jf];refine List.mem_append.2 (.inl ?_);rw[List.mem_filterMap];exact⟨.tmp t,hx,rfl⟩)
     |_=>rfl
    ·rw[hd d hd'];exact hroom
   rcases st with⟨nB,st⟩|⟨_,s2,s3,s4⟩
   rotate_left
   ·exact qpq i3 (by simp[Region.wanted,s2]) (s4 L hinv.lt (hsees (fun d hd=>(s3 d hd).1)) G a w hr _)
   have hB':∀j∈i::L,¬B j:=fun j hj=>by
    rcases List.mem_cons.1 hj with rfl|hj
    ·exact nB
    ·exact hB j hj
   rcases st with⟨s1,s2,s3,ps,c,s4,s5⟩|⟨md,s1,s2,s3,s4⟩
   ·have h9':=zeh (hsees (fun d hd=>by rw[s2]at hd;injection hd with hd;exact hd.symm)) hreads s4
    have hadd:(g9 Rs Ms L s).add o.dst r.v r.new=some (g9 Rs Ms (i::L) s):=by
     rw[s2];have hbl:Nat.blt r.dst s.n=true:=by simpa using s3
     simp only[St.add,g9,hbl,qT,gp,fw,f5,s1,gr,wM]
    exact zeg hr i3 h9' s5 hadd (fun G' a' w' hr'=>ih (i::L) _ G' a' w' oD hnext hgood' hB' hr')
   ·refine q1m i3 (by simp[Region.wanted,s2]) (s4 _ (hsees (fun d hd=>(s3 d hd).1)) (by rw[hseen];rfl) _ _ _ _ _ _ hr _ (fun G' a' w' hr'=>ih (i::L) _ G' a' w' oD hnext hgood' hB' ?_))
    have:(g9 Rs Ms L s).addM md=g9 Rs Ms (i::L) s:=by
     simp[St.addM,g9,gp,fw,f5,s1]
    rw[← this];exact hr'
def zww{ops:Array Oper}{n:Nat}{Rs:List HR}{Ms:List (Nat×Md)}{Cs:List (Nat×List Nat×List Nat)}{N:Act->World->Prop}(hn:n<=ops.size)(hed:lh ops.toList 0=true)(ht:nq ops n=true)(ac:Rs.length=n)
  (hO:∀i o,i<n->ops[i]? = some o->∃r,n8 ops s Rs Ms Cs i o r/\StX P ops s Rs Ms Cs i o r)
  (htail:∀(G:Gh)(a:Act)(w:World)(listed:Array Bool),ai vif vh8 vic G (d9 Ms (List.range n) Rs 0 s) a w->xc ops n listed->ko P TT ops N (ops.size-n) listed a w)
  (g:Nat) (L:List Nat) (listed:Array Bool) (G:Gh) (a:Act) (w:World) (hg:ops.size=g+L.length) (hinv:uc ops n L listed) (hgood:lz (ir Rs) L) (hr:ai vif vh8 vic G (g9 Rs Ms L s) a w):ko P TT ops N g listed a w:=by
 refine zhe (B:=fun _=>False) (Cs:=Cs) hn hed ac (fun L listed i o hinv _ i3 i4 hex => ?_) (fun i o hi ho=>by obtain⟨r,h1,h2⟩:=hO i o hi ho;exact⟨r,h1,.inl ⟨id,h2⟩⟩) (fun _=>htail) g L listed G a w hg hinv hgood (fun _ _ h=>h) hr
 obtain⟨i0,hi0,hm0⟩:=hex;have hso:i<ops.size:=(Array.getElem?_eq_some_iff.1 i3).1;rcases Nat.lt_or_ge i n with h|h
 ·exact h
 ·rcases Nat.lt_or_ge n i with h|h
  ·obtain⟨e,he1,he2,he3⟩:=q5u (q5c ht h i3);have:=hinv.lt _ (i4 e he1 he3);omega
  ·have:i=n:=oA
   subst this;exact absurd (zl3 ht i3 hinv.closed i4 i0 hi0) hm0
def zwv{ops:Array Oper}{j:Nat}{Rs:List HR}{Ms:List (Nat×Md)}{Cs:List (Nat×List Nat×List Nat)}{N:Act->World->Prop}(hj:j<ops.size)(hed:lh ops.toList 0=true)(hlate:∀i o,j<i->ops[i]? = some o->∃e∈o.after,Region.binds .any e=true/\j<=e.on)(ac:Rs.length=j+1)
  (hO:∀i o,i<j->ops[i]? = some o->∃r,n8 ops s Rs Ms Cs i o r/\StX P ops s Rs Ms Cs i o r)
  (hT:∀o,ops[j]? = some o->∃r,n8 ops s Rs Ms Cs j o r/\qzs P TT vif vh8 vic (j+1) s Rs Ms Cs j o r)
  (g:Nat) (L:List Nat) (listed:Array Bool) (G:Gh) (a:Act) (w:World) (hg:ops.size=g+L.length) (hinv:uc ops (j+1) L listed) (hgood:lz (ir Rs) L) (hB:∀k∈L,k≠j) (hr:ai vif vh8 vic G (g9 Rs Ms L s) a w):ko P TT ops N g listed a w:=by
 refine zhe (B:=fun k=>k=j) (n:=j+1) (Cs:=Cs) hj hed ac (fun L listed i o hinv hB i3 i4 hex => ?_) (fun i o hi ho => ?_) (fun h=>absurd rfl (h j (Nat.lt_succ_self j))) g L listed G a w hg hinv hgood hB hr
 ·rcases Nat.lt_or_ge i (j+1) with h|h
  ·exact h
  ·obtain⟨e,e1,e2,e3⟩:=hlate i o h i3;have h1:=i4 e e1 e2;have h2:=hinv.lt _ h1;exact absurd (show e.on=j by omega) (hB _ h1)
 ·by_cases hij:i=j
  ·subst hij;obtain⟨r,h1,h2⟩:=hT o ho;exact⟨r,h1,.inr ⟨rfl,h2⟩⟩
  ·obtain⟨r,h1,h2⟩:=hO i o oA ho
   exact⟨r,h1,.inl ⟨hij,h2⟩⟩
end
end Go.Sym
namespace Go.Sym
open Go.RowKit
variable[LC]
def qs9(P:Program)(T:TypeId):Option AV:=match P.info? T with
 |some i=>match i.zero with|some (.agg vs)=>some (.agg (qep vs.toList))|_=>none
 |none=>none
def q2u(P:Program)(T:TypeId):Bool:=match P.info? T,P.underlying T with|some i,some (.int _)=>i.comparable|_,_=>false
def qqk(P:Program):AV->AV->Option AV
 |.val .nilIface,.iface _ _=>some (.val (.bool false))| .iface t x,.iface t' y=>bif Nat.beq t t' then(match x,y with
   |.byte a,.byte b=>bif q2u P t then some (.bool (a==b)) else none| _,_=>none) else some (.val (.bool false))
 |_,_=>none
def q3z:AV->Option AV|.val (.bool b)=>some (.val (.bool (!b)))|.bool b=>some (.bool (!b))|_=>none
def ifV(P:Program)(s:St)(op:BinOp)(x y:Operand):Option AV:=match s.ev x,s.ev y with
 |some u,some v=>match op with
  |.eql=>qqk P u v|.neq=>match qqk P u v with|some r=>q3z r|none=>none
  |_=>none
 |_,_=>none
def taV(P:Program)(s:St)(x:Operand)(T:TypeId):Option AV:=match P.underlying T with
 | some d=>bif qkb d then(match s.ev x with
   | some (.iface t v)=>bif Nat.beq t T then some (.tup [v,.val (.bool true)]) else(match qs9 P T with
    |some z=>some (.tup [z,.val (.bool false)])| none=>none)
   | some (.val .nilIface)=>(match qs9 P T with
    |some z=>some (.tup [z,.val (.bool false)])| none=>none)
   | _=>none) else none
 |none=>none
def zhn(P:Program)(s:St):Op->Option AV
 |.typeAssert x _ T true=>taV P s x T|.binOp op t x y _=>match P.underlying t with|some (.interface _)=>ifV P s op x y|_=>none
 |_=>none
def q2s(P:Program)(s:St)(o:Oper):Option St:=match o.dst with
 |some tt=>match zhn P s o.op with|some v=>bif Nat.blt tt s.n then some { s with fr:=(tt,v)::s.fr } else none|none=>none
 |none=>none
section
variable{P:Program}{vif:World}{vh8:Gh}{vic:List (Nat×ag)}{G:Gh}{s:St}{a:Act}{w:World}
def zqd{T:TypeId}{z:AV}(h:qs9 P T=some z)(w:World)(G:Gh):∃v,(zeroValue T).run P w = .ok v w/\aj z G v:=by
 unfold qs9 at h;split at h
 ·rename_i i hi;split at h
  ·rename_i vs hz;simp only[qI]at h;subst h;exact⟨.agg vs,by simp[zeroValue,su hi,hz],vs,rfl,q4p G _⟩
  ·cases h
 ·cases h
def z3o{x:Operand}{T xT:TypeId}{r:AV}(hx:∀v,s.ev x=some v->aj v G (a.eval x))(h:taV P s x T=some r):∃v,(Instr.typeAssert (a.eval x) xT T true).run P w = .ok v w/\aj r G v:=by
 unfold taV at h;split at h
 ·rename_i d hd;cases hn:qkb d<;>rw[hn]at h<;>simp only[qT,qF,reduceCtorEq]at h
  have hnot:∀ms,d ≠ .interface ms:=fun ms e=>by subst e;cases hn
  split at h
  ·rename_i t v e;obtain⟨u,hu,hr⟩:=hx _ e;rw[hu];cases hb:Nat.beq t T<;>rw[hb]at h<;>simp only[qT,qF]at h
   ·have hne:t≠T:=fun e=>by subst e;simp at hb
    split at h
    ·rename_i z hz;simp only[qI]at h;subst h;obtain⟨zv,h1,h2⟩:=zqd hz w G;refine⟨.tuple #[zv,.bool false],?_,_,rfl,h2,rfl,trivial⟩;cases d<;>first
      |exact absurd rfl (hnot _)
      |simp[Instr.typeAssert,bh hd,hne,h1]
    ·cases h
   ·have:=qN hb;subst this;simp only[qI]at h;subst h;refine⟨.tuple #[u,.bool true],?_,_,rfl,hr,rfl,trivial⟩;cases d<;>first
     |exact absurd rfl (hnot _)
     |simp[Instr.typeAssert,bh hd]
  ·rename_i e;have hu:=hx _ e;simp only[aj]at hu;rw[hu];split at h
   ·rename_i z hz;simp only[qI]at h;subst h;obtain⟨zv,h1,h2⟩:=zqd hz w G;refine⟨.tuple #[zv,.bool false],?_,_,rfl,h2,rfl,trivial⟩;cases d<;>first
     |exact absurd rfl (hnot _)
     |simp[Instr.typeAssert,bh hd,h1]
   ·cases h
  ·cases h
 ·cases h
def zhl{t:TypeId}{ms:Array (String×TypeId)}(hu:P.underlying t=some (.interface ms)){u v r:AV}(h:qqk P u v=some r){x y:Value}(hx:aj u G x)(hy:aj v G y) :
  ∃b,aj r G (.bool b)/\∀(p q:Operand),(do eqGuard .eql t p q x y;binOp .eql t x y:Sem Value).run P w = .ok (.bool b) w/\(do eqGuard .neq t p q x y;binOp .neq t x y:Sem Value).run P w = .ok (.bool (!b)) w:=by
 have key:∀b,(∀d,(Op.equalIn (d+2) t x y).run P w = .ok b w)->(Op.equal t x y).run P w = .ok b w:=fun b h=>h 9998
 unfold qqk at h;split at h
 ·rename_i t' x';simp only[qI]at h;subst h;simp only[aj]at hx;obtain⟨u',hy,_⟩:=hy;subst hx hy;have k:=key false fun d=>by simp[Op.equalIn,bh hu]
  exact⟨false,rfl,fun p q=>⟨by simp[eqGuard,binOp,k],by simp[eqGuard,binOp,k]⟩⟩
 ·rename_i t1 x1 t2 y1;obtain⟨u1,e1,r1⟩:=hx;obtain⟨u2,e2,r2⟩:=hy;subst e1 e2;cases hb:Nat.beq t1 t2<;>rw[hb]at h<;>simp only[qT,qF]at h
  ·have hne:t1≠t2:=fun e=>by subst e;simp at hb
   simp only[qI]at h;subst h;have k:=key false fun d=>by simp[Op.equalIn,bh hu,hne]
   exact⟨false,rfl,fun p q=>⟨by simp[eqGuard,binOp,k],by simp[eqGuard,binOp,k]⟩⟩
  ·have:=qN hb;subst this;split at h
   ·rename_i b1 b2;cases hc:q2u P t1<;>rw[hc]at h<;>simp only[qT,qF,reduceCtorEq,qI]at h
    subst h;simp only[aj]at r1 r2;subst r1 r2;unfold q2u at hc;split at hc
    ·rename_i i k hi hk;have k:=key (b1==b2) ?_;exact⟨b1==b2,rfl,fun p q=>⟨by simp[eqGuard,binOp,k],by simp[eqGuard,binOp,k]⟩⟩
     intro d;have e:((b1.toNat:Int)==(b2.toNat:Int))=(b1==b2):=by
      by_cases hq:b1=b2
      ·subst hq;simp
      ·have:b1.toNat≠b2.toNat:=fun e=>hq (UInt8.toNat_inj.1 e)
       have h1:((b1.toNat:Int)==(b2.toNat:Int))=false:=by
        rw[beq_eq_false_iff_ne];exact fun e=>this (Int.ofNat_inj.1 e)
       have h2:(b1==b2)=false:=by simpa using hq
       rw[h1,h2]
     have hin:(Op.equalIn (d+1) t1 (.int .u8 b1.toNat) (.int .u8 b2.toNat)).run P w = .ok (b1==b2) w:=by
      rw[← e];simp[Op.equalIn,bh hk]
     obtain⟨m,hm⟩:∃m,m=d+1:=⟨_,rfl⟩;rw[← hm]at hin;rw[show d+2=m+1 by omega]
     simp[Op.equalIn,bh hu,su hi,hc,hin]
    ·cases hc
   ·cases h
 ·cases h
def zy4{r r':AV}(h:q3z r=some r'){b:Bool}(hr:aj r G (.bool b)):aj r' G (.bool (!b)):=by
 unfold q3z at h;split at h
 ·simp only[qI]at h;subst h;simp only[aj,Value.bool.injEq]at hr;subst hr;rfl
 ·simp only[qI]at h;subst h;simp only[aj,Value.bool.injEq]at hr;subst hr;rfl
 ·cases h
def zw6(hr:ai vif vh8 vic G s a w){o:Oper}{s':St}(h:q2s P s o=some s'){N:Act->World->Prop}(hN:∀G' a' w',ai vif vh8 vic G' s' a' w'->N a' w'):fg P o a w N:=by
 obtain⟨dst,op,ty,pos,after,guard⟩:=o;unfold q2s at h;split at h
 ·rename_i tt e1;simp only at e1;subst e1;split at h
  ·rename_i v hv;cases hb:Nat.blt tt s.n<;>rw[hb]at h<;>simp only[qT,qF,reduceCtorEq,qI]at h
   subst h;simp only at hv;have fin:∀u,(execOp a.eval ⟨some tt,op,ty,pos,after,guard⟩).run P w = .ok (.value u) w->aj v G u->(∀c,op ≠ .defer c)->fg P ⟨some tt,op,ty,pos,after,guard⟩ a w N:=by
    intro u hrun hru hd;refine er hd ?_;unfold Oper.wp;rw[hrun];exact hN G _ _ (gm (v:=v) hr (by simp[St.add,hb,qT,List.nil_append]) hru)
   unfold zhn at hv;split at hv
   ·rename_i x xT T;obtain⟨u,h1,h2⟩:=z3o (xT:=xT) (w:=w) (fun v hv=>bi hr hv) hv
    exact fin u (by simp[execOp,h1]) h2 oB
   ·rename_i op t x y p;split at hv
    ·rename_i ms hu;unfold ifV at hv;split at hv
     ·rename_i u1 u2 e1 e2;have r1:=bi hr e1;have r2:=bi hr e2;split at hv
      ·obtain⟨b,h2,h3⟩:=zhl (w:=w) hu hv r1 r2;exact fin (.bool b) (by simp only[execOp,Sem.run_bind,(h3 x y).1,Result.andThen_ok];rfl) h2 oB
      ·split at hv
       ·rename_i r hr';obtain⟨b,h2,h3⟩:=zhl (w:=w) hu hr' r1 r2;exact fin (.bool (!b)) (by simp only[execOp,Sem.run_bind,(h3 x y).2,Result.andThen_ok];rfl) (zy4 hv h2) oB
       ·cases hv
      ·cases hv
     ·cases hv
    ·cases hv
   ·cases hv
  ·cases h
 ·cases h
end
structure ie(vif:World)(vh8:Gh)(vic:List (Nat×ag))(G:Gh)(s:St)(a:Act)(w:World):Prop where
 defers:∃bs:List Nat,a.defers=bs.map (fun b=>{ target := .collected b,args:=#[] })/\bs.map some=s.df.map G.box
 frame:∀i x,af s.fr i=some x->∃v,a.tmps[i]? = some v/\aj x G v
 fin:Fin vif vh8 vic G s.hp w
def ai.lt{vif:World}{vh8:Gh}{vic:List (Nat×ag)}{G:Gh}{s:St}{a:Act}{w:World}(h:ai vif vh8 vic G s a w):ie vif vh8 vic G s a w:=⟨h.defers,h.frame,h.fin⟩
def ie.less{vif:World}{vh8:Gh}{vic:List (Nat×ag)}{G:Gh}{s s':St}{a:Act}{w:World}(h:ie vif vh8 vic G s a w)(h1:s'.df=s.df)(h2:∀i x,af s'.fr i=some x->af s.fr i=some x)(h3:∀i x,af s'.hp i=some x->x = .dead\/af s.hp i=some x):ie vif vh8 vic G s' a w:=
 ⟨by rw[h1];exact h.defers,fun i x hx=>h.frame i x (h2 i x hx),⟨⟨h.fin.mem.agree,h.fin.mem.one,fun n b hb=>by
  rcases h3 _ _ hb with rfl|hb
  ·trivial
  ·exact h.fin.mem.holds n b hb,fun n m b b' c k1 k2 e1 e2=>by
  rcases h3 _ _ k1 with rfl|k1
  ·cases e1
  ·rcases h3 _ _ k2 with rfl|k2
   ·cases e2
   ·exact h.fin.mem.apart n m b b' c k1 k2 e1 e2,h.fin.mem.tab⟩,h.fin.bel,h.fin.imm_le,h.fin.imm_new,fun n b c k1 e1=>by
  rcases h3 _ _ k1 with rfl|k1
  ·cases e1
  ·exact h.fin.base n b c k1 e1,h.fin.keep,h.fin.keepOwn⟩⟩
def qj1(f:FuncId):pg->Bool|.thr f' _=>Nat.beq f' f|_=>false
def zxu{f:FuncId}{k:pg}(h:qj1 f k=true):∃ks,k = .thr f ks:=by
 cases k with|thr f' ks=>exact⟨ks,by rw[qN (show Nat.beq f' f=true from h)]⟩|_=>cases h
def zl9(s:St)(f:FuncId)(ys:List AV)(e:ck):Option Rq:=bif qj1 f e.key then qj3 s ys [] e else none
def qbx(tb:Tb)(s:St)(o:Oper):Option (Rq×List AV×Nat):=
 match o.op,o.dst with
 |.call { callee := .value g,args,argTypes:=_ },some t=>match s.ev g,s.evs args.toList with
  |some (.fn (.func f) [] cap),some xs=>match xv (zl9 s f (xs++cap)) tb.ents with|some q=>some (q,xs++cap,t)|none=>none
  |_,_=>none
 |_,_=>none
def qry{R:Type}(s:St)(x:Rq×List AV×Nat)(E:AV->St->Option R)(K:St->Option R):Option R:=
 x.1.K fun d=>match d with
  |.mem N xs hp r hp'=>match qi s True x.2.1 N xs hp r hp' x.2.2 with
   |some (_,s')=>match ll r with|some (t,n)=>E (eq t n) { s' with fr:=s.fr }|none=>K s'
   |none=>none
  |_=>none
def q4c:AV->Option (TypeId×Int)|.iface t (.agg [.int .i64 n])=>some (t,n)|.iface t (.agg [.val (.int .i64 n)])=>some (t,n)|_=>none
def q4b{R:Type}(s:St)(x:Operand)(E:AV->St->Option R):Option R:=match s.ev x with
 |some v=>match q4c v with|some (t,n)=>E (eq t n) s|none=>none
 |none=>none
section
variable{P:Program}{vif:World}{vh8:Gh}{vic:List (Nat×ag)}{G:Gh}{s:St}{a:Act}{w:World}{TT:List PanicEntry->Act->World->Prop}
def zzv{v:AV}{t:TypeId}{n:Int}(h:q4c v=some (t,n)){u:Value}(hr:aj v G u):u=wv t n:=by
 unfold q4c at h;split at h
 ·simp only[qI,qP]at h;obtain⟨rfl,rfl⟩:=h;obtain⟨u1,rfl,vs,rfl,h3⟩:=hr;obtain⟨l⟩:=vs
  match l,h3 with|[x],h3=>have:=h3.1;simp only[aj]at this;rw[this];rfl
 ·simp only[qI,qP]at h;obtain⟨rfl,rfl⟩:=h;obtain⟨u1,rfl,vs,rfl,h3⟩:=hr;obtain⟨l⟩:=vs
  match l,h3 with|[x],h3=>have:=h3.1;simp only[aj]at this;rw[this];rfl
 ·cases h
def zzu{R:Type}(hr:ai vif vh8 vic G s a w){x:Operand}{o:Oper}(ho:o.op = .panic x){E:AV->St->Option R}{y:R}(h:q4b s x E=some y){N:Act->World->Prop}
  (hE:∀t n s',E (eq t n) s'=some y->∀G' a' w',ie vif vh8 vic G' s' a' w'->TT [{ v:=wv t n,recovered:=false }] a' w'):qr P TT o a w N:=by
 obtain⟨dst,op,ty,pos,after,guard⟩:=o;simp only at ho;subst ho;unfold q4b at h;split at h
 ·rename_i v hv;split at h
  ·rename_i t n hp;have hu:=zzv hp (bi hr hv);have hrun:(execOp a.eval ⟨dst,.panic x,ty,pos,after,guard⟩).run P w = .halt (.panic (wv t n)) w:=by
    simp[execOp,Instr.panic,hu,wv,goPanic]
   refine zl2 oB ?_
   unfold Oper.wp;rw[hrun];exact⟨_,rfl,hE t n s h G a w hr.lt⟩
  ·cases h
 ·cases h
def zl7(hr:ai vif vh8 vic G s a w){o:Oper}{g:Operand}{args:Array Operand}{tys:Array TypeId}{t:Tmp}(ho:o.op = .call { callee := .value g,args,argTypes:=tys })(hd:o.dst=some t){f:FuncId}{cap ys:List AV}(hg:s.ev g=some (.fn (.func f) [] cap))(hargs:s.evs args.toList=some ys)(hpl:ki P f)
  {names:List (Nat×Nat)} {xs:List AV} {hp1 hp2:List (Nat×ag)} {r:AV} {ps:List Prop} {s':St} (hmc:qi s True (ys++cap) names xs hp1 r hp2 t=some (ps,s'))
  (k5:∀ps,bp false [] (AV.rens (aw names) (ys++cap)) xs=some ps->ar ps) (k6:∀hpv ps,gy (aw names) s.hp names=some hpv->jj hpv hp1=some ps->ar ps) :
  (ce P f xs hp1 r hp2->∀N:Act->World->Prop,(∀G' a' w',ai vif vh8 vic G' s' a' w'->N a' w')->fg P o a w N) /\
  (∀x,qln P x f xs hp1 hp2->(∀G' w',ai vif vh8 vic G' { s' with fr:=s.fr } a w'->TT [{ v:=wv x.1 x.2,recovered:=false }] a w')->∀N:Act->World->Prop,qr P TT o a w N):=by
 obtain⟨dst,op,ty,pos,after,guard⟩:=o;simp only at ho hd;subst ho hd;unfold qi at hmc;cases hbb:dr names&&og names&&az (s.nx+32*t) s.hp&&Nat.blt t s.n<;>rw[hbb]at hmc<;>simp only[qT,qF,reduceCtorEq]at hmc
 simp only[qA,Nat.blt_eq]at hbb;obtain⟨⟨⟨hq1',_⟩,hq2⟩,hq3⟩:=hbb;split at hmc
 ·rename_i hpv ps1 hv hvs;split at hmc
  ·rename_i ps2 hvw;simp only[qI,qP]at hmc;obtain⟨rfl,rfl⟩:=hmc;have p1:=k5 _ hvs;have p2:=k6 _ _ hv hvw;obtain⟨fs,cs,hge,hfs,hcs⟩:=bi hr hg;have hfs0:fs=#[]:=Array.eq_empty_of_size_eq_zero (by simpa using hfs.length.symm)
   subst hfs0;have hrun:(execOp a.eval ⟨some t,.call { callee := .value g,args:=args,argTypes:=tys },ty,pos,after,guard⟩).run P w = .ok (.enter f (args.map a.eval++cs)) w:=by
    simp[execOp,resolve,hge,Deferred.ofValue,invoke,hpl _ w]
   have hreps:ak (ys++cap) G ((args.toList.map a.eval)++cs.toList):=vp (xp hr hargs) hcs;have e1:((args.toList.map a.eval)++cs.toList).toArray=args.map a.eval++cs:=oB
   have hm:bq (G.view names) hp1 w:=(hr.fin.mem.view hv (xm hq1')).vw hvw p2;have hreps2:=ld (Gh.le.refl _) (fun e=>by cases e) hvs p1 (ak.ren (G:=G) (G':=G.view names) (fun _ _ _ h=>h) (qw names) (s7 names) hreps)
   refine⟨fun hct N hN => ?_,fun x hct hE N => ?_⟩
   ·refine er oB ?_
    unfold Oper.wp;rw[hrun];have:=hct w (G.view names) _ hm hreps2;rw[e1]at this;refine this.mono ?_;intro en w' hpost;obtain⟨G',v,rfl,hG⟩:=qeo hr hq1' hq2 hq3 hv hvw p2 hpost;exact hN _ _ _ hG
   ·refine zl2 oB ?_
    unfold Oper.wp;rw[hrun];have:=hct w (G.view names) _ hm hreps2;rw[e1]at this;refine this.mono ?_;intro en w' hpost;obtain⟨rfl,G',hf⟩:=hpost;obtain⟨G2,v,_,_,_,hR⟩:=qj5 (r := .undef) (e := .returned undef) hr hq1' hq2 oA hv hvw p2 ⟨undef,G',rfl,hf,trivial⟩
    exact⟨_,rfl,hE _ _ hR⟩
  ·cases hmc
 ·cases hmc
def zl6{tb:Tb}(hT:∀e∈tb.ents,e.Sound P){o:Oper}{q:Rq×List AV×Nat}(hq:qbx tb s o=some q){d:D}(hd:q.1.Out d) :
  ∃g args tys t f cap ys names xs hp1 r hp2,o.op = .call { callee := .value g,args,argTypes:=tys }/\o.dst=some t/\s.ev g=some (.fn (.func f) [] cap)/\s.evs args.toList=some ys/\q.2=(ys++cap,t)/\d = .mem names xs hp1 r hp2/\ki P f /\
   (match ll r with
    |none=>ce P f xs hp1 r hp2| some x=>qln P x f xs hp1 hp2) /\
   (∀ps,bp false [] (AV.rens (aw names) (ys++cap)) xs=some ps->ar ps)/\(∀hpv ps,gy (aw names) s.hp names=some hpv->jj hpv hp1=some ps->ar ps):=by
 unfold qbx at hq;split at hq
 ·rename_i g args tys t e1 e2;split at hq
  ·rename_i f cap ys hg hargs;split at hq
   ·rename_i q1 hq1;have hq:=qJ hq;subst hq;obtain⟨e,hemem,hc⟩:=xw hq1;unfold zl9 at hc;cases hkk:qj1 f e.key<;>rw[hkk]at hc<;>simp only[qT,qF,reduceCtorEq]at hc
    obtain⟨names,x1,x1',z,k1,k2,k3,k4,k5,k6⟩:=qj4 hc hd;have hs:=hT e hemem x1 x1' z k1;obtain⟨ks,hks⟩:=zxu hkk;rw[hks]at hs;exact⟨g,args,tys,t,f,cap,ys,names,_,_,_,_,e1,e2,hg,hargs,rfl,k2,hs.1,hs.2,k5,k6⟩
   ·cases hq
  ·cases hq
 ·cases hq
def zl8{tb:Tb}(hT:∀e∈tb.ents,e.Sound P)(hr:ai vif vh8 vic G s a w){R:Type}{o:Oper}{q:Rq×List AV×Nat}(hq:qbx tb s o=some q){E:AV->St->Option R}{K:St->Option R}{y:R}(h:qry s q E K=some y){N:Act->World->Prop}
  (hN:∀s',K s'=some y->∀G' a' w',ai vif vh8 vic G' s' a' w'->N a' w')
  (hE:∀t n s',E (eq t n) s'=some y->∀G' a' w',ie vif vh8 vic G' s' a' w'->TT [{ v:=wv t n,recovered:=false }] a' w'):qr P TT o a w N:=by
 unfold qry at h;obtain⟨d,hd,h⟩:=Rq.K_some h;obtain⟨g,args,tys,t,f,cap,ys,names,xs,hp1,r,hp2,ho,hdst,hg,hargs,hq2,rfl,hpl,hct,k5,k6⟩:=zl6 hT hq hd;simp only[hq2]at h;split at h
 ·rename_i ps s' hmc;obtain⟨c1,c2⟩:=zl7 (TT:=TT) hr ho hdst hg hargs hpl hmc k5 k6;split at h
  ·rename_i tx n hmk;rw[hmk]at hct;exact c2 _ hct (fun G' w' hR=>hE tx n _ h _ _ _ hR.lt) N
  ·rename_i hmk;rw[hmk]at hct;intro ops i b rest k cs h1 h2 h3;exact .inl (c1 hct N (fun G' a' w' hR=>hN _ h _ _ _ hR) ops i b rest k cs h1 h2 h3)
 ·cases h
def z3w{tb:Tb}(hT:∀e∈tb.ents,e.Sound P){t:St}{o:Oper}{q:Rq×List AV×Nat}(hq:qbx tb t o=some q){N:List (Nat×Nat)}{xs:List AV}{hp1 hp2:List (Nat×ag)}{r:AV}(hd:q.1.Out (.mem N xs hp1 r hp2)){ps:List Prop}{md:Md}(hm:vl t True q.2.1 N xs hp1 r hp2 q.2.2=some (ps,md)) :
  (ll r=none->qlp P o t md) /\
  ∀x,ll r=some x->∀(st:St),ph o t st->t.n=st.n->∀(G:Gh)(a:Act)(w:World),ai vif vh8 vic G st a w->(∀G' w',ai vif vh8 vic G' { st with hp:=md.h++st.hp } a w'->TT [{ v:=wv x.1 x.2,recovered:=false }] a w')->∀N:Act->World->Prop,qr P TT o a w N:=by
 obtain⟨g,args,tys,tt,f,cap,ys,names,xs,hp1,r,hp2,ho,hdst,hg,hargs,hq2,e,hpl,hct,k5,k6⟩:=zl6 hT hq hd;cases e
 rw[hq2]at hm;simp only at hm;have core:∀(vif:World)(vh8:Gh)(vic:List (Nat×ag))(st:St),ph o t st->t.n=st.n->∀(G:Gh)(a:Act)(w:World),ai vif vh8 vic G st a w->(ce P f xs hp1 r hp2->∀N:Act->World->Prop,(∀G' a' w',ai vif vh8 vic G' (st.addM md) a' w'->N a' w')->fg P o a w N) /\
  (∀x,qln P x f xs hp1 hp2->(∀G' w',ai vif vh8 vic G' { st.addM md with fr:=st.fr } a w'->TT [{ v:=wv x.1 x.2,recovered:=false }] a w')->∀N:Act->World->Prop,qr P TT o a w N):=by
  intro vif vh8 vic st hs hn G a w hr;have hev:=hs.ev;rw[ho]at hev;have h1:t.ev g=st.ev g:=hev g oX
  have h2:t.evs args.toList=st.evs args.toList:=qed (fun x hx=>hev x (by simp[Op.operands,Call.operands];exact .inr (by simpa using hx)))
  rw[h1]at hg;rw[h2]at hargs;have hm':=zis hs.hp (hs.room tt hdst) hs.nx hn hm;refine zl7 (TT:=TT) hr ho hdst hg hargs hpl (zir hm') k5 fun hpv ps hv hvw => ?_
  unfold vl at hm;cases hc:dr N&&og N&&az (t.nx+32*tt) t.hp&&Nat.blt tt t.n<;>rw[hc]at hm<;>simp only[qT,qF,reduceCtorEq]at hm
  split at hm
  ·rename_i hpv' ps1 hv' hvs;have:=q5o hs.hp hv';rw[hv]at this;have:=qJ this;subst this;exact k6 _ _ hv' hvw
  ·cases hm
 refine⟨fun hmk st hs hn vif vh8 vic G a w hr N hN => ?_,fun x hmk st hs hn G a w hr hE N => ?_⟩
 ·rw[hmk]at hct;exact(core vif vh8 vic st hs hn G a w hr).1 hct N hN
 ·rw[hmk]at hct;exact(core vif vh8 vic st hs hn G a w hr).2 x hct hE N
end
end Go.Sym
