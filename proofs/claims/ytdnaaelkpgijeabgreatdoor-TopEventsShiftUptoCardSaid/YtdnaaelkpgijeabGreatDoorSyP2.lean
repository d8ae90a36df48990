/- What the claim rests on, part 2: gathered texts. -/
import Derived.RangeFuncRecord
import Derived.Laws.RangeAny
import Derived.Laws.MakeOwn
import Derived.Laws.IdiomStrings
import Derived.Laws.Cover4
import Derived.Test.YtdnaaelkpgijeabGreatDoorSyP1
set_option linter.defProp false
set_option linter.unusedSimpArgs false
set_option linter.unusedVariables false
namespace Go.Sym
open Go.RowKit
variable{TT:List PanicEntry->Act->World->Prop}[LC]
section
variable{P:Program}{vhe:World}{vg8:Gh}{vhb:List (Nat×ag)}{s:St}
def HOk(P:Program)(ops:Array Oper)(s:St)(Rs:List HR)(i:Nat)(o:Oper):Prop:=
 ∃r ps,∃c:uo,Rs[i]? = some r/\o.dst=some r.dst/\r.dst<s.n/\a7 (s.nx+32*r.dst) s.hp=true/\l5 (Rs.take i) o.after.toList=some r.pred/\oa r.dst (Rs.take i)=true /\
  p6 r.pred (iw ops o) (Rs.take i) 0=true/\qh ops r.dst r.pred i=true/\mq P ops (qt r.pred (Rs.take i) 0 s) c o=some (ps,r.v,r.new)/\ap ps
def vv{d:Nat}:∀{rs:List HR},oa d rs=true↔∀r∈rs,r.dst≠d
 |[]=>by simp[oa]|r::rs=>by
  simp only[oa,qA,Bool.not_eq_true',vv (rs:=rs),wE,forall_eq_or_imp];constructor
  ·rintro⟨h1,h2⟩;exact⟨fun e=>by subst e;simp at h1,h2⟩
  ·rintro⟨h1,h2⟩
   refine⟨?_,h2⟩;cases hb:Nat.beq r.dst d
   ·rfl
   ·exact absurd (qN hb) h1
def qih{Rs:List HR}:∀{es:List Edge}{l:List Nat},l5 Rs es=some l ->
  (∀e∈es,Region.binds .any e=true->e.on∈l)/\(∀j∈l,∃e∈es,Region.binds .any e=true/\(j=e.on\/∃r,Rs[e.on]? = some r/\j∈r.pred))
 |[],l,h=>by simp[l5,qI]at h;subst h;exact⟨fun e he=>(by cases he),fun j hj=>(by cases hj)⟩
 |e::es,l,h=>by
  simp[l5]at h;cases hb:Region.binds .any e<;>rw[hb]at h<;>simp at h
  ·obtain⟨h1,h2⟩:=qih h;refine⟨fun e' he' hbe => ?_,fun j hj => ?_⟩
   ·rcases List.mem_cons.1 he' with rfl|he'
    ·rw[hb]at hbe;cases hbe
    ·exact h1 e' he' hbe
   ·obtain⟨e',he',r⟩:=h2 j hj;exact⟨e',qE _ he',r⟩
  ·split at h
   ·rename_i r l' hr hl';simp at h;subst h;obtain⟨h1,h2⟩:=qih hl';refine⟨fun e' he' hbe => ?_,fun j hj => ?_⟩
    ·rw[qh9];rcases List.mem_cons.1 he' with rfl|he'
     ·exact .inl qH
     ·exact .inr (h1 e' he' hbe)
    ·rw[qh9]at hj;rcases hj with hj|hj
     ·rcases List.mem_cons.1 hj with rfl|hj
      ·exact⟨e,qH,hb,.inl rfl⟩
      ·exact⟨e,qH,hb,.inr ⟨r,hr,hj⟩⟩
     ·obtain⟨e',he',r⟩:=h2 j hj;exact⟨e',qE _ he',r⟩
   ·cases h
def q2q{pred reads:List Nat}:∀{rs:List HR}{j:Nat},p6 pred reads rs j=true->∀k r,rs[k]? = some r->j+k∈pred\/r.dst∉reads
 |[],j,_,k,r,hr=>by simp at hr|r0::rs,j,h,k,r,hr=>by
  simp only[p6,qA,Bool.or_eq_true,Bool.not_eq_true']at h
  cases k with
  |zero=>
   simp at hr;subst hr;rcases h.1 with h|h
   ·exact .inl (fh.1 h)
   ·exact .inr (fun hm=>by rw[fh.2 hm]at h;cases h)
  |succ k=>
   have:=q2q h.2 k r (by simpa using hr)
   rwa [show j+(k+1)=j+1+k by omega]
def q32{ops:Array Oper}{d:Nat}{pred:List Nat}:∀{i:Nat},qh ops d pred i=true->∀j o,j<i->ops[j]? = some o->j∈pred\/d∉iw ops o
 |0,_,j,o,hj,_=>by omega|i+1,h,j,o,hj,ho=>by
  simp[qh,qA,Bool.or_eq_true]at h;by_cases hij:j=i
  ·subst hij;rcases h.1 with h|h
   ·exact .inl (fh.1 h)
   ·rw[ho]at h;simp at h;exact .inr (fun hm=>by rw[fh.2 hm]at h;cases h)
  ·exact q32 h.2 j o oA ho
def q3z{o:Oper}{j:Nat}(h:qix o j=true):∃e∈o.after,e.on=j/\Region.binds .any e=true:=by
 obtain⟨e,he,hb⟩:=List.any_eq_true.1 h;simp only[qA]at hb;exact⟨e,by simpa using he,qN hb.1,hb.2⟩
def zft:∀{l:List Oper}{i:Nat},qm4 l i=true->∀j o,l[j]? = some o->qix o (i+j-1)=true
 |[],i,_,j,o,ho=>by simp at ho|o0::l,i,h,j,o,ho=>by
  simp[qm4,qA]at h
  cases j with|zero=>simp at ho;subst ho;exact h.1|succ j=>have:=zft h.2 j o (by simpa using ho);rwa [show i+(j+1)-1=i+1+j-1 by omega]
def qnh{L:List Nat}:∀{es:List Edge},(∀e∈es,Region.binds .any e=true->e.on∈L)->∀j∈qcn es,j∈L
 |[],_,j,h=>by cases h
 |e::es,hL,j,h=>by
  simp[qcn]at h;cases hb:Region.binds .any e<;>rw[hb]at h<;>simp only[qT,qF]at h
  ·exact qnh (fun e he=>hL e (qE _ he)) j h
  ·rcases List.mem_cons.1 h with rfl|h
   ·exact hL e qH hb
   ·exact qnh (fun e he=>hL e (qE _ he)) j h
def zjt{ops:Array Oper}{L:List Nat}(hcl:∀i∈L,∀o,ops[i]? = some o->∀e∈o.after,Region.binds .any e=true->e.on∈L):∀{n:Nat}{S:List Nat},(∀j∈S,j∈L)->∀j∈qou ops n S,j∈L
 |0,S,hS,j,h=>hS j h|n+1,S,hS,j,h=>by
  simp[qou]at h;refine zjt hcl (fun i hi => ?_) j h
  cases hb:bm S n<;>rw[hb]at hi<;>simp at hi
  ·exact hS i hi
  ·split at hi
   ·rename_i o ho;rcases List.mem_append.1 hi with hi|hi
    ·exact qnh (fun e he hb'=>hcl n (hS n (fh.1 hb)) o ho e (by simpa using he) hb') i hi
    ·exact hS i hi
   ·exact hS i hi
def zel{S:List Nat}:∀{n:Nat},qml S n=true->∀j,j<n->j∈S
 |0,_,j,h=>by omega|n+1,h,j,hj=>by
  simp[qml,qA]at h;by_cases e:j=n
  ·subst e;exact fh.1 h.1
  ·exact zel h.2 j oA
def zlj{ops:Array Oper}{n:Nat}(h:nh ops n=true){o:Oper}(ho:ops[n]? = some o){L:List Nat}(hcl:∀i∈L,∀o,ops[i]? = some o->∀e∈o.after,Region.binds .any e=true->e.on∈L)
  (hL:∀e∈o.after,Region.binds .any e=true->e.on∈L):∀j,j<n->j∈L:=fun j hj=>by
 unfold nh at h;split at h
 ·rename_i hd;have:n<ops.size:=(Array.getElem?_eq_some_iff.1 ho).1;have:=congrArg List.length hd;simp at this;omega
 ·rename_i o' l hd;have:o'=o:=by
   have:=congrArg (fun l=>l[0]?) hd
   simp at this;rw[ho]at this;injection this with this;exact this.symm
  subst this;simp at h;exact zjt hcl (qnh fun e he=>hL e (by simpa using he)) j (zel h.1 j hj)
def q3m{ops:Array Oper}{n:Nat}(h:nh ops n=true){i:Nat}{o:Oper}(hi:n<i)(ho:ops[i]? = some o):qix o (i-1)=true:=by
 unfold nh at h;split at h
 ·rename_i hd;have:i<ops.size:=(Array.getElem?_eq_some_iff.1 ho).1;have:=congrArg List.length hd;simp at this;omega
 ·rename_i o' l hd;simp at h;have hl:l[i-(n+1)]? = some o:=by
   have:=congrArg (fun l=>l[i-n]?) hd
   simp at this;rw[show n+(i-n)=i by omega,ho,show i-n=(i-(n+1))+1 by omega,List.getElem?_cons_succ]at this
   exact this.symm
  have:=zft h.2 (i-(n+1)) o hl
  rwa [show n+1+(i-(n+1))-1=i-1 by omega]at this
def n7:∀{l:List Oper}{i:Nat},kj l i=true->∀j o,l[j]? = some o->∀e∈o.after,Region.binds .any e=true->e.on<i+j
 |[],i,_,j,o,ho=>by simp at ho|o0::l,i,h,j,o,ho=>by
  simp only[kj,qA]at h
  cases j with
  |zero=>
   simp at ho;subst ho;intro e he hb;have:=List.all_eq_true.1 h.1 e (by simpa using he)
   simp[hb,Bool.not_true,Bool.false_or,Nat.blt_eq]at this;exact this
  |succ j=>have:=n7 h.2 j o (by simpa using ho);rwa [show i+(j+1)=i+1+j by omega]
def zi{ops:Array Oper}{listed:Array Bool}{i:Nat}:i∈Region.ready .any ops listed↔i<ops.size/\listed.getD i true=false/\∃o,ops[i]? = some o/\∀e∈o.after,Region.binds .any e=true->listed.getD e.on false=true:=by
 unfold Region.ready;simp only[List.mem_filter,List.mem_range,qA,Bool.not_eq_true'];constructor
 ·rintro⟨h1,h2,h3⟩
  obtain⟨o,ho⟩:∃o,ops[i]? = some o:=⟨ops[i],by simp[h1]⟩
  refine⟨h1,h2,o,ho,fun e he hb => ?_⟩
  rw[ho]at h3;simp only[wQ,Option.getD_some]at h3;have:=Array.all_eq_true'.1 h3 e he;simpa [hb] using this
 ·rintro⟨h1,h2,o,ho,h3⟩
  refine⟨h1,h2,?_⟩;rw[ho];simp only[wQ,Option.getD_some];refine Array.all_eq_true'.2 (fun e he => ?_)
  cases hb:Region.binds .any e
  ·simp
  ·simp[h3 e he hb]
def wq:∀(n:Nat)(L:List Nat),L.Nodup->(∀i∈L,i<n)->L.length<=n
 |0,L,_,h=>by
  cases L with|nil=>simp|cons x L=>have:=h x qH;omega
 |n+1,L,hd,h=>by
  by_cases hm:n∈L
  ·have:=wq n (L.erase n) (hd.erase n) (fun i hi=>by
    have h1:=h i (List.mem_of_mem_erase hi);have h2:i≠n:=fun e=>by subst e;exact(hd.not_mem_erase) hi
    omega)
   rw[List.length_erase_of_mem hm]at this;omega
  ·have:=wq n L hd (fun i hi=>by
    have h1:=h i hi;have h2:i≠n:=fun e=>hm (e▸hi)
    omega)
   omega
def q1l:∀(n:Nat)(L:List Nat),(∀i,i<n->i∈L)->n<=L.length
 |0,L,_=>Nat.zero_le _|n+1,L,h=>by
  have hm:n∈L:=h n oA
  have:=q1l n (L.erase n) (fun i hi=>(List.mem_erase_of_ne oA).2 (h i oA))
  rw[List.length_erase_of_mem hm]at this;have:0<L.length:=List.length_pos_of_mem hm;omega
structure uy(ops:Array Oper)(m:Nat)(listed:Array Bool):Prop where
 size:listed.size=ops.size
 iff:∀j,j<ops.size->(listed.getD j true=true↔j<m)
def z1b{ops:Array Oper}{N:Act->World->Prop}{listed:Array Bool}{a:Act}{w:World}(hu:uy ops ops.size listed)(h:N a w):jx P TT ops N (ops.size-ops.size) listed a w:=by
 rw[Nat.sub_self];refine⟨?_,h⟩
 cases hq:Region.ready .any ops listed with
 |nil=>rfl|cons i r=>
  have hi:i∈Region.ready .any ops listed:=by rw[hq];exact qH
  obtain⟨h1,h2,_⟩:=zi.1 hi;rw[(hu.iff i h1).2 h1]at h2;cases h2
def z1c{ops:Array Oper}{N:Act->World->Prop}{n m:Nat}(he:kj ops.toList 0=true)(ht:nh ops n=true)(hn:n<=m)(hms:m<ops.size){listed:Array Bool}{a:Act}{w:World}(hu:uy ops m listed)
  (h:pd P TT ops m (fun a w=>∀listed,uy ops (m+1) listed->jx P TT ops N (ops.size-(m+1)) listed a w) a w):jx P TT ops N (ops.size-m) listed a w:=by
 obtain⟨k,hk⟩:∃k,ops.size-m=k+1:=⟨ops.size-m-1,oA⟩
 obtain⟨o,ho⟩:∃o,ops[m]? = some o:=⟨ops[m],by simp[hms]⟩
 have hli:=hu.iff;have hsz:=hu.size;rw[hk];have hmr:m∈Region.ready .any ops listed:=by
  refine zi.2 ⟨hms,?_,o,ho,fun e hee hb => ?_⟩
  ·cases hq:listed.getD m true
   ·rfl
   ·have:=(hli m hms).1 hq;omega
  ·have:=n7 he m o (by simpa using ho) e hee hb
   have hlt:e.on<m:=oA
   have h5:=(hli e.on oA).2 hlt
   rw[Array.getD_eq_getD_getElem?]at h5 ⊢;have:listed[e.on]? = some listed[e.on]:=by simp[show e.on<listed.size by omega]
   rw[this]at h5 ⊢;exact h5
 refine⟨fun hnil=>(by rw[hnil]at hmr;cases hmr),fun i hi => ?_⟩
 have him:i=m:=by
  obtain⟨i1,i2,oi,i3,i4⟩:=zi.1 hi;rcases Nat.lt_trichotomy i m with hlt|heq|hgt
  ·rw[(hli i i1).2 hlt]at i2;cases i2
  ·exact heq
  ·have hw:=q3m ht (show n<i by omega) i3
   obtain⟨e,he1,he2,he3⟩:=q3z hw;have:=i4 e he1 he3;rw[he2]at this;have hf:listed.getD (i-1) true=false:=by
    cases hq:listed.getD (i-1) true
    ·rfl
    ·have:=(hli (i-1) oA).1 hq;omega
   rw[Array.getD_eq_getD_getElem?]at this hf;have h6:listed[i-1]? = some listed[i-1]:=by simp[show i-1<listed.size by omega]
   rw[h6]at this hf;simp at this hf;rw[this]at hf;cases hf
 subst him;refine zf5 (fun a w h => ?_) h
 have:=h (listed.setIfInBounds i true) ⟨by simp[hsz],fun j hj => ?_⟩
 ·rwa [show ops.size-(i+1)=k by omega]at this
 ·rw[Array.getD_eq_getD_getElem?,Array.getElem?_setIfInBounds];by_cases hij:i=j
  ·subst hij;simp[show i<listed.size by omega]
  ·rw[qW hij];have:=hli j hj;rw[Array.getD_eq_getD_getElem?]at this;rw[this];omega
structure Inv(ops:Array Oper)(n:Nat)(L:List Nat)(listed:Array Bool):Prop where
 nodup:L.Nodup
 lt:∀i∈L,i<n
 size:listed.size=ops.size
 iff:∀j,j<ops.size->(listed.getD j true=true↔j∈L)
 closed:∀i∈L,∀o,ops[i]? = some o->∀e∈o.after,Region.binds .any e=true->e.on∈L
def Inv.getD_false{ops:Array Oper}{n:Nat}{L:List Nat}{listed:Array Bool}(h:Inv ops n L listed){j:Nat}(hj:j<ops.size):listed.getD j false=true↔j∈L:=by
 rw[← h.iff j hj,Array.getD_eq_getD_getElem?,Array.getD_eq_getD_getElem?];have hj':j<listed.size:=by rw[h.size];exact hj
 have:listed[j]? = some listed[j]:=by simp[hj']
 rw[this];simp
def zed{Rs:List HR}(hh:yn s Rs){n:Nat}(ac:Rs.length=n){L:List Nat}(hlt:∀i∈L,i<n)(hall:∀i,i<n->i∈L):(de Rs L s).eqv (li Rs s):=by
 have he:=zea (Rs:=Rs) Rs 0 s (fun k _=>by rw[wO])
 rw[he];have hmem:∀j,j∈(List.range' 0 Rs.length).reverse↔j∈L:=fun j=>by
  rw[List.mem_reverse,List.mem_range'_1,ac];exact⟨fun h=>hall j oA,fun h=>⟨oA,by have:=hlt j h;omega⟩⟩
 refine⟨by rw[(ox Rs _ s).1,(ox Rs _ s).1],by rw[(ox Rs _ s).2,(ox Rs _ s).2],fun d => ?_,fun m => ?_,by rw[qmh,qmh]⟩
 ·by_cases hw:∃j,j∈L/\∃rj:HR,Rs[j]? = some rj/\rj.dst=d
  ·obtain⟨j,hj,rj,hrj,rfl⟩:=hw;rw[qb4 hh hj hrj,qb4 hh ((hmem j).2 hj) hrj]
  ·rw[qgv (fun j hj rj hrj e=>hw ⟨j,hj,rj,hrj,e⟩),qgv (fun j hj rj hrj e=>hw ⟨j,(hmem j).1 hj,rj,hrj,e⟩)]
 ·cases hq:af (de Rs L s).hp m with
  |some b=>exact(qy1 hh (fun j hj=>(hmem j).2 hj) hq).symm
  |none=>
   cases hq':af (de Rs (List.range' 0 Rs.length).reverse s).hp m with|none=>rfl|some b=>rw[qy1 hh (fun j hj=>(hmem j).1 hj) hq']at hq;cases hq
def zjj{ops:Array Oper}{n:Nat}{Rs:List HR}(hn:n<=ops.size)(hed:kj ops.toList 0=true)(hH:∀i o,i<n->ops[i]? = some o->HOk P ops s Rs i o){L:List Nat}
  (hcl:∀i∈L,∀o,ops[i]? = some o->∀e∈o.after,Region.binds .any e=true->e.on∈L):∀(i:Nat)(o:Oper)(r:HR),i<n->ops[i]? = some o->Rs[i]? = some r->(∀e∈o.after,Region.binds .any e=true->e.on∈L)->(∀j∈r.pred,j∈L/\j<i):=by
 intro i
 induction i using Nat.strongRecOn with
 |ind i ih=>
  intro o r hi ho hr hall j hj;obtain⟨r',ps,_,h1,_,_,_,h5,_⟩:=hH i o hi ho;rw[hr]at h1;injection h1 with h1;subst h1
  obtain⟨e,he,hb,hje⟩:=(qih h5).2 j hj;have hlt:=n7 hed i o (by simpa using ho) e (by simpa using he) hb
  have hlt':e.on<i:=oA
  have heL:=hall e (by simpa using he) hb
  rcases hje with rfl|⟨re,hre,hje⟩
  ·exact⟨heL,hlt'⟩
  ·have hre':Rs[e.on]? = some re:=by rw[List.getElem?_take]at hre;rw[qX hlt']at hre;exact hre
   have hoe:ops[e.on]? = some ops[e.on]:=oC
   have:=ih e.on hlt' ops[e.on] re oA hoe hre' (hcl e.on heL _ hoe) j hje
   exact⟨this.1,oA⟩
def zvt{ops:Array Oper}{n:Nat}{Rs:List HR}{N:Act->World->Prop}(hn:n<=ops.size)(hed:kj ops.toList 0=true)(ht:nh ops n=true)(ac:Rs.length=n)
  (hH:∀i o,i<n->ops[i]? = some o->HOk P ops s Rs i o) (hh:yn s Rs)
  (htail:∀(G:Gh)(a:Act)(w:World)(listed:Array Bool),ai vhe vg8 vhb G (li Rs s) a w->uy ops n listed->jx P TT ops N (ops.size-n) listed a w) :
  ∀(g:Nat)(L:List Nat)(listed:Array Bool)(G:Gh)(a:Act)(w:World),ops.size=g+L.length->Inv ops n L listed->ai vhe vg8 vhb G (de Rs L s) a w->jx P TT ops N g listed a w:=by
 intro g
 induction g with
 |zero=>
  intro L listed G a w hg hinv hr;have h1:=wq n L hinv.nodup hinv.lt;have hnn:n=ops.size:=oA
  have hall:∀i,i<n->i∈L:=fun i hi=>by
   by_cases hm:i∈L
   ·exact hm
   ·have:=wq n (i::L) (List.nodup_cons.2 ⟨hm,hinv.nodup⟩) (fun j hj=>by
     rcases List.mem_cons.1 hj with rfl|hj;· exact hi
     ·exact hinv.lt j hj)
    simp at this;omega
  have:=htail G a w listed (hr.eqv (zed hh ac hinv.lt hall)) ⟨hinv.size,fun j hj=>by rw[hinv.iff j hj];exact⟨fun h=>hinv.lt j h,fun h=>hall j h⟩⟩
  rwa [hnn,Nat.sub_self]at this
 |succ g ih=>
  intro L listed G a w hg hinv hr;by_cases hall:∀i,i<n->i∈L
  ·have h1:=wq n L hinv.nodup hinv.lt;have h2:=q1l n L hall;have:=htail G a w listed (hr.eqv (zed hh ac hinv.lt hall)) ⟨hinv.size,fun j hj=>by rw[hinv.iff j hj];exact⟨fun h=>hinv.lt j h,fun h=>hall j h⟩⟩
   rwa [show ops.size-n=g+1 by omega]at this
  ·
   have hex:∃i,i<n/\i∉L/\∀j,j<i->j∈L:=by
    have:∃i,i<n/\i∉L:=by
     simpa using hall
    obtain⟨i,hi,hm⟩:=this;clear hall
    induction i using Nat.strongRecOn with
    |ind i ih=>
     by_cases hsm:∀j,j<i->j∈L
     ·exact⟨i,hi,hm,hsm⟩
     ·have:∃j,j<i/\j∉L:=by simpa using hsm
      obtain⟨j,hj,hjm⟩:=this;exact ih j hj oA hjm
   obtain⟨i0,hi0,hm0,hsm0⟩:=hex;have hi0s:i0<ops.size:=oA
   have h0r:i0∈Region.ready .any ops listed:=by
    refine zi.2 ⟨hi0s,?_,ops[i0],oC,fun e he hb => ?_⟩
    ·cases hq:listed.getD i0 true
     ·rfl
     ·exact absurd ((hinv.iff i0 hi0s).1 hq) hm0
    ·have:=n7 hed i0 ops[i0] oC e he hb
     have hlt:e.on<i0:=oA
     exact(hinv.getD_false oA).2 (hsm0 _ hlt)
   refine⟨fun hnil=>(by rw[hnil]at h0r;cases h0r),fun i hi => ?_⟩
   obtain⟨i1,i2,o,i3,i4⟩:=zi.1 hi;have hiL:i∉L:=fun h=>by rw[(hinv.iff i i1).2 h]at i2;cases i2
   have hin:i<n:=by
    rcases Nat.lt_or_ge i n with h|h
    ·exact h
    ·rcases Nat.lt_or_ge n i with h|h
     ·obtain⟨e,he1,he2,he3⟩:=q3z (q3m ht h i3);have:=i4 e he1 he3;rw[he2,hinv.getD_false oA]at this
      have:=hinv.lt _ this;omega
     ·have:i=n:=oA
      subst this;exact absurd (zlj ht i3 hinv.closed (fun e he hb=>by
       have hlt:=n7 hed i o (by simpa using i3) e he hb
       exact(hinv.getD_false oA).1 (i4 e he hb)) i0 hi0) hm0
   have hedge:∀e∈o.after,Region.binds .any e=true->e.on∈L:=fun e he hb=>by
    have hlt:=n7 hed i o (by simpa using i3) e he hb
    exact(hinv.getD_false oA).1 (i4 e he hb)
   obtain⟨r,ps,c,h1,h2,h3,h4,h5,h6,h7,h8,h9,h10⟩:=hH i o hin i3;have hpred:=zjj hn hed hH hinv.closed i o r hin i3 h1 hedge;have hlen':∀k,k<(Rs.take i).length->Rs[0+k]? = (Rs.take i)[k]? := fun k hk=>by
    rw[List.getElem?_take,qX (by simp at hk;omega),wO]
   have htk:(Rs.take i).length=i:=by simp;omega
   rw[qy6 (Rs:=Rs) (Rs.take i) 0 s hlen',htk]at h9
   -- which slots and boxes the operation sees
   have hsel:∀j,j∈((List.range' 0 i).filter (bm r.pred)).reverse↔j∈r.pred:=fun j=>by
    rw[List.mem_reverse,List.mem_filter,fh];constructor
    ·exact fun h=>h.2
    ·intro h;refine⟨?_,h⟩;rw[List.mem_range'_1];exact⟨oA,by have:=(hpred j h).2;omega⟩
   have hreads:∀d∈iw ops o,af (de Rs ((List.range' 0 i).filter (bm r.pred)).reverse s).fr d=af (de Rs L s).fr d:=fun d hd=>by
    by_cases hw:∃j rj,Rs[j]? = some rj/\rj.dst=d/\(j∈r.pred\/j∈L)
    ·obtain⟨j,rj,hj,rfl,hjj⟩:=hw;have hjp:j∈r.pred:=by
      rcases hjj with h|h
      ·exact h
      ·
       have hjn:=hinv.lt j h;have hji:j≠i:=fun e=>hiL (e▸h)
       rcases Nat.lt_or_gt_of_ne hji with hlt|hgt
       ·rcases q2q h7 j rj (by rw[List.getElem?_take,qX hlt];exact hj) with h'|h'
        ·simpa using h'
        ·exact absurd hd h'
       ·have hoj:ops[j]? = some ops[j]:=oC
        obtain⟨rj',psj,cj,k1,k2,_,_,_,_,_,k8,_⟩:=hH j ops[j] hjn hoj;rw[hj]at k1;injection k1 with k1;subst k1
        rcases q32 k8 i o hgt i3 with h'|h'
        ·have:=zjj hn hed hH hinv.closed j ops[j] rj hjn hoj hj (hinv.closed j h _ hoj) i h';exact absurd this.1 hiL
        ·exact absurd hd h'
     rw[qb4 hh ((hsel j).2 hjp) hj,qb4 hh (hpred j hjp).1 hj]
    ·rw[qgv (fun j hj rj hrj e=>hw ⟨j,rj,hrj,e,.inl ((hsel j).1 hj)⟩),qgv (fun j hj rj hrj e=>hw ⟨j,rj,hrj,e,.inr hj⟩)]
   have hsees:ow o (de Rs ((List.range' 0 i).filter (bm r.pred)).reverse s) (de Rs L s):=by
    refine⟨by rw[(ox Rs _ s).2,(ox Rs _ s).2],fun x hx => ?_,fun m b hb=>qy1 hh (fun j hj=>(hpred j ((hsel j).1 hj)).1) hb,fun d hd => ?_⟩
    ·cases x with
     |tmp t=>
      exact hreads t (by simp only[iw];refine List.mem_append.2 (.inl ?_);rw[List.mem_filterMap];exact⟨.tmp t,hx,rfl⟩)
     |_=>rfl
    ·rw[h2]at hd;injection hd with hd;subst hd
     rw[(ox Rs _ s).2];exact zee hh h1 hiL
   have h9':=zey hsees hreads h9;have hadd:(de Rs L s).add o.dst r.v r.new=some (de Rs (i::L) s):=by
    rw[h2];have hbl:Nat.blt r.dst s.n=true:=by simpa using h3
    simp only[St.add,(ox Rs L s).1,hbl,qT,de,h1,St.addR]
   refine zex hr i3 h9' h10 hadd (fun G' a' w' hr'=>ih (i::L) _ G' a' w' oD ?_ hr')
   refine⟨List.nodup_cons.2 ⟨hiL,hinv.nodup⟩,fun j hj => ?_,by simp[hinv.size],fun j hj => ?_,fun j hj oj hoj e he hb => ?_⟩
   ·rcases List.mem_cons.1 hj with rfl|hj
    ·exact hin
    ·exact hinv.lt j hj
   ·rw[Array.getD_eq_getD_getElem?,Array.getElem?_setIfInBounds];by_cases hij:i=j
    ·subst hij;simp[hinv.size,i1]
    ·rw[qW hij];have:=hinv.iff j hj;rw[Array.getD_eq_getD_getElem?]at this;rw[this,wE];exact⟨fun h => .inr h,fun h=>h.resolve_left (fun e=>hij e.symm)⟩
   ·rcases List.mem_cons.1 hj with rfl|hj
    ·rw[i3]at hoj;injection hoj with hoj;subst hoj
     exact qE _ (hedge e he hb)
    ·exact qE _ (hinv.closed j hj oj hoj e he hb)
def zux{ops:Array Oper}{n:Nat}{Rs:List HR}{N:Act->World->Prop}(hn:n<=ops.size)(hed:kj ops.toList 0=true)(ht:nh ops n=true)(hm:P.follows .mixedOrders=true)(ac:Rs.length=n)
  (hH:∀i o,i<n->ops[i]? = some o->HOk P ops s Rs i o)
  (htail:∀(G:Gh)(a:Act)(w:World)(listed:Array Bool),ai vhe vg8 vhb G (li Rs s) a w->uy ops n listed->jx P TT ops N (ops.size-n) listed a w) {G:Gh} {a:Act} {w:World} (hr:ai vhe vg8 vhb G s a w) (id:Nat)
  (b:Frame) (k:List Item) (cs:List Frame) (hk:b.kind = .normal) :
  (∃a' w',N a' w'/\Steps P (lone (b.atR a.bs (.code (.region id ops true)::k)) cs w) (lone (b.atR a'.bs k) cs w'))\/io P b.fn TT (lone (b.atR a.bs (.code (.region id ops true)::k)) cs w) cs:=by
 have hop:∀i,i<n->ops[i]? = some (ops[i]?.getD default):=fun i hi=>by
  have:i<ops.size:=oA
  simp[this]
 have hh:yn s Rs:=by
  refine⟨fun i j r r' hi hj hd => ?_,fun i r hi => ?_,fun i r hi => ?_⟩
  ·have hi':i<n:=by have:=(List.getElem?_eq_some_iff.1 hi).1;omega
   have hj':j<n:=by have:=(List.getElem?_eq_some_iff.1 hj).1;omega
   obtain⟨ri,_,_,k1,_,_,_,_,k6,_⟩:=hH i _ hi' (hop i hi');obtain⟨rj,_,_,l1,_,_,_,_,l6,_⟩:=hH j _ hj' (hop j hj');rw[hi]at k1;injection k1 with k1;subst k1
   rw[hj]at l1;injection l1 with l1;subst l1
   rcases Nat.lt_trichotomy i j with hlt|heq|hgt
   ·exact absurd hd (vv.1 l6 r (List.mem_of_getElem? (i:=i) (by rw[List.getElem?_take,qX hlt];exact hi)))
   ·exact heq
   ·exact absurd hd.symm (vv.1 k6 r' (List.mem_of_getElem? (i:=j) (by rw[List.getElem?_take,qX hgt];exact hj)))
  ·have hi':i<n:=by have:=(List.getElem?_eq_some_iff.1 hi).1;omega
   obtain⟨ri,ps,_,k1,k2,_,_,_,_,_,_,k9,_⟩:=hH i _ hi' (hop i hi');rw[hi]at k1;injection k1 with k1;subst k1
   have:=zew k2 k9;have hlen':∀k,k<(Rs.take i).length->Rs[0+k]? = (Rs.take i)[k]? := fun k hk=>by
    rw[List.getElem?_take,qX (by simp at hk;omega),wO]
   rw[qy6 (Rs:=Rs) (Rs.take i) 0 s hlen',(ox Rs _ s).2]at this;exact this
  ·have hi':i<n:=by have:=(List.getElem?_eq_some_iff.1 hi).1;omega
   obtain⟨ri,_,_,k1,_,_,k4,_⟩:=hH i _ hi' (hop i hi');rw[hi]at k1;injection k1 with k1;subst k1
   exact k4
 refine zf6 hm ?_ b k cs hk;refine zvt (vhe:=vhe) (vg8:=vg8) (vhb:=vhb) (N:=N) hn hed ht ac hH hh htail ops.size [] _ G a _ oC ?_ ?_
 ·refine⟨List.nodup_nil,fun i hi=>(by cases hi),oC,fun j hj => ?_,fun i hi=>(by cases hi)⟩
  rw[Array.getD_eq_getD_getElem?];simp[hj]
 ·exact⟨hr.defers,hr.size,hr.frame,hr.fresh,⟨⟨hr.fin.mem.agree,hr.fin.mem.one,hr.fin.mem.holds,hr.fin.mem.apart,hr.fin.mem.tab⟩,⟨hr.fin.bel.os,hr.fin.bel.tape,hr.fin.bel.output,hr.fin.bel.size,hr.fin.bel.block⟩,hr.fin.imm_le,hr.fin.imm_new,hr.fin.base,hr.fin.keep,hr.fin.keepOwn⟩⟩
end
end Go.Sym
namespace Go.Sym
open Go.RowKit
variable[LC]
def St.ownNew(s:St)(k:Nat)(τ:Ty)(E:TypeId):St:={ s with hp:=(k,.row τ [] E)::s.hp }
def lx:AV->Bool|.val (.slice none 0 0)=>true|_=>false
def St.ownNil(s:St)(i:Nat)(τ:Ty)(E:TypeId):Option St:=
 match af s.fr i with
 |some x=>bif lx x&&a7 (s.nx+32*i) s.hp then
   some { n:=s.n,fr:=(i,.own (s.nx+32*i))::s.fr,hp:=(s.nx+32*i,.row τ [] E)::s.hp,nx:=s.nx+32*s.n,df:=s.df } else none
 |none=>none
def St.ownCell(s:St)(b off:Nat)(τ:Ty)(E:TypeId):Option St:=
 match af s.hp b with
 |some (.cells cs T)=>match cs[off]? with
  |some x=>bif lx x&&a7 s.nx s.hp then
    some { n:=s.n,fr:=s.fr,hp:=(b,.cells (cs.set off (.own s.nx)) T)::(s.nx,.row τ [] E)::s.hp,nx:=s.nx+32*s.n,df:=s.df } else none
  |none=>none
 |_=>none
section
variable{P:Program}{vhe:World}{vg8:Gh}{vhb:List (Nat×ag)}{G:Gh}{s:St}{a:Act}{w:World}
def ai.bump(hr:ai vhe vg8 vhb G s a w):ai vhe vg8 vhb G s.bump a w:=⟨hr.defers,hr.size,hr.frame,fun m hm hl=>hr.fresh m (by simp[St.bump]at hm;omega) hl,hr.fin⟩
mutual
def aj.frz{k:Nat}{y:AV}{G':Gh}(hle:G.le G')(hy:∀v,aj (.own k) G v->aj y G' v):∀{x:AV}{v:Value},aj x G v->aj (AV.frz k y x) G' v
 |.undef,_,_=>trivial|.int _ _,_,h=>h|.byte _,_,h=>h|.bool _,_,h=>h|.str _,_,h=>h|.val _,_,h=>h|.sl τ l,v,h=>(show aj (.sl τ l) G v from h).le hle|.yld n,v,h=>(show aj (.yld n) G v from h).le hle|.pn n,v,h=>(show aj (.pn n) G v from h).le hle|.arr τ l,v,h=>(show aj (.arr τ l) G v from h).le hle|.rop cs,v,h=>(show aj (.rop cs) G v from h).le hle|.ptr b off,v,h=>(show aj (.ptr b off) G v from h).le hle|.oel n sz i off,v,h=>(show aj (.oel n sz i off) G v from h).le hle|.osl n sz lo,v,h=>(show aj (.osl n sz lo) G v from h).le hle|.asl b n c,v,h=>(show aj (.asl b n c) G v from h).le hle|.agg cs,_,⟨vs,h1,h2⟩=>⟨vs,h1,ak.frz hle hy h2⟩|.tup cs,_,⟨vs,h1,h2⟩=>⟨vs,h1,ak.frz hle hy h2⟩|.own n,v,h=>by
  simp[AV.frz];cases hb:Nat.beq n k
  ·exact(show aj (.own n) G v from h).le hle
  ·have:=qN hb;subst this;exact hy v h
 |.fn f first cap,_,⟨fs,cs,h1,h2,h3⟩=>⟨fs,cs,h1,ak.frz hle hy h2,ak.frz hle hy h3⟩
 |.iface t x,_,⟨u,h1,h2⟩=>⟨u,h1,aj.frz hle hy h2⟩
def ak.frz{k:Nat}{y:AV}{G':Gh}(hle:G.le G')(hy:∀v,aj (.own k) G v->aj y G' v):∀{xs:List AV}{vs:List Value},ak xs G vs->ak (AV.frzs k y xs) G' vs|[],[],_=>trivial|_x::_xs,_v::_vs,h=>⟨aj.frz hle hy h.1,ak.frz hle hy h.2⟩|[],_::_,h=>h.elim|_::_,[],h=>h.elim
end
def q02{k:Nat}{y:AV}:∀{fr:List (Nat×AV)}{i:Nat}{x:AV},af (qho k y fr) i=some x->∃x0,af fr i=some x0/\x=AV.frz k y x0
 |[],i,x,h=>by cases h
 |(n,z)::r,i,x,h=>by
  simp[qho,af]at h ⊢;cases hb:Nat.beq n i
  ·rw[hb]at h;exact q02 h
  ·rw[hb]at h;simp only[qT,qI]at h ⊢;exact⟨z,rfl,h.symm⟩
def q03{k:Nat}{y:AV}:∀{hp:List (Nat×ag)}{i:Nat},af (qhp k y hp) i=(af hp i).map (qnz k y)
 |[],i=>rfl|(n,b)::r,i=>by
  simp[qhp,af];cases hb:Nat.beq n i<;>simp[q03 (hp:=r)]
def ai.freeze(hr:ai vhe vg8 vhb G s a w){k:Nat}{s':St}(h:s.freeze k=some s'):∃G',ai vhe vg8 vhb G' s' a w:=by
 unfold St.freeze at h;split at h
 ·rename_i τ l E hk;simp at h;subst h;have hl1:∀n bx,af [(k,ag.row τ l E)] n=some bx->n=k/\bx = .row τ l E:=fun n bx h=>by
   simp[af]at h;cases hb:Nat.beq k n
   ·rw[hb]at h;cases h
   ·rw[hb]at h;simp at h;exact⟨(qN hb).symm,h.symm⟩
  have hlk:af [(k,ag.row τ l E)] k=some (.row τ l E):=by simp only[af];rw[show Nat.beq k k=true by simp];rfl
  have hf1:Fin vhe vg8 vhb G ({ s with hp:=[(k,.row τ l E)] }:St).hp w:=by
   refine⟨⟨hr.fin.mem.agree,hr.fin.mem.one,fun n bx hb => ?_,fun n m bx bx' b h1 h2 _ _ => ?_,hr.fin.mem.tab⟩,hr.fin.bel,hr.fin.imm_le,hr.fin.imm_new,fun n bx b h1 h2 => ?_,hr.fin.keep,hr.fin.keepOwn⟩
   ·obtain⟨rfl,rfl⟩:=hl1 n bx hb;exact hr.fin.mem.holds _ _ hk
   ·obtain⟨rfl,_⟩:=hl1 n bx h1;obtain⟨rfl,_⟩:=hl1 m bx' h2;rfl
   ·obtain⟨rfl,rfl⟩:=hl1 n bx h1;exact hr.fin.base _ _ b hk h2
  obtain⟨z1,z2,z3,z4⟩:=qy8 hf1
  let G':=G.allData [(k,.row τ l E)] w
  have hown:∀v,aj (.own k) G v->aj (.sl τ l) G' v:=fun v hv=>z4 k τ l E v hlk hv
  have hnew:∀b o v,G'.imm b o=some v->G.imm b o=some v\/G.at k (.row τ l E)=some b:=fun b o v h=>by
   simp[G',Gh.allData]at h
   cases hq:G.imm b o with
   |some u=>rw[hq]at h;exact .inl h|none=>
    rw[hq]at h;simp only at h;split at h
    ·rename_i hin;obtain⟨n,τ1,l1,E1,i1,i2,_⟩:=hin;obtain⟨rfl,e⟩:=hl1 n _ i1;rw[e]at i2;exact .inr i2
    ·cases h
  have hother:∀n bx B,n≠k->af s.hp n=some bx->G.at n bx=some B->(∀o,G.imm B o=none)->∀o,G'.imm B o=none:=fun n bx B hn h1 h2 h3 o=>by
   cases hq:G'.imm B o with
   |none=>rfl|some v=>
    rcases hnew B o v hq with h|h
    ·rw[h3]at h;cases h
    ·exact absurd (hr.fin.mem.apart n k bx _ B h1 hk h2 h) hn
  have hlook:∀n bx,af ((k,ag.dead)::qhp k (.sl τ l) s.hp) n=some bx->bx = .dead\/(n≠k/\∃b0,af s.hp n=some b0/\bx=qnz k (.sl τ l) b0):=fun n bx h=>by
   simp[af]at h;cases hb:Nat.beq k n
   ·rw[hb]at h;simp at h;rw[q03]at h
    cases hq:af s.hp n with
    |none=>rw[hq]at h;cases h
    |some b0=>rw[hq]at h;simp at h;exact .inr ⟨fun e=>by subst e;simp at hb,b0,rfl,h.symm⟩
   ·rw[hb]at h;simp at h;exact .inl h.symm
  have hat:∀n b0,G'.at n (qnz k (.sl τ l) b0)=G.at n b0:=fun n b0=>by cases b0<;>rfl
  refine⟨G',⟨hr.defers,hr.size,fun i x hx => ?_,fun m hm hl => ?_,⟨⟨z2.agree,z2.one,fun n bx hb => ?_,fun n m bx bx' b h1 h2 h3 h4 => ?_,z2.tab⟩,hr.fin.bel,fun b o v h=>z1.imm _ _ _ (hr.fin.imm_le b o v h),fun b o v h => ?_,fun n bx b h1 h2 => ?_,hr.fin.keep,hr.fin.keepOwn⟩⟩⟩
  ·obtain⟨x0,h1,rfl⟩:=q02 hx;obtain⟨v,h2,h3⟩:=hr.frame i x0 h1;exact⟨v,h2,aj.frz z1 hown h3⟩
  ·refine hr.fresh m hm ?_;simp[af]at hl;cases hb:Nat.beq k m
   ·rw[hb]at hl;simp at hl;rw[q03]at hl
    cases hq:af s.hp m with|none=>rfl|some b0=>rw[hq]at hl;cases hl
   ·rw[hb]at hl;cases hl
  ·rcases hlook n bx hb with rfl|⟨hn,b0,h0,rfl⟩
   ·trivial
   ·have hb0:=hr.fin.mem.holds n b0 h0;have ho:=hother n b0
    cases b0 with
    |cells cs T=>
     obtain⟨B,vs,h1,h2,h3,h4,h5⟩:=hb0;exact⟨B,vs,h1,h2,ak.frz z1 hown h3,h4,ho B hn h0 (by simp[Gh.at,h1]) h5⟩
    |loop st pe f j fr ps tag D=>
     obtain⟨B,tmps,DB,h1,h2,h3,h4,h5,h6⟩:=hb0;refine⟨B,tmps,DB,h1,h2,h3,h4,fun i x hx => ?_,ho B hn h0 (by simp[Gh.at,h1]) h6⟩
     obtain⟨x0,q1,rfl⟩:=q02 hx;obtain⟨v,q2,q3⟩:=h5 i x0 q1;exact⟨v,q2,aj.frz z1 hown q3⟩
    |dfr=>
     obtain⟨B,h1,h2,h3⟩:=hb0;exact⟨B,h1,h2,ho B hn h0 (by simp[Gh.at,h1]) h3⟩
    |it s0 p0=>
     obtain⟨B,h1,h2,h3⟩:=hb0;exact⟨B,h1,h2,ho B hn h0 (by simp[Gh.at,h1]) h3⟩
    |row τ1 l1 E1=>
     obtain⟨ad,c,h1,h3⟩:=hb0;refine⟨ad,c,h1,?_⟩;rcases h3 with h3|⟨g,vs,fz,k1,k2,k3,k4,k5,k6,k7,k8,k9⟩
     ·exact .inl h3
     ·exact .inr ⟨g,vs,fz,k1,k2,k3,k4,k5,k6,ak.data_le z1.imm k7,k8,ho g hn h0 (by subst k1;simp[Gh.at,h1]) k9⟩
    |dead=>trivial
  ·rcases hlook n bx h1 with rfl|⟨hn,b0,h0,rfl⟩
   ·cases h3
   ·rcases hlook m bx' h2 with rfl|⟨hm,b1,h5,rfl⟩
    ·cases h4
    ·rw[hat]at h3 h4;exact hr.fin.mem.apart n m b0 b1 b h0 h5 h3 h4
  ·rcases hnew b o v h with h|h
   ·exact hr.fin.imm_new b o v h
   ·exact .inr (hr.fin.base k _ b hk h)
  ·rcases hlook n bx h1 with rfl|⟨hn,b0,h0,rfl⟩
   ·cases h2
   ·rw[hat]at h2;exact hr.fin.base n b0 b h0 h2
 ·cases h
def zhi{x:AV}(h:lx x=true):x = .val (.slice none 0 0):=by
 unfold lx at h;split at h
 ·rfl
 ·cases h
def ai.ownNew(hr:ai vhe vg8 vhb G s a w){k:Nat}(τ:Ty)(E:TypeId)(hk:af s.hp k=none)(hkx:s.nx<=k):∃G',G.le G'/\G'.own k=some (none,0,0)/\ai vhe vg8 vhb G' (s.ownNew k τ E) a w:=by
 obtain⟨hkb,hko⟩:=hr.fresh k hkx hk;have hle:G.le (G.addOwn k (none,0,0)):=Gh.addOwn_le hko;have hl1:∀n bx,af [(k,ag.row τ [] E)] n=some bx->n=k/\bx = .row τ [] E:=fun n bx h=>by
  simp[af]at h;cases hb:Nat.beq k n
  ·rw[hb]at h;cases h
  ·rw[hb]at h;simp at h;exact⟨(qN hb).symm,h.symm⟩
 refine⟨G.addOwn k (none,0,0),hle,Gh.addOwn_self,⟨by obtain⟨bs,q1,q2⟩:=hr.defers;exact⟨bs,q1,qy hle.box q2⟩,hr.size,fun j x hx => ?_,fun m hm hlm => ?_,?_⟩⟩
 ·obtain⟨v,h1,h2⟩:=hr.frame j x hx;exact⟨v,h1,h2.le hle⟩
 ·simp[St.ownNew,af]at hlm;cases hq:Nat.beq k m
  ·rw[hq]at hlm;obtain⟨h1,h2⟩:=hr.fresh m hm hlm;refine⟨h1,?_⟩;show(bif Nat.beq m k then some _ else G.own m)=none
   cases hbm:Nat.beq m k
   ·exact h2
   ·have:=qN hbm;subst this;simp at hq
  ·rw[hq]at hlm;cases hlm
 ·refine hr.fin.extend (new:=[(k,.row τ [] E)]) hle ⟨rfl,rfl,rfl,wF _,fun _ _ _=>rfl⟩ (fun _ _ _ h => .inl h) hr.fin.mem.agree hr.fin.mem.one ?_ ?_ ?_
  ·intro n bx h;obtain⟨rfl,_⟩:=hl1 n bx h;exact hk
  ·intro n bx h;obtain⟨rfl,rfl⟩:=hl1 n bx h;exact⟨⟨none,0,Gh.addOwn_self,.inl ⟨rfl,rfl,rfl⟩⟩,fun b hb=>by simp only[Gh.at,Gh.addOwn_self]at hb;cases hb⟩
  ·intro n m bx bx' b h1 h2 _ _;obtain⟨rfl,_⟩:=hl1 n bx h1;obtain⟨rfl,_⟩:=hl1 m bx' h2;rfl
def ai.ownNil(hr:ai vhe vg8 vhb G s a w){i:Nat}{τ:Ty}{E:TypeId}{s':St}(h:s.ownNil i τ E=some s'):∃G',ai vhe vg8 vhb G' s' a w:=by
 unfold St.ownNil at h;split at h
 ·rename_i x hi;cases hb:lx x&&a7 (s.nx+32*i) s.hp<;>rw[hb]at h<;>simp at h
  subst h;simp at hb;have hx:=zhi hb.1;subst hx;obtain⟨G',hle,ho,hr'⟩:=hr.ownNew τ E (ly hb.2 _ (wF _) oA) oA
  refine⟨G',⟨hr'.defers,hr'.size,fun j x hx => ?_,fun m hm hl=>hr'.fresh m (by simp only at hm;show s.nx<=m;omega) hl,hr'.fin⟩⟩
  simp[af]at hx;cases hq:Nat.beq i j
  ·rw[hq]at hx;exact hr'.frame j x hx
  ·rw[hq]at hx;simp at hx;subst hx;have:=qN hq;subst this;obtain⟨v,h1,h2⟩:=hr'.frame i _ hi;exact⟨v,h1,none,0,0,ho,h2⟩
 ·cases h
def ai.ownCell(hr:ai vhe vg8 vhb G s a w){b off:Nat}{τ:Ty}{E:TypeId}{s':St}(h:s.ownCell b off τ E=some s'):∃G',ai vhe vg8 vhb G' s' a w:=by
 unfold St.ownCell at h;split at h
 ·rename_i cs T hb0;split at h
  ·rename_i x hx0;cases hb:lx x&&a7 s.nx s.hp<;>rw[hb]at h<;>simp at h
   subst h;simp at hb;have hx:=zhi hb.1;subst hx;have hk:=ly hb.2 s.nx (wF _) oA
   obtain⟨G',hle,ho,hr'⟩:=hr.ownNew τ E hk (wF _);have hne:s.nx≠b:=fun e=>by rw[e,hb0]at hk;cases hk
   have hb1:af (s.ownNew s.nx τ E).hp b=some (.cells cs T):=by
    simp[St.ownNew,af];cases hq:Nat.beq s.nx b
    ·exact hb0
    ·exact absurd (qN hq) hne
   obtain⟨B,vs,k1,k2,k3,k4,k5⟩:=hr'.fin.mem.holds _ _ hb1;refine⟨G',⟨hr'.defers,hr'.size,hr'.frame,fun m hm hl=>hr'.fresh m (by simp only at hm;show s.nx<=m;omega) ?_,?_⟩⟩
   ·simp[af]at hl;cases hq:Nat.beq b m
    ·rw[hq]at hl;exact hl
    ·rw[hq]at hl;cases hl
   ·have hv:vs.toList[off]? = some (.slice none 0 0):=by
     obtain⟨v,h1,h2⟩:=jk k3 hx0;simp[aj]at h2;subst h2;exact h1
    have hset:vs.toList.set off (.slice none 0 0)=vs.toList:=by
     obtain⟨hlt,he⟩:=List.getElem?_eq_some_iff.1 hv;rw[← he,List.set_getElem_self]
    refine hr'.fin.update (bx := .cells cs T) (bx' := .cells (cs.set off (.own s.nx)) T) hb1 (B:=B) k1 k1 ⟨rfl,rfl,rfl,wF _,fun _ _ _=>rfl⟩ ⟨B,vs,k1,k2,?_,k4,k5⟩ k5
    have:=qij off k3 (x := .own s.nx) (v := .slice none 0 0) ⟨none,0,0,ho,rfl⟩
    rwa [hset]at this
  ·cases h
 ·cases h
end
def Ty.dec:(τ:Ty)->List AV->Option (τ.den×List AV)
 |.int k,x::r=>match x with|.int k' n=>bif decide (k'=k) then some (n,r) else none|.val (.int k' n)=>bif decide (k'=k) && !decide (k' = .u8) then some (n,r) else none|_=>none
 |.byte,x::r=>match x with|.byte c=>some (c,r)|.val (.int .u8 n)=>bif decide (0<=n)&&decide (n<256) then some (UInt8.ofNat n.toNat,r) else none|_=>none
 |.bool,x::r=>match x with|.bool b=>some (b,r)|.val (.bool b)=>some (b,r)|_=>none
 |.str,x::r=>match x with|.str s=>some (s,r)|_=>none
 |.unit,r=>some ((),r)|.prod a b,cs=>match a.dec cs with
  |some (x,r)=>match b.dec r with|some (y,r')=>some ((x,y),r')|none=>none
  |none=>none
 |.list a,x::r=>match x with
  |.sl a' l=>match Ty.eq? a' a with|some ⟨h⟩=>some (h▸l,r)|none=>none
  |.val (.slice none 0 0)=>some (([]:List a.den),r)|_=>none
 |.tree a,cs=>match a.dec cs with
  |some (v,x::r)=>match x with
   |.sl a' l=>match Ty.eq? a' (.tree a) with|some ⟨h⟩=>some (Tree.node v (h▸l:List (Ty.tree a).den),r)|none=>none
   |.val (.slice none 0 0)=>some (Tree.node v [],r)|_=>none
  |_=>none
 |_,[]=>none
def zl7{b:Bool}{hp:List (Nat×ag)}:∀{xs ys xs' ys':List AV}{ps ps':List Prop},bn b hp xs ys=some ps->bn b hp xs' ys'=some ps'->bn b hp (xs++xs') (ys++ys')=some (ps++ps')
 |[],[],_,_,ps,ps',h,h'=>by simp[bn,qI]at h;subst h;exact h'|x::xs,y::ys,xs',ys',ps,ps',h,h'=>by
  simp[bn,wK]at h ⊢;split at h
  ·rename_i p1 h1;split at h
   ·rename_i p2 h2;simp at h;subst h;rw[zl7 h2 h',qS]
   ·cases h
  ·cases h
 |[],_::_,_,_,_,_,h,_=>by simp[bn]at h|_::_,[],_,_,_,_,h,_=>by simp[bn]at h
def f5(xs ys:List AV):Prop:=(∀ρ,AV.rens ρ xs=xs)/\∃ps,bn false [] xs ys=some ps/\ap ps
def f5.append{xs ys xs' ys':List AV}(h:f5 xs ys)(h':f5 xs' ys'):f5 (xs++xs') (ys++ys'):=by
 obtain⟨h1,ps,h2,h3⟩:=h;obtain⟨h1',ps',h2',h3'⟩:=h';exact⟨fun ρ=>by rw[AV.rens_append,h1,h1'],_,zl7 h2 h2',dt.2 ⟨h3,h3'⟩⟩
def f5.one{x y:AV}(h:∀ρ,x.ren ρ=x){ps:List Prop}(hv:vw false [] x y=some ps)(hp:ap ps):f5 [x] [y]:=
 ⟨fun ρ=>by simp[AV.rens,h],ps++[],by simp[bn,hv],dt.2 ⟨hp,trivial⟩⟩
def f5.same{x:AV}(h:∀ρ,x.ren ρ=x)(hv:vw false [] x x=some [x=x]):f5 [x] [x]:=f5.one h hv ⟨rfl,trivial⟩
def zfr{a' a:Ty}(h:a'=a)(l:List a'.den):AV.sl a (h▸l)=AV.sl a' l:=by subst h;rfl
def tj:∀{τ:Ty}{cs:List AV}{d:τ.den}{r:List AV},τ.dec cs=some (d,r)->∃ab,cs=ab++r/\f5 ab (τ.enc d)
 |.int k,x::cs,d,r,h=>by
  simp[Ty.dec]at h;split at h
  ·rename_i k' n;cases hk:decide (k'=k)<;>rw[hk]at h<;>simp at h
   obtain⟨rfl,rfl⟩:=h;have:k'=k:=by simpa using hk
   subst this;exact⟨[.int k' d],rfl,f5.same (fun ρ=>rfl) rfl⟩
  ·rename_i k' n;cases hk:decide (k'=k) && !decide (k' = .u8)<;>rw[hk]at h<;>simp at h
   obtain⟨rfl,rfl⟩:=h;simp at hk;obtain⟨rfl,hk⟩:=hk;refine⟨[.val (.int k' d)],rfl,f5.one (y := .int k' d) (ps:=[AV.int k' d=lz (.int k' d)]) (fun ρ=>rfl) rfl ⟨?_,trivial⟩⟩
   cases k'<;>first|rfl|exact absurd rfl hk
  ·cases h
 |.byte,x::cs,d,r,h=>by
  simp[Ty.dec]at h;split at h
  ·rename_i c;simp at h;obtain⟨rfl,rfl⟩:=h;exact⟨[.byte d],rfl,f5.same (fun ρ=>rfl) rfl⟩
  ·rename_i n;cases hk:decide (0<=n)&&decide (n<256)<;>rw[hk]at h<;>simp at h
   obtain⟨rfl,rfl⟩:=h;refine⟨[.val (.int .u8 n)],rfl,f5.one (y := .byte (UInt8.ofNat n.toNat)) (ps:=[AV.byte (UInt8.ofNat n.toNat)=lz (.int .u8 n)]) (fun ρ=>rfl) rfl ⟨?_,trivial⟩⟩
   simp[lz,hk,qT]
  ·cases h
 |.bool,x::cs,d,r,h=>by
  simp[Ty.dec]at h;split at h
  ·rename_i b;simp at h;obtain⟨rfl,rfl⟩:=h;exact⟨[.bool d],rfl,f5.same (fun ρ=>rfl) rfl⟩
  ·rename_i b;simp at h;obtain⟨rfl,rfl⟩:=h;exact⟨[.val (.bool d)],rfl,f5.one (y := .bool d) (ps:=[AV.bool d=lz (.bool d)]) (fun ρ=>rfl) rfl ⟨rfl,trivial⟩⟩
  ·cases h
 |.str,x::cs,d,r,h=>by
  simp[Ty.dec]at h;split at h
  ·rename_i b;simp at h;obtain⟨rfl,rfl⟩:=h;exact⟨[.str d],rfl,f5.same (fun ρ=>rfl) rfl⟩
  ·cases h
 |.unit,cs,d,r,h=>by
  simp[Ty.dec,qI]at h;obtain⟨_,rfl⟩:=h;exact⟨[],rfl,fun ρ=>rfl,[],rfl,trivial⟩
 |.prod a b,cs,d,r,h=>by
  simp[Ty.dec]at h;split at h
  ·rename_i x r1 h1;split at h
   ·rename_i y r2 h2;simp at h;obtain⟨rfl,rfl⟩:=h;obtain⟨p1,rfl,s1⟩:=tj h1;obtain⟨p2,rfl,s2⟩:=tj h2;exact⟨p1++p2,oC,s1.append s2⟩
   ·cases h
  ·cases h
 |.list a,x::cs,d,r,h=>by
  simp[Ty.dec]at h;split at h
  ·rename_i a' l;split at h
   ·rename_i hh _;simp at h;obtain⟨rfl,rfl⟩:=h;exact⟨[.sl a' l],rfl,f5.one (y := .sl a (hh▸l)) (ps:=[AV.sl a (hh▸l)=AV.sl a' l]) (fun ρ=>rfl) rfl ⟨zfr hh l,trivial⟩⟩
   ·cases h
  ·simp at h;obtain⟨rfl,rfl⟩:=h;exact⟨[.val (.slice none 0 0)],rfl,f5.one (y := .sl a []) (ps:=[([]:List a.den).length=0]) (fun ρ=>rfl) rfl ⟨rfl,trivial⟩⟩
  ·cases h
 |.tree a,cs,d,r,h=>by
  simp[Ty.dec]at h;split at h
  ·rename_i v x r1 h1;obtain⟨p1,rfl,s1⟩:=tj h1;split at h
   ·rename_i a' l;split at h
    ·rename_i hh _;simp at h;obtain⟨rfl,rfl⟩:=h;exact⟨p1++[.sl a' l],oC,s1.append (f5.one (y := .sl (.tree a) (hh▸l)) (ps:=[AV.sl (.tree a) (hh▸l)=AV.sl a' l]) (fun ρ=>rfl) rfl ⟨zfr hh l,trivial⟩)⟩
    ·cases h
   ·simp at h;obtain⟨rfl,rfl⟩:=h;exact⟨p1++[.val (.slice none 0 0)],oC,s1.append (f5.one (y := .sl (.tree a) []) (ps:=[([]:List (Ty.tree a).den).length=0]) (fun ρ=>rfl) rfl ⟨rfl,trivial⟩)⟩
   ·cases h
  ·cases h
 |.int _,[],_,_,h=>by simp[Ty.dec]at h|.byte,[],_,_,h=>by simp[Ty.dec]at h|.bool,[],_,_,h=>by simp[Ty.dec]at h|.str,[],_,_,h=>by simp[Ty.dec]at h|.list _,[],_,_,h=>by simp[Ty.dec]at h
inductive CV:Type
 |nilS
 |int (k:IntKind) (n:Int)
 |bool (b:Bool)
 |unit
 |nilFunc
 |nilIface
def CV.val:CV->Value|.nilS => .slice none 0 0|.int k n => .int k n|.bool b => .bool b|.unit => .tuple #[]|.nilFunc => .nilFunc|.nilIface => .nilIface
def CV.is:CV->AV->Bool|.nilS,.val (.slice none 0 0)=>true|.int k n,.val (.int k' n')=>decide (k'=k)&&decide (n'=n)|.bool b,.val (.bool b')=>b'==b|.unit,.val (.tuple vs)=>Nat.beq vs.size 0|.nilFunc,.val .nilFunc=>true|.nilIface,.val .nilIface=>true|_,_=>false
inductive Pt:Type
 |h (τ:Ty)
 |c (v:CV)
 |agg (ps:List Pt)
 |tup (ps:List Pt)
 |ptr (b off:Nat)
 |own (k:Nat)
 |arr (τ:Ty)
 |el (k sz:Nat)
 |iel (t:TypeId) (k sz:Nat)
 |ifc (t:TypeId) (p:Pt)
 |yld (n:Nat)
 |pn (n:Nat)
 |fn (f:FuncId) (cap:List Pt)
 |u
mutual
def Pt.den:Pt->Type|.h τ=>τ.den|.agg ps=>Pts.den ps|.tup ps=>Pts.den ps|.fn _ cap=>Pts.den cap|.ifc _ p=>Pt.den p|.arr τ=>List τ.den|_=>Unit
def Pts.den:List Pt->Type|[]=>Unit|p::ps=>p.den×Pts.den ps
end
def Ty.av:(τ:Ty)->τ.den->AV|.int k,n => .int k n|.byte,c => .byte c|.bool,b => .bool b|.str,s => .str s|.list a,l => .sl a l|.unit,_ => .agg []|.prod a b,x => .agg ((Ty.prod a b).enc x)|.tree a,x => .agg ((Ty.tree a).enc x)
def qx(τ:Ty)(x:AV):Option τ.den:=match τ.dec [x] with|some (d,[])=>some d|_=>none
def qhb(τ:Ty)(x:AV):Option τ.den:=match x with
 |.agg cs=>match τ.dec cs with|some (d,[])=>some d|_=>none
 |_=>none
def Ty.getAV:(τ:Ty)->AV->Option τ.den|.int k,x=>qx (.int k) x|.byte,x=>qx .byte x|.bool,x=>qx .bool x|.str,x=>qx .str x|.list a,x=>qx (.list a) x|.unit,x=>qhb .unit x|.prod a b,x=>qhb (.prod a b) x|.tree a,x=>qhb (.tree a) x
mutual
def Pt.put:(p:Pt)->p.den->AV|.h τ,x=>τ.av x|.c v,_ => .val v.val|.agg ps,x => .agg (Pts.put ps x)|.tup ps,x => .tup (Pts.put ps x)|.ptr b off,_ => .ptr b off|.own k,_ => .own k|.arr τ,l => .arr τ l|.el k sz,_ => .oel k sz 0 0|.iel t k sz,_ => .iface t (.oel k sz 0 0)|.ifc t p,x => .iface t (p.put x)|.yld n,_ => .yld n|.pn n,_ => .pn n|.fn f cap,x => .fn (.func f) [] (Pts.put cap x)|.u,_ => .undef
def Pts.put:(ps:List Pt)->Pts.den ps->List AV|[],_=>[]|p::ps,x=>p.put x.1::Pts.put ps x.2
end
abbrev NM:=List (Nat×Nat)
def o9(nm:NM)(b b':Nat):Option NM:=match az nm b with|some x=>bif Nat.beq x b' then some nm else none|none=>some ((b,b')::nm)
def asAgg:AV->Option (List AV)|.agg xs=>some xs|_=>none
def qmw:AV->Option (List AV)|.tup xs=>some xs|_=>none
def qmv:AV->Option (Nat×Nat)|.ptr b off=>some (b,off)|_=>none
def qmt:AV->Option Nat|.own k=>some k|_=>none
def qzh(τ:Ty):AV->Option (List τ.den)
 |.arr τ' l=>match Ty.eq? τ' τ with|some ⟨h⟩=>some (h▸l)|none=>none
 |_=>none
def qg2:AV->Option (Nat×Nat)|.oel k sz 0 0=>some (k,sz)|_=>none
def zsc{τ:Ty}{x:AV}{l:List τ.den}(h:qzh τ x=some l):x = .arr τ l:=by
 cases x<;>simp[qzh,reduceCtorEq]at h
 split at h
 ·rename_i τ' l' e he;simp at h;subst h;cases e;rfl
 ·cases h
def zev{x:AV}{k sz:Nat}(h:qg2 x=some (k,sz)):x = .oel k sz 0 0:=by
 unfold qg2 at h;split at h
 ·simp at h;obtain⟨rfl,rfl⟩:=h;rfl
 ·cases h
def qms:AV->Option (TypeId×AV)|.iface t x=>some (t,x)|_=>none
def zsf{x:AV}{t:TypeId}{y:AV}(h:qms x=some (t,y)):x = .iface t y:=by
 cases x<;>simp[qms,reduceCtorEq]at h
 obtain⟨rfl,rfl⟩:=h;rfl
def qmr:AV->Option (TypeId×Nat×Nat)
 |.iface t x=>match qg2 x with|some (k,sz)=>some (t,k,sz)|none=>none
 |_=>none
def zse{x:AV}{t:TypeId}{k sz:Nat}(h:qmr x=some (t,k,sz)):x = .iface t (.oel k sz 0 0):=by
 cases x<;>simp[qmr,reduceCtorEq]at h
 split at h
 ·rename_i k' sz' e;simp at h;obtain⟨rfl,rfl,rfl⟩:=h;rw[zev e]
 ·cases h
def qmx:AV->Option Nat|.yld k=>some k|_=>none
def qmu:AV->Option Nat|.pn k=>some k|_=>none
def qmq:AV->Option (FuncId×List AV)
 |.fn f first xs=>match f with
  |.func f'=>match first with|[]=>some (f',xs)|_=>none
  |_=>none
 |_=>none
def zsb{x:AV}{xs:List AV}(h:asAgg x=some xs):x = .agg xs:=by
 cases x<;>simp[asAgg,reduceCtorEq,qI]at h;subst h;rfl
def zsj{x:AV}{xs:List AV}(h:qmw x=some xs):x = .tup xs:=by
 cases x<;>simp[qmw,reduceCtorEq,qI]at h;subst h;rfl
def zsi{x:AV}{b off:Nat}(h:qmv x=some (b,off)):x = .ptr b off:=by
 cases x<;>simp[qmv,reduceCtorEq,qI,qP]at h;obtain⟨rfl,rfl⟩:=h;rfl
def zsg{x:AV}{k:Nat}(h:qmt x=some k):x = .own k:=by
 cases x<;>simp[qmt,reduceCtorEq,qI]at h;subst h;rfl
def zsk{x:AV}{k:Nat}(h:qmx x=some k):x = .yld k:=by
 cases x<;>simp[qmx,reduceCtorEq,qI]at h;subst h;rfl
def zsh{x:AV}{k:Nat}(h:qmu x=some k):x = .pn k:=by
 cases x<;>simp[qmu,reduceCtorEq,qI]at h;subst h;rfl
def zsd{x:AV}{f:FuncId}{xs:List AV}(h:qmq x=some (f,xs)):x = .fn (.func f) [] xs:=by
 cases x<;>simp[qmq,reduceCtorEq]at h
 split at h
 ·split at h
  ·simp at h;obtain⟨rfl,rfl⟩:=h;rfl
  ·cases h
 ·cases h
mutual
def Pt.get:(p:Pt)->AV->NM->Option (p.den×NM)
 |.h τ,x,nm=>match τ.getAV x with|some d=>some (d,nm)|none=>none
 |.c v,x,nm=>bif v.is x then some ((),nm) else none|.agg ps,x,nm=>match asAgg x with|some xs=>Pts.get ps xs nm|none=>none
 |.tup ps,x,nm=>match qmw x with|some xs=>Pts.get ps xs nm|none=>none
 |.ptr b off,x,nm=>match qmv x with
  |some (b',off')=>bif Nat.beq off' off then(match o9 nm b b' with|some nm'=>some ((),nm')|none=>none) else none
  |none=>none
 |.own k,x,nm=>match qmt x with
  |some k'=>match o9 nm k k' with|some nm'=>some ((),nm')|none=>none
  |none=>none
 |.arr τ,x,nm=>match qzh τ x with|some d=>some (d,nm)|none=>none
 |.el k sz,x,nm=>match qg2 x with
  |some (k',sz')=>bif Nat.beq sz' sz then(match o9 nm k k' with|some nm'=>some ((),nm')|none=>none) else none
  |none=>none
 |.iel t k sz,x,nm=>match qmr x with
  |some (t',k',sz')=>bif Nat.beq t' t&&Nat.beq sz' sz then(match o9 nm k k' with|some nm'=>some ((),nm')|none=>none) else none
  |none=>none
 |.ifc t p,x,nm=>match qms x with|some (t',y)=>bif Nat.beq t' t then p.get y nm else none|none=>none
 |.yld k,x,nm=>match qmx x with
  |some k'=>match o9 nm k k' with|some nm'=>some ((),nm')|none=>none
  |none=>none
 |.pn k,x,nm=>match qmu x with
  |some k'=>match o9 nm k k' with|some nm'=>some ((),nm')|none=>none
  |none=>none
 |.fn f cap,x,nm=>match qmq x with|some (f',xs)=>bif Nat.beq f' f then Pts.get cap xs nm else none|none=>none
 |.u,_,nm=>some ((),nm)
def Pts.get:(ps:List Pt)->List AV->NM->Option (Pts.den ps×NM)
 |[],xs,nm=>match xs with|[]=>some ((),nm)|_=>none
 |p::ps,xs,nm=>match xs with
  |x::xs=>match p.get x nm with
   |some (d,nm')=>match Pts.get ps xs nm' with|some (ds,nm'')=>some ((d,ds),nm'')|none=>none
   |none=>none
  |[]=>none
end
def cz(nm nm':NM):Prop:=∀n m,az nm n=some m->az nm' n=some m
def cz.refl(nm:NM):cz nm nm:=fun _ _ h=>h
def cz.trans{a b c:NM}(h:cz a b)(k:cz b c):cz a c:=fun n m x=>k n m (h n m x)
def vc{nm nm':NM}{b b':Nat}(h:o9 nm b b'=some nm'):cz nm nm'/\az nm' b=some b':=by
 unfold o9 at h;split at h
 ·rename_i x hx;cases hq:Nat.beq x b'<;>rw[hq]at h<;>simp at h
  subst h;have:=qN hq;subst this;exact⟨cz.refl _,hx⟩
 ·rename_i hx;simp at h;subst h;refine⟨fun n m hn => ?_,by simp[az]⟩
  simp[az];cases hq:Nat.beq b n
  ·exact hn
  ·have:=qN hq;subst this;rw[hx]at hn;cases hn
def nr(N:NM)(x y:AV):Prop:=∃ps,vw false [] (x.ren (ar N)) y=some ps/\ap ps
def yu(N:NM)(xs ys:List AV):Prop:=∃ps,bn false [] (AV.rens (ar N) xs) ys=some ps/\ap ps
def yu.cons{N:NM}{x y:AV}{xs ys:List AV}(h:nr N x y)(k:yu N xs ys):yu N (x::xs) (y::ys):=by
 obtain⟨ps,h1,h2⟩:=h;obtain⟨qs,k1,k2⟩:=k;exact⟨ps++qs,by simp[AV.rens,bn,h1,k1],dt.2 ⟨h2,k2⟩⟩
def f5.seens{xs ys:List AV}(h:f5 xs ys)(N:NM):yu N xs ys:=by
 obtain⟨h1,ps,h2,h3⟩:=h;exact⟨ps,by rw[h1];exact h2,h3⟩
def qha{τ:Ty}{x:AV}{d:τ.den}(h:qx τ x=some d){y:AV}(hy:τ.enc d=[y])(N:NM):nr N x y:=by
 unfold qx at h;split at h
 ·rename_i d' hd;simp at h;subst h;obtain⟨ab,e,hs⟩:=tj hd;simp at e;subst e;rw[hy]at hs;obtain⟨ps,h1,h2⟩:=hs.seens N;simp only[AV.rens,bn]at h1;split at h1
  ·rename_i qs hq;simp only[qI]at h1;subst h1;exact⟨qs,hq,(dt.1 h2).1⟩
  ·cases h1
 ·cases h
def q0j{τ:Ty}{x:AV}{d:τ.den}(h:qhb τ x=some d)(N:NM):nr N x (.agg (τ.enc d)):=by
 unfold qhb at h;split at h
 ·split at h
  ·rename_i d' hd;simp at h;subst h;obtain⟨ab,e,hs⟩:=tj hd;simp at e;subst e;obtain⟨ps,h1,h2⟩:=hs.seens N;exact⟨ps,by simp[AV.ren,vw];exact h1,h2⟩
  ·cases h
 ·cases h
def zvl{N:NM}:∀{τ:Ty}{x:AV}{d:τ.den},τ.getAV x=some d->nr N x (τ.av d)|.int _,_,_,h=>qha h rfl N|.byte,_,_,h=>qha h rfl N|.bool,_,_,h=>qha h rfl N|.str,_,_,h=>qha h rfl N|.list _,_,_,h=>qha h rfl N|.unit,_,_,h=>q0j h N|.prod _ _,_,_,h=>q0j h N|.tree _,_,_,h=>q0j h N
def CV.is_seen{v:CV}{x:AV}(h:v.is x=true)(N:NM):nr N x (.val v.val):=by
 have:x = .val v.val:=by
  unfold CV.is at h;split at h
  ·rfl
  ·simp at h;obtain⟨rfl,rfl⟩:=h;rfl
  ·simp at h;subst h;rfl
  ·rename_i vs;have:=Array.eq_empty_of_size_eq_zero (qN h);subst this;rfl
  ·rfl
  ·rfl
  ·cases h
 subst this;exact⟨[AV.val v.val=AV.val v.val],rfl,rfl,trivial⟩
mutual
def Pt.get_seen:∀{p:Pt}{x:AV}{nm nm':NM}{d:p.den},p.get x nm=some (d,nm')->cz nm nm'/\∀N,dr N=true->cz nm' N->nr N x (p.put d)
 |.h τ,x,nm,nm',d,h=>by
  simp[Pt.get]at h;split at h
  ·rename_i d' hd;simp at h;obtain⟨rfl,rfl⟩:=h;exact⟨cz.refl _,fun N _ _=>zvl hd⟩
  ·cases h
 |.c v,x,nm,nm',d,h=>by
  simp[Pt.get]at h;cases hv:v.is x<;>rw[hv]at h<;>simp at h
  obtain⟨_,rfl⟩:=h;exact⟨cz.refl _,fun N _ _=>CV.is_seen hv N⟩
 |.u,x,nm,nm',d,h=>by
  simp[Pt.get,qI]at h;obtain⟨_,rfl⟩:=h;refine⟨cz.refl _,fun N _ _=>⟨[],?_,trivial⟩⟩
  show vw false [] _ .undef=_;cases AV.ren (ar N) x<;>rfl
 |.agg ps,x,nm,nm',d,h=>by
  simp[Pt.get]at h;split at h
  rotate_left
  ·cases h
  rename_i xs hx;have hx:=zsb hx;subst hx;obtain⟨h1,h2⟩:=Pts.get_seen h;exact⟨h1,fun N hN hs=>by obtain⟨qs,q1,q2⟩:=h2 N hN hs;exact⟨qs,q1,q2⟩⟩
 |.tup ps,x,nm,nm',d,h=>by
  simp[Pt.get]at h;split at h
  rotate_left
  ·cases h
  rename_i xs hx;have hx:=zsj hx;subst hx;obtain⟨h1,h2⟩:=Pts.get_seen h;exact⟨h1,fun N hN hs=>by obtain⟨qs,q1,q2⟩:=h2 N hN hs;exact⟨qs,q1,q2⟩⟩
 |.ptr b off,x,nm,nm',d,h=>by
  simp[Pt.get]at h;split at h
  rotate_left
  ·cases h
  rename_i b' off' hx;have hx:=zsi hx;subst hx;cases hq:Nat.beq off' off<;>rw[hq]at h<;>simp at h
  split at h
  ·rename_i nm1 hb;simp at h;obtain⟨_,rfl⟩:=h;obtain⟨h1,h2⟩:=vc hb;have:=qN hq;subst this;refine⟨h1,fun N hN hs => ?_⟩
   have:=uc hN (hs _ _ h2);refine⟨[AV.ptr b off'=AV.ptr b off'],?_,rfl,trivial⟩;show vw false [] (match ar N b' with|some b''=>AV.ptr b'' off'|none => .undef) (AV.ptr b off')=_
   rw[this];rfl
  ·cases h
 |.own k,x,nm,nm',d,h=>by
  simp[Pt.get]at h;split at h
  rotate_left
  ·cases h
  rename_i k' hx;have hx:=zsg hx;subst hx;split at h
  ·rename_i nm1 hb;simp at h;obtain⟨_,rfl⟩:=h;obtain⟨h1,h2⟩:=vc hb;refine⟨h1,fun N hN hs => ?_⟩
   have:=uc hN (hs _ _ h2);refine⟨[AV.own k=AV.own k],?_,rfl,trivial⟩;show vw false [] (match ar N k' with|some b''=>AV.own b''|none => .undef) (AV.own k)=_
   rw[this];rfl
  ·cases h
 |.arr τ,x,nm,nm',d,h=>by
  simp[Pt.get]at h;split at h
  ·rename_i d' hd;simp at h;obtain⟨rfl,rfl⟩:=h;have hd:=zsc hd;subst hd;exact⟨cz.refl _,fun N _ _=>⟨[AV.arr τ d=AV.arr τ d],rfl,rfl,trivial⟩⟩
  ·cases h
 |.el k sz,x,nm,nm',d,h=>by
  simp[Pt.get]at h;split at h
  rotate_left
  ·cases h
  rename_i k' sz' hx;have hx:=zev hx;subst hx;cases hq:Nat.beq sz' sz<;>rw[hq]at h<;>simp at h
  split at h
  ·rename_i nm1 hb;simp at h;obtain⟨_,rfl⟩:=h;obtain⟨h1,h2⟩:=vc hb;have:=qN hq;subst this;refine⟨h1,fun N hN hs => ?_⟩
   have:=uc hN (hs _ _ h2);refine⟨[AV.oel k sz' 0 0=AV.oel k sz' 0 0],?_,rfl,trivial⟩;show vw false [] (match ar N k' with|some b''=>AV.oel b'' sz' 0 0|none => .undef) (AV.oel k sz' 0 0)=_
   rw[this];rfl
  ·cases h
 |.iel t k sz,x,nm,nm',d,h=>by
  simp[Pt.get]at h;split at h
  rotate_left
  ·cases h
  rename_i t' k' sz' hx;have hx:=zse hx;subst hx;cases hq:Nat.beq t' t&&Nat.beq sz' sz<;>rw[hq]at h<;>simp at h
  simp only[qA]at hq;split at h
  ·rename_i nm1 hb;simp only[qI]at h;obtain⟨_,rfl⟩:=h;obtain⟨h1,h2⟩:=vc hb;have:=qN hq.1;subst this;have:=qN hq.2;subst this;refine⟨h1,fun N hN hs => ?_⟩
   have:=uc hN (hs _ _ h2);refine⟨[t'=t',AV.oel k sz' 0 0=AV.oel k sz' 0 0],?_,rfl,rfl,trivial⟩;show vw false [] (.iface t' (match ar N k' with|some b''=>AV.oel b'' sz' 0 0|none => .undef)) (AV.iface t' (AV.oel k sz' 0 0))=_
   rw[this];rfl
  ·cases h
 |.ifc t p,x,nm,nm',d,h=>by
  simp only[Pt.get]at h;split at h
  rotate_left
  ·cases h
  rename_i t' y hx;have hx:=zsf hx;subst hx;cases hq:Nat.beq t' t
  ·rw[hq]at h;cases h
  ·rw[hq]at h;have h:p.get y nm=some (d,nm'):=h;have:=qN hq;subst this;obtain⟨h1,h2⟩:=Pt.get_seen h;refine⟨h1,fun N hN hs => ?_⟩
   obtain⟨qs,q1,q2⟩:=h2 N hN hs;refine⟨(t'=t')::qs,?_,rfl,q2⟩;show vw false [] (.iface t' (AV.ren (ar N) y)) (.iface t' (p.put d))=_;simp only[vw,q1]
 |.yld k,x,nm,nm',d,h=>by
  simp[Pt.get]at h;split at h
  rotate_left
  ·cases h
  rename_i k' hx;have hx:=zsk hx;subst hx;split at h
  ·rename_i nm1 hb;simp at h;obtain⟨_,rfl⟩:=h;obtain⟨h1,h2⟩:=vc hb;refine⟨h1,fun N hN hs => ?_⟩
   have:=uc hN (hs _ _ h2);refine⟨[AV.yld k=AV.yld k],?_,rfl,trivial⟩;show vw false [] (match ar N k' with|some b''=>AV.yld b''|none => .undef) (AV.yld k)=_
   rw[this];rfl
  ·cases h
 |.pn k,x,nm,nm',d,h=>by
  simp[Pt.get]at h;split at h
  rotate_left
  ·cases h
  rename_i k' hx;have hx:=zsh hx;subst hx;split at h
  ·rename_i nm1 hb;simp at h;obtain⟨_,rfl⟩:=h;obtain⟨h1,h2⟩:=vc hb;refine⟨h1,fun N hN hs => ?_⟩
   have:=uc hN (hs _ _ h2);refine⟨[AV.pn k=AV.pn k],?_,rfl,trivial⟩;show vw false [] (match ar N k' with|some b''=>AV.pn b''|none => .undef) (AV.pn k)=_
   rw[this];rfl
  ·cases h
 |.fn f cap,x,nm,nm',d,h=>by
  simp[Pt.get]at h;split at h
  rotate_left
  ·cases h
  rename_i f' xs hx;have hx:=zsd hx;subst hx;cases hq:Nat.beq f' f
  ·rw[hq]at h;exact absurd (show(none:Option ((Pt.fn f cap).den×NM))=some (d,nm') from h) oC
  have h:Pts.get cap xs nm=some (d,nm'):=by rw[hq]at h;exact h
  obtain⟨h1,h2⟩:=Pts.get_seen h;have:=qN hq;subst this;refine⟨h1,fun N hN hs => ?_⟩
  obtain⟨qs,q1,q2⟩:=h2 N hN hs;refine⟨(Fn.func f'=Fn.func f')::([]++qs),?_,rfl,q2⟩;show(match bn false [] (AV.rens (ar N) []) [],bn false [] (AV.rens (ar N) xs) (Pts.put cap d) with
   |some ps,some qs=>some ((Fn.func f'=Fn.func f')::(ps++qs))| _,_=>none)=_
  rw[q1];rfl
def Pts.get_seen:∀{ps:List Pt}{xs:List AV}{nm nm':NM}{d:Pts.den ps},Pts.get ps xs nm=some (d,nm')->cz nm nm'/\∀N,dr N=true->cz nm' N->yu N xs (Pts.put ps d)
 |[],xs,nm,nm',d,h=>by
  cases xs with
  |nil=>
   have h:some (((),nm):Unit×NM)=some (d,nm'):=h;have e:nm=nm':=congrArg Prod.snd (qJ h);subst e;exact⟨cz.refl _,fun N _ _=>⟨[],rfl,trivial⟩⟩
  |cons x xs=>exact absurd (show(none:Option (Unit×NM))=some (d,nm') from h) oC
 |p::ps,xs,nm,nm',d,h=>by
  cases xs with
  |nil=>exact absurd (show(none:Option ((p.den×Pts.den ps)×NM))=some (d,nm') from h) oC|cons x xs=>
   have h:(match p.get x nm with
    |some (d,nm')=>match Pts.get ps xs nm' with|some (ds,nm'')=>some ((d,ds),nm'')|none=>none
    | none=>none)=some (d,nm'):=h
   split at h
   ·rename_i d1 nm1 h1;split at h
    ·rename_i d2 nm2 h2;simp at h;obtain⟨rfl,rfl⟩:=h;obtain⟨a1,a2⟩:=Pt.get_seen h1;obtain⟨b1,b2⟩:=Pts.get_seen h2;exact⟨a1.trans b1,fun N hN hs=>yu.cons (a2 N hN (b1.trans hs)) (b2 N hN hs)⟩
    ·cases h
   ·cases h
end
def po:List (Nat×Pt)->Type|[]=>Unit|(_,p)::r=>p.den×po r
def ko:(l:List (Nat×Pt))->po l->List (Nat×AV)|[],_=>[]|(i,p)::r,x=>(i,p.put x.1)::ko r x.2
def vo(fr:List (Nat×AV)):(l:List (Nat×Pt))->NM->Option (po l×NM)
 |[],nm=>some ((),nm)|(i,p)::r,nm=>match af fr i with
  |some x=>match p.get x nm with
   |some (d,nm')=>match vo fr r nm' with|some (ds,nm'')=>some ((d,ds),nm'')|none=>none
   |none=>none
  |none=>none
def qnv{fr:List (Nat×AV)}:∀{l:List (Nat×Pt)}{nm nm':NM}{d:po l},vo fr l nm=some (d,nm')->cz nm nm'/\∀N,dr N=true->cz nm' N->∀i y,af (ko l d) i=some y->∃x,af fr i=some x/\nr N x y
 |[],nm,nm',d,h=>by
  have e:nm=nm':=congrArg Prod.snd (qJ (show some (((),nm):Unit×NM)=some (d,nm') from h))
  subst e;exact⟨cz.refl _,fun N _ _ i y hy=>by cases hy⟩
 |(j,p)::r,nm,nm',d,h=>by
  have h:(match af fr j with
   |some x=>match p.get x nm with
    |some (d,nm')=>match vo fr r nm' with|some (ds,nm'')=>some ((d,ds),nm'')|none=>none
    |none=>none
   | none=>none)=some (d,nm'):=h
  split at h
  ·rename_i x hx;split at h
   ·rename_i d1 nm1 h1;split at h
    ·rename_i d2 nm2 h2;simp at h;obtain⟨rfl,rfl⟩:=h;obtain⟨a1,a2⟩:=Pt.get_seen h1;obtain⟨b1,b2⟩:=qnv h2;refine⟨a1.trans b1,fun N hN hs i y hy => ?_⟩
     have hy:(bif Nat.beq j i then some (p.put d1) else af (ko r d2) i)=some y:=hy
     cases hb:Nat.beq j i
     ·rw[hb]at hy;exact b2 N hN hs i y hy
     ·rw[hb]at hy;simp at hy;subst hy;have:=qN hb;subst this;exact⟨x,hx,a2 N hN (b1.trans hs)⟩
    ·cases h
   ·cases h
  ·cases h
inductive bc:Type
 |cells (ps:List Pt) (T:TypeId)
 |row (τ:Ty) (E:TypeId)
 |loop (st:LoopState) (pe:Option du) (f:FuncId) (n:Nat) (fr:List (Nat×Pt)) (ps:List Tmp) (tag:Nat) (D:Nat)
 |dfr
 |it
 |dead
 |dat (τ:Ty) (T:TypeId)
def bc.den:bc->Type|.cells ps _=>Pts.den ps|.row τ _=>List τ.den|.loop _ _ _ _ fr _ _ _=>po fr|.dfr=>Unit|.it=>List UInt8×Nat|.dead=>Unit|.dat τ _=>τ.den
def bc.put:(p:bc)->p.den->ag|.cells ps T,x => .cells (Pts.put ps x) T|.row τ E,l => .row τ l E|.loop st pe f n fr ps tag D,x => .loop st pe f n (ko fr x) ps tag D|.dfr,_ => .dfr|.it,x => .it x.1 x.2|.dead,_ => .dead|.dat τ T,x => .cells (τ.enc x) T
def du.beq:Option du->Option du->Bool|none,none=>true|some .ret,some .ret=>true|some (.exit i),some (.exit j)=>Nat.beq i j|_,_=>false
def du.beq_eq:∀{a b:Option du},du.beq a b=true->a=b|none,none,_=>rfl|some .ret,some .ret,_=>rfl|some (.exit i),some (.exit j),h=>by rw[qN (show Nat.beq i j=true from h)]|none,some _,h=>by simp[du.beq]at h|some _,none,h=>by simp[du.beq]at h|some .ret,some (.exit _),h=>by simp[du.beq]at h|some (.exit _),some .ret,h=>by simp[du.beq]at h
def ph:List Nat->List Nat->Bool|[],[]=>true|x::xs,y::ys=>Nat.beq x y&&ph xs ys|_,_=>false
def qnp:∀{a b:List Nat},ph a b=true->a=b
 |[],[],_=>rfl|x::xs,y::ys,h=>by
  simp only[ph,qA]at h;rw[qN h.1,qnp h.2]
 |[],_::_,h=>by simp[ph]at h|_::_,[],h=>by simp[ph]at h
def bc.get:(p:bc)->ag->NM->Option (p.den×NM)
 |.cells ps T,b,nm=>match b with|.cells cs T'=>bif Nat.beq T' T then Pts.get ps cs nm else none|_=>none
 |.row τ E,b,nm=>match b with
  |.row τ' l E'=>match Ty.eq? τ' τ with|some ⟨h⟩=>bif Nat.beq E' E then some ((h▸l:List τ.den),nm) else none|none=>none
  |_=>none
 |.loop st pe f n fr ps tag D,b,nm=>match b with
  |.loop st' pe' f' n' fr' ps' tag' D'=>bif decide (st'=st)&&du.beq pe' pe&&Nat.beq f' f&&Nat.beq n' n&&ph ps' ps&&Nat.beq tag' tag then
    (match o9 nm D D' with
    |some nm1=>vo fr' fr nm1| none=>none) else none
  |_=>none
 |.dfr,b,nm=>match b with|.dfr=>some ((),nm)|_=>none
 |.it,b,nm=>match b with|.it s p=>some ((s,p),nm)|_=>none
 |.dead,_,nm=>some ((),nm)|.dat τ T,b,nm=>match b with
  | .cells cs T'=>bif Nat.beq T' T then(match τ.dec cs with
    |some (d,[])=>some (d,nm)| _=>none) else none
  |_=>none
def qyl(N:NM)(b b':ag):Prop:=∃ps,xc (dx (ar N) b) b'=some ps/\ap ps
def zku{N:NM}{fr:List (Nat×AV)}:∀{fr':List (Nat×AV)},(∀e∈fr',∃x,af fr e.1=some x/\nr N x e.2)->∃ps,qag (od (ar N) fr) fr'=some ps/\ap ps
 |[],_=>⟨[],rfl,trivial⟩|(i,y)::r,h=>by
  obtain⟨x,hx,ps,h1,h2⟩:=h (i,y) qH;obtain⟨qs,k1,k2⟩:=zku (fr':=r) (fun e he=>h e (qE _ he))
  have hl:∀(fr:List (Nat×AV)),af fr i=some x->af (od (ar N) fr) i=some (x.ren (ar N)):=by
   intro fr
   induction fr with
   |nil=>intro h;cases h
   |cons e r ih=>
    obtain⟨j,z⟩:=e;intro h;simp[od,af]at h ⊢;cases hb:Nat.beq j i
    ·rw[hb]at h;exact ih h
    ·rw[hb]at h;simp at h;subst h;rfl
  exact⟨ps++qs,by simp[qag,hl fr hx,h1,k1],dt.2 ⟨h2,k2⟩⟩
def zgm{fr:List (Nat×AV)}:∀{l:List (Nat×Pt)}{nm nm':NM}{d:po l},vo fr l nm=some (d,nm')->∀N,dr N=true->cz nm' N->∀e∈ko l d,∃x,af fr e.1=some x/\nr N x e.2
 |[],nm,nm',d,h,N,_,_,e,he=>by cases he
 |(j,p)::r,nm,nm',d,h,N,hN,hs,e,he=>by
  have h:(match af fr j with
   |some x=>match p.get x nm with
    |some (d,nm')=>match vo fr r nm' with|some (ds,nm'')=>some ((d,ds),nm'')|none=>none
    |none=>none
   | none=>none)=some (d,nm'):=h
  split at h
  ·rename_i x hx;split at h
   ·rename_i d1 nm1 h1;split at h
    ·rename_i d2 nm2 h2;simp at h;obtain⟨rfl,rfl⟩:=h;rcases List.mem_cons.1 (show e∈(j,p.put d1)::ko r d2 from he) with rfl|he
     ·exact⟨x,hx,(Pt.get_seen h1).2 N hN ((qnv h2).1.trans hs)⟩
     ·exact zgm h2 N hN hs e he
    ·cases h
   ·cases h
  ·cases h
def bc.get_seen:∀{p:bc}{b:ag}{nm nm':NM}{d:p.den},p.get b nm=some (d,nm')->cz nm nm'/\∀N,dr N=true->cz nm' N->qyl N b (p.put d)
 |.cells ps T,b,nm,nm',d,h=>by
  cases b with
  |cells cs T'=>
   have h:(bif Nat.beq T' T then Pts.get ps cs nm else none)=some (d,nm'):=h
   cases hq:Nat.beq T' T
   ·rw[hq]at h;cases h
   ·rw[hq]at h;have h:Pts.get ps cs nm=some (d,nm'):=h;obtain⟨h1,h2⟩:=Pts.get_seen h;have:=qN hq;subst this;refine⟨h1,fun N hN hs => ?_⟩
    obtain⟨qs,q1,q2⟩:=h2 N hN hs;refine⟨qs,?_,q2⟩;show(bif Nat.beq T' T' then bn false [] (AV.rens (ar N) cs) (Pts.put ps d) else none)=some qs
    rw[show Nat.beq T' T'=true by simp,q1];rfl
  |_=>exact absurd (show(none:Option ((bc.cells ps T).den×NM))=some (d,nm') from h) oC
 |.row τ E,b,nm,nm',d,h=>by
  cases b with
  |row τ' l E'=>
   have h:(match Ty.eq? τ' τ with
    |some ⟨h⟩=>bif Nat.beq E' E then some ((h▸l:List τ.den),nm) else none| none=>none)=some (d,nm'):=h
   split at h
   ·rename_i hh _;cases hq:Nat.beq E' E
    ·rw[hq]at h;cases h
    ·rw[hq]at h;simp at h;obtain⟨rfl,rfl⟩:=h;have:=qN hq;subst this;subst hh;exact⟨cz.refl _,fun N _ _=>⟨[ag.row τ' l E'=ag.row τ' l E'],rfl,rfl,trivial⟩⟩
   ·cases h
  |_=>exact absurd (show(none:Option ((bc.row τ E).den×NM))=some (d,nm') from h) oC
 |.loop st pe f n fr ps tag D,b,nm,nm',d,h=>by
  cases b with
  |loop st' pe' f' n' fr' ps' tag' D'=>
   have h:(bif decide (st'=st)&&du.beq pe' pe&&Nat.beq f' f&&Nat.beq n' n&&ph ps' ps&&Nat.beq tag' tag then
    (match o9 nm D D' with
    |some nm1=>vo fr' fr nm1| none=>none) else none)=some (d,nm'):=h
   cases hq:decide (st'=st)&&du.beq pe' pe&&Nat.beq f' f&&Nat.beq n' n&&ph ps' ps&&Nat.beq tag' tag
   ·rw[hq]at h;cases h
   ·rw[hq]at h;simp at h;simp only[qA,decide_eq_true_eq]at hq;obtain⟨⟨⟨⟨⟨q1,q2⟩,q3⟩,q4⟩,q5⟩,q6⟩:=hq;have q2:=du.beq_eq q2;have q3:=qN q3;have q4:=qN q4;have q5:=qnp q5;have q6:=qN q6;subst q1 q2 q3 q4 q5 q6;split at h
    ·rename_i nm1 hb;obtain⟨b1,b2⟩:=vc hb;obtain⟨c1,_⟩:=qnv h;refine⟨b1.trans c1,fun N hN hs => ?_⟩
     have hD:=uc hN (hs _ _ (c1 _ _ b2));obtain⟨qs,k1,k2⟩:=zku (zgm h N hN hs);refine⟨([st'=st',pe'=pe',f'=f',n'=n',ps'=ps',tag'=tag',D=D]:List Prop)++qs,?_,dt.2 ⟨⟨rfl,rfl,rfl,rfl,rfl,rfl,rfl,trivial⟩,k2⟩⟩;show xc (match ar N D' with|some D' => .loop st' pe' f' n' (od (ar N) fr') ps' tag' D'|none => .dead) (.loop st' pe' f' n' (ko fr d) ps' tag' D)=_
     rw[hD];show(match qag (od (ar N) fr') (ko fr d) with
      |some qs=>some (([st'=st',pe'=pe',f'=f',n'=n',ps'=ps',tag'=tag',D=D]:List Prop)++qs)| none=>none)=_
     rw[k1]
    ·cases h
  |_=>exact absurd (show(none:Option ((bc.loop st pe f n fr ps tag D).den×NM))=some (d,nm') from h) oC
 |.dat τ T,b,nm,nm',d,h=>by
  cases b with
  |cells cs T'=>
   have h:(bif Nat.beq T' T then(match τ.dec cs with
    |some (d,[])=>some (d,nm)| _=>none) else none)=some (d,nm'):=h
   cases hq:Nat.beq T' T
   ·rw[hq]at h;cases h
   ·rw[hq]at h;simp at h;have:=qN hq;subst this;split at h
    ·rename_i d0 hd;have h:(some (d0,nm):Option (τ.den×NM))=some (d,nm'):=h;cases h
     obtain⟨ab,e,hs⟩:=tj hd;rw[List.append_nil]at e;subst e;refine⟨cz.refl _,fun N hN _ => ?_⟩
     obtain⟨qs,q1,q2⟩:=hs.seens N;refine⟨qs,?_,q2⟩;show(bif Nat.beq T' T' then bn false [] (AV.rens (ar N) _) (τ.enc d) else none)=some qs
     rw[show Nat.beq T' T'=true by simp,q1];rfl
    ·cases h
  |_=>exact absurd (show(none:Option ((bc.dat τ T).den×NM))=some (d,nm') from h) oC
 |.dfr,b,nm,nm',d,h=>by
  cases b with
  |dfr=>
   have e:nm=nm':=congrArg Prod.snd (qJ (show some (((),nm):Unit×NM)=some (d,nm') from h))
   subst e;exact⟨cz.refl _,fun N _ _=>⟨[],rfl,trivial⟩⟩
  |_=>exact absurd (show(none:Option (bc.dfr.den×NM))=some (d,nm') from h) oC
 |.it,b,nm,nm',d,h=>by
  cases b with
  |it s p=>
   have e:=qJ (show some ((s,p),nm)=some (d,nm') from h)
   have e1:nm=nm':=congrArg Prod.snd e;have e2:(s,p)=d:=congrArg Prod.fst e;subst e1;subst e2;exact⟨cz.refl _,fun N _ _=>⟨[s=s,p=p],rfl,rfl,rfl,trivial⟩⟩
  |_=>exact absurd (show(none:Option (bc.it.den×NM))=some (d,nm') from h) oC
 |.dead,b,nm,nm',d,h=>by
  have e:nm=nm':=congrArg Prod.snd (qJ (show some (((),nm):Unit×NM)=some (d,nm') from h))
  subst e;refine⟨cz.refl _,fun N _ _ => ?_⟩
  show ∃ps,xc (dx (ar N) b) .dead=some ps/\ap ps;cases dx (ar N) b<;>exact⟨[],rfl,trivial⟩
def f7:List (Nat×bc)->Type|[]=>Unit|(_,p)::r=>p.den×f7 r
def bj:(l:List (Nat×bc))->f7 l->List (Nat×ag)|[],_=>[]|(n,p)::r,x=>(n,p.put x.1)::bj r x.2
def qv(hp:List (Nat×ag)):(l:List (Nat×bc))->NM->Option (f7 l×NM)
 |[],nm=>some ((),nm)|(n,p)::r,nm=>match az nm n with
  |some old=>match af hp old with
   |some b=>match p.get b nm with
    |some (d,nm')=>match qv hp r nm' with|some (ds,nm'')=>some ((d,ds),nm'')|none=>none
    |none=>none
   |none=>none
  |none=>none
def yy{hp:List (Nat×ag)}:∀{l:List (Nat×bc)}{nm nm':NM}{d:f7 l},qv hp l nm=some (d,nm')->cz nm nm'/\∀N,dr N=true->cz nm' N ->
  (∀m b',af (bj l d) m=some b'->∃old b,az N m=some old/\af hp old=some b/\qyl N b b')/\∀m,af (bj l d) m=none->∀e∈l,e.1≠m
 |[],nm,nm',d,h=>by
  have e:nm=nm':=congrArg Prod.snd (qJ (show some (((),nm):Unit×NM)=some (d,nm') from h))
  subst e;exact⟨cz.refl _,fun N _ _=>⟨fun m b' hb=>(by cases hb),fun m _ e he=>(by cases he)⟩⟩
 |(j,p)::r,nm,nm',d,h=>by
  have h:(match az nm j with
   |some old=>match af hp old with
    |some b=>match p.get b nm with
     |some (d,nm')=>match qv hp r nm' with|some (ds,nm'')=>some ((d,ds),nm'')|none=>none
     |none=>none
    |none=>none
   | none=>none)=some (d,nm'):=h
  split at h
  ·rename_i old ho;split at h
   ·rename_i b hb;split at h
    ·rename_i d1 nm1 h1;split at h
     ·rename_i d2 nm2 h2;simp at h;obtain⟨rfl,rfl⟩:=h;obtain⟨a1,a2⟩:=bc.get_seen h1;obtain⟨b1,b2⟩:=yy h2;refine⟨a1.trans b1,fun N hN hs=>⟨fun m b' hm => ?_,fun m hm e he => ?_⟩⟩
      ·have hm:(bif Nat.beq j m then some (p.put d1) else af (bj r d2) m)=some b':=hm
       cases hq:Nat.beq j m
       ·rw[hq]at hm;exact(b2 N hN hs).1 m b' hm
       ·rw[hq]at hm;simp at hm;subst hm;have:=qN hq;subst this;exact⟨old,b,hs _ _ (b1 _ _ (a1 _ _ ho)),hb,a2 N hN (b1.trans hs)⟩
      ·have hm:(bif Nat.beq j m then some (p.put d1) else af (bj r d2) m)=none:=hm
       cases hq:Nat.beq j m
       ·rw[hq]at hm;rcases List.mem_cons.1 he with rfl|he
        ·intro e;subst e;simp at hq
        ·exact(b2 N hN hs).2 m hm e he
       ·rw[hq]at hm;cases hm
     ·cases h
    ·cases h
   ·cases h
  ·cases h
def y4:NM->List Nat->List Nat->Option NM
 |nm,[],[]=>some nm|nm,n::ns,m::ms=>match o9 nm n m with|some nm'=>y4 nm' ns ms|none=>none
 |_,_,_=>none
def zfb:∀{nm nm':NM}{ns ms:List Nat},y4 nm ns ms=some nm'->cz nm nm'/\ns.map (az nm')=ms.map some
 |nm,nm',[],[],h=>by simp only[y4,qI]at h;subst h;exact⟨cz.refl _,rfl⟩|nm,nm',n::ns,m::ms,h=>by
  simp only[y4]at h;split at h
  ·rename_i nm1 hb;obtain⟨h1,h2⟩:=vc hb;obtain⟨h3,h4⟩:=zfb h;exact⟨h1.trans h3,by simp[List.map_cons,h4,h3 _ _ h2]⟩
  ·cases h
 |_,_,[],_::_,h=>by simp[y4]at h|_,_,_::_,[],h=>by simp[y4]at h
def qn3(n:Nat):List (Nat×bc)->Bool|[]=>false|(m,_)::r=>Nat.beq m n||qn3 n r
def zg2{n:Nat}:∀{l:List (Nat×bc)},qn3 n l=true->∃e∈l,e.1=n
 |[],h=>by cases h
 |(m,p)::r,h=>by
  simp only[qn3,Bool.or_eq_true]at h;rcases h with h|h
  ·exact⟨(m,p),qH,qN h⟩
  ·obtain⟨e,he,h⟩:=zg2 h;exact⟨e,qE _ he,h⟩
def s9:NM->List (Nat×bc)->Bool|[],_=>true|(n,_)::r,l=>qn3 n l&&s9 r l
def qy9{l:List (Nat×bc)}:∀{nm:NM},s9 nm l=true->∀n m,az nm n=some m->∃e∈l,e.1=n
 |[],_,n,m,h=>by cases h
 |(k,v)::r,ha,n,m,h=>by
  simp[s9,qA]at ha;simp[az]at h;cases hb:Nat.beq k n
  ·rw[hb]at h;exact qy9 ha.2 n m h
  ·have:=qN hb;subst this;exact zg2 ha.1
structure LS where
 n:Nat
 fr:List (Nat×Pt)
 hp:List (Nat×bc)
 nx:Nat
 df:List Nat
def LS.den(ls:LS):Type:=po ls.fr×f7 ls.hp
def LS.st(ls:LS)(d:ls.den):St:={ n:=ls.n,fr:=ko ls.fr d.1,hp:=bj ls.hp d.2,nx:=ls.nx,df:=ls.df }
def LS.get(ls:LS)(ids:NM)(s:St):Option ls.den:=
 bif Nat.beq s.n ls.n then
  match vo s.fr ls.fr ids with
  |some (d1,nm1)=>match y4 nm1 ls.df s.df with
   |some nm2=>match qv s.hp ls.hp nm2 with|some (d2,nm3)=>bif dr nm3&&s9 nm3 ls.hp then some (d1,d2) else none|none=>none
   |none=>none
  |none=>none
 else none
section
variable{P:Program}{vhe:World}{vg8:Gh}{vhb:List (Nat×ag)}{G:Gh}{s:St}{a:Act}{w:World}
def nr.rep{N:NM}{x y:AV}(h:nr N x y){v:Value}(hv:aj x G v):aj y (G.view N) v:=by
 obtain⟨ps,h1,h2⟩:=h;exact qpl (Gh.le.refl _) (fun e=>by cases e) h1 h2 (aj.ren (G:=G) (G':=G.view N) (fun _ _ _ h=>h) (qf N) (ru N) hv)
def Fin.fit{hp l:List (Nat×ag)}(hf:Fin vhe vg8 vhb G hp w){N:NM}(hN:dr N=true)(hid:∀n bx,af vhb n=some bx->az N n=some n)
  (hl:∀m b',af l m=some b'->∃old b,az N m=some old/\af hp old=some b/\qyl N b b'):Fin vhe vg8 vhb (G.view N) l w:=by
 have eb:∀m n,az N m=some n->(G.view N).box m=G.box n:=fun m n hm=>by simp[Gh.view,hm]
 have eo:∀m n,az N m=some n->(G.view N).own m=G.own n:=fun m n hm=>by simp[Gh.view,hm]
 have hbox:∀m n b,az N m=some n->af hp n=some b->cy (G.view N) w m (dx (ar N) b):=fun m n b h1 h2=>
  cy.ren (G:=G) (G':=G.view N) (ρ:=ar N) (n:=n) (fun _ _ _ h=>h) (fun _ _ _ h=>h) (qf N) (ru N) (fun B hB=>by rw[eb m n h1];exact hB) (fun B hB=>by rw[eo m n h1];exact hB) (hf.mem.holds n b h2)
 have hat:∀m b' c,af l m=some b'->(G.view N).at m b'=some c->∃n b,az N m=some n/\af hp n=some b/\G.at n b=some c:=fun m b' c h1 h2=>by
  obtain⟨n,b,i1,i2,ps,i3,i4⟩:=hl m b' h1;exact⟨n,b,i1,i2,qu (eb m n i1) (eo m n i1) ((qde i3 i4 (hbox m n b i1 i2)).2 c h2)⟩
 refine⟨⟨hf.mem.agree,hf.mem.one,fun m b' h => ?_,fun m m' b b' c h1 h2 h3 h4 => ?_,hf.mem.tab⟩,hf.bel,hf.imm_le,hf.imm_new,fun m b c h1 h2 => ?_,fun n bx B h1 h2 => ?_,fun n bx B h1 h2 => ?_⟩
 ·obtain⟨n,b,i1,i2,ps,i3,i4⟩:=hl m b' h;exact(qde i3 i4 (hbox m n b i1 i2)).1
 ·obtain⟨n,b0,i1,i2,i3⟩:=hat m b c h1 h3;obtain⟨n',b0',j1,j2,j3⟩:=hat m' b' c h2 h4;have:=hf.mem.apart n n' b0 b0' c i2 j2 i3 j3;subst this;exact vk hN m m' n i1 j1
 ·obtain⟨n,b0,i1,i2,i3⟩:=hat m b c h1 h2;exact hf.base n b0 c i2 i3
 ·rw[eb n n (hid n bx h1)];exact hf.keep n bx B h1 h2
 ·rw[eo n n (hid n bx h1)];exact hf.keepOwn n bx B h1 h2
def ai.fit(hr:ai vhe vg8 vhb G s a w){ls:LS}{ids:NM}{d:ls.den}(hid:∀n bx,af vhb n=some bx->az ids n=some n)(h:ls.get ids s=some d):∃G',ai vhe vg8 vhb G' (ls.st d) a w:=by
 unfold LS.get at h;cases hn:Nat.beq s.n ls.n<;>rw[hn]at h<;>simp at h
 have hn:=qN hn;split at h
 ·rename_i d1 nm1 h1;split at h
  ·rename_i nm2 h2;split at h
   ·rename_i d2 nm3 h3;cases hq:dr nm3&&s9 nm3 ls.hp<;>rw[hq]at h<;>simp at h
    have h:((d1,d2):ls.den)=d:=qJ h;subst h;simp at hq;obtain⟨q1,q2⟩:=hq;obtain⟨f1,f2⟩:=qnv h1;obtain⟨l1,l2⟩:=zfb h2;obtain⟨b1,b2⟩:=yy h3;obtain⟨b3,b4⟩:=b2 nm3 q1 (cz.refl _);refine⟨G.view nm3,⟨?_,by rw[hr.size];exact hn,fun i x hx => ?_,fun m _ hl => ?_,hr.fin.fit q1 (fun n bx hb=>b1 _ _ (l1 _ _ (f1 _ _ (hid n bx hb)))) b3⟩⟩
    ·obtain⟨bs,e1,e2⟩:=hr.defers;refine⟨bs,e1,e2.trans ?_⟩;have:∀(ns ms:List Nat),ns.map (az nm2)=ms.map some->ms.map G.box=ns.map (G.view nm3).box:=by
      intro ns
      induction ns with
      |nil=>intro ms h;cases ms with|nil=>rfl|cons=>simp at h
      |cons n ns ih=>
       intro ms h
       cases ms with
       |nil=>simp at h|cons m ms=>
        simp at h ⊢;refine⟨?_,ih ms h.2⟩;show _=(az nm3 n).bind G.box;rw[b1 _ _ h.1];rfl
     exact this _ _ l2
    ·obtain⟨y,hy,hs⟩:=f2 nm3 q1 (l1.trans b1) i x hx;obtain⟨v,v1,v2⟩:=hr.frame i y hy;exact⟨v,v1,hs.rep v2⟩
    ·have hno:az nm3 m=none:=by
      cases hc:az nm3 m with
      |none=>rfl|some o=>
       obtain⟨e,he,hem⟩:=qy9 q2 m o hc;exact absurd hem (b4 m hl e he)
     simp[Gh.view,hno]
   ·cases h
  ·cases h
 ·cases h
end
def ay{α β γ:Type}(o:α ⊕ β)(f:α->γ)(g:β->γ):γ:=match o with|.inl a=>f a|.inr b=>g b
inductive Sp:Type->Type 1
 |one {α:Type} (d:α->D):Sp α
 |two {α β:Type} (l:Sp α) (r:Sp β):Sp (α ⊕ β)
def Sp.K{R:Type}:{α:Type}->Sp α->α->(D->Option R)->Option R|_,.one d,x,k=>k (d x)|_,.two l r,x,k=>ay x (fun a=>l.K a k) (fun b=>r.K b k)
def Sp.Out:{α:Type}->Sp α->α->D->Prop|_,.one d,x,e=>e=d x|_,.two l _,.inl a,e=>l.Out a e|_,.two _ r,.inr b,e=>r.Out b e
def Sp.K_some{R:Type}{k:D->Option R}{y:R}:∀{α:Type}{sp:Sp α}{x:α},sp.K x k=some y->∃d,sp.Out x d/\k d=some y
 |_,.one d,x,h=>⟨d x,rfl,h⟩|_,.two l r,.inl a,h=>by obtain⟨d,h1,h2⟩:=Sp.K_some (sp:=l) (x:=a) h;exact⟨d,h1,h2⟩
 |_,.two l r,.inr b,h=>by obtain⟨d,h1,h2⟩:=Sp.K_some (sp:=r) (x:=b) h;exact⟨d,h1,h2⟩
inductive Rq:Type 1
 |tot (d:D)
 |ifb (b:Bool) (d:D)
 |bnd {α:Type} (o:Option α) (sp:Sp α)
 |br (b:Bool) (d1 d2:D)
def Rq.K{R:Type}(q:Rq)(k:D->Option R):Option R:=match q with
 |.tot d=>k d|.ifb b d=>bif b then k d else none|.bnd o sp=>o.bind fun x=>sp.K x k
 |.br b d1 d2=>bif b then k d1 else k d2
def Rq.Out(q:Rq)(e:D):Prop:=match q with|.tot d=>e=d|.ifb b d=>b=true/\e=d|.bnd o sp=>∃x,o=some x/\sp.Out x e|.br b d1 d2=>(b=true/\e=d1)\/(b=false/\e=d2)
def Rq.K_some{R:Type}{k:D->Option R}{y:R}{q:Rq}(h:q.K k=some y):∃d,q.Out d/\k d=some y:=by
 cases q with
 |tot d=>exact⟨d,rfl,h⟩|ifb b d=>
  cases b with|true=>exact⟨d,⟨rfl,rfl⟩,h⟩|false=>cases h
 |bnd o sp=>
  cases o with
  |none=>cases h
  |some x=>obtain⟨d,h1,h2⟩:=Sp.K_some (sp:=sp) (x:=x) h;exact⟨d,⟨x,rfl,h1⟩,h2⟩
 |br b d1 d2=>
  cases b with|true=>exact⟨d1,.inl ⟨rfl,rfl⟩,h⟩|false=>exact⟨d2,.inr ⟨rfl,rfl⟩,h⟩
inductive RS:Type->Type 1
 |one {α:Type} (p:Pt) (hp:List (Nat×bc)) (to:α->p.den×f7 hp) (fro:p.den×f7 hp->α) (ok:∀y,to (fro y)=y):RS α
 |two {α β:Type} (l:RS α) (r:RS β):RS (α ⊕ β)
def RS.res:{α:Type}->RS α->α->AV×List (Nat×ag)|_,.one p hp to _ _,x=>(p.put (to x).1,bj hp (to x).2)|_,.two l r,x=>ay x (fun a=>l.res a) (fun b=>r.res b)
def RS.sp(mk:AV->List (Nat×ag)->D):{α:Type}->RS α->Sp α
 |_,.one p hp to _ _ => .one fun x=>mk (p.put (to x).1) (bj hp (to x).2)
 |_,.two l r => .two (l.sp mk) (r.sp mk)
def RS.sp_out{mk:AV->List (Nat×ag)->D}:∀{α:Type}{r:RS α}{x:α}{d:D},(r.sp mk).Out x d->d=mk (r.res x).1 (r.res x).2|_,.one _ _ _ _ _,_,_,h=>h|_,.two l _,.inl a,_,h=>RS.sp_out (r:=l) (x:=a) h|_,.two _ r,.inr b,_,h=>RS.sp_out (r:=r) (x:=b) h
inductive ov:Type
 |fn (f:FuncId)
 |yld (tag:Nat)
 |ext (f:FuncId)
 |thr (f:FuncId) (ks:List (Nat×Nat))
def wv(t:TypeId)(n:Int):Value := .iface t (.agg #[.int .i64 n])
def eq(t:TypeId)(n:Int):AV := .tup [.undef,.iface t (.agg [.int .i64 n])]
def kv:AV->Option (TypeId×Int)|.tup [.undef,.iface t (.agg [.int .i64 n])]=>some (t,n)|_=>none
def qjl(P:Program)(x:TypeId×Int)(f:FuncId)(xs:List AV)(hp:List (Nat×ag))(hp':List (Nat×ag)):Prop:=
 ∀(w:World)(G:Gh)(vs:List Value),bp G hp w->ak xs G vs->Calls P f vs.toArray w (fun e w'=>e = .panicked [{ v:=wv x.1 x.2,recovered:=false }]/\∃G',Fin w G hp G' hp' w')
def qjo(P:Program)(f:FuncId)(xs:List AV)(r:AV):Prop:=
 ∀(w:World)(G:Gh)(vs:List Value),bp G [] w->ak xs G vs->∃v,(callFunc f vs.toArray).run P w = .ok (.value v) w/\aj r G v
structure cm:Type 1 where
 key:ov
 args:List Pt
 hp:List (Nat×bc)
 R:Type
 F:Pts.den args->f7 hp->Option R
 out:RS R
def cm.Sound(P:Program)(e:cm):Prop:=∀d d' r,e.F d d'=some r->match e.key with
 |.fn f=>Plain P f/\ce P f (Pts.put e.args d) (bj e.hp d') (e.out.res r).1 (e.out.res r).2|.yld m=>zd2 P m (Pts.put e.args d) (bj e.hp d') (e.out.res r).1 (e.out.res r).2|.ext f=>qjo P f (Pts.put e.args d) (e.out.res r).1| .thr f _=>Plain P f/\(match kv (e.out.res r).1 with
  |none=>ce P f (Pts.put e.args d) (bj e.hp d') (e.out.res r).1 (e.out.res r).2| some x=>qjl P x f (Pts.put e.args d) (bj e.hp d') (e.out.res r).2)
def am{α:Type}(l:List α)(n:Int):Option α:=if 0<=n then l[n.toNat]? else none
def qhx{α:Type}{l:List α}{n:Int}{x:α}(h:am l n=some x):0<=n/\l[n.toNat]? = some x:=by
 unfold am at h;split at h
 ·rename_i h0;exact⟨h0,h⟩
 ·cases h
def qnb{α:Type}(l:List α)(lo hi:Option Int):Rq:=
 match lo,hi with|none,none => .tot .none|some a,none => .ifb (decide (0<=a/\a<=l.length)) .none|none,some b => .ifb (decide (0<=b/\b<=l.length)) .none|some a,some b => .ifb (decide (0<=a/\a<=b/\b<=l.length)) .none
def zf4{α:Type}{l:List α}{lo hi:Option Int}{d:D}(h:(qnb l lo hi).Out d):ap (cut l lo hi).1:=by
 unfold qnb at h;unfold cut;split at h
 ·trivial
 ·exact⟨of_decide_eq_true h.1,trivial⟩
 ·exact⟨of_decide_eq_true h.1,trivial⟩
 ·exact⟨of_decide_eq_true h.1,trivial⟩
def vz:AV->Bool|.val _=>true|_=>false
def rt(c:Bool)(b:Bool):Option Rq:=bif c then(bif b then some (.tot .none) else none) else some (.ifb b .none)
def w8{c b:Bool}{q:Rq}{d:D}(h:rt c b=some q)(ho:q.Out d):b=true:=by
 unfold rt at h;cases c
 ·simp at h;subst h;exact ho.1
 ·cases b
  ·cases h
  ·rfl
def yz(op:BinOp)(x y:AV):Option Rq:=
 match op with
 |.quo=>match y.sym with|.int _ b=>rt (vz y) (decide (b≠0))|.byte b=>rt (vz y) (decide (b≠0))|_=>some (.tot .none)
 |.rem=>match y.sym with|.int _ b=>rt (vz y) (decide (b≠0))|.byte b=>rt (vz y) (decide (b≠0))|_=>some (.tot .none)
 |.shl=>match y.sym with|.int _ b=>rt (vz y) (decide (0<=b))|_=>some (.tot .none)
 |.shr=>match y.sym with|.int _ b=>rt (vz y) (decide (0<=b))|_=>some (.tot .none)
 |.add=>match x.sym,y.sym with|.str a,.str b=>some (.ifb (decide (a.length+b.length<=bz)) .none)|_,_=>some (.tot .none)
 |_=>some (.tot .none)
def zfa{P:Program}{op:BinOp}{t:TypeId}{x y:AV}{q:Rq}{d:D}(h:yz op x y=some q)(ho:q.Out d){ps:List Prop}{r:AV}(ha:sv P op t x.sym y.sym=some (ps,r)):ap ps:=by
 have key:∀(xs ys:AV),(op = .quo\/op = .rem->(∀k b,ys = .int k b->b≠0)/\∀b,ys = .byte b->b≠0)->(op = .shl\/op = .shr->∀k b,ys = .int k b->0<=b)->(op = .add->∀a b,xs = .str a->ys = .str b->a.length+b.length<=bz) ->
   ∀{ps r},sv P op t xs ys=some (ps,r)->ap ps:=by
  intro xs ys k1 k2 k3 ps r ha;unfold sv at ha;split at ha
  ·rename_i k a k' b;cases hc:decide (op = .shl)||decide (op = .shr)||decide (k=k')<;>rw[hc]at ha<;>simp at ha
   cases hc8:decide (k = .u8)||decide (k' = .u8)<;>rw[hc8]at ha<;>simp at ha
   cases op<;>simp[qb3,qI,qP]at ha<;>obtain⟨rfl,_⟩:=ha<;>first
    |trivial
    |exact⟨(k1 (.inl rfl)).1 _ _ rfl,trivial⟩
    |exact⟨(k1 (.inr rfl)).1 _ _ rfl,trivial⟩
    |exact⟨k2 (.inl rfl) _ _ rfl,trivial⟩
    |exact⟨k2 (.inr rfl) _ _ rfl,trivial⟩
  ·rename_i a b;cases op<;>simp[qme,qI,qP,reduceCtorEq]at ha<;>obtain⟨rfl,_⟩:=ha<;>first
    |trivial
    |exact⟨(k1 (.inl rfl)).2 _ rfl,trivial⟩
    |exact⟨(k1 (.inr rfl)).2 _ rfl,trivial⟩
  ·split at ha
   ·simp at ha;obtain⟨rfl,_⟩:=ha;exact⟨k2 (.inl rfl) _ _ rfl,trivial⟩
   ·simp at ha;obtain⟨rfl,_⟩:=ha;exact⟨k2 (.inr rfl) _ _ rfl,trivial⟩
   ·cases ha
  ·rename_i k a b;cases hk:decide (k = .u8)<;>rw[hk]at ha<;>simp at ha
   split at ha
   ·simp at ha;obtain⟨rfl,_⟩:=ha;trivial
   ·simp at ha;obtain⟨rfl,_⟩:=ha;trivial
   ·cases ha
  ·rename_i a b;cases op<;>simp[qmg,qI,qP,reduceCtorEq]at ha<;>obtain⟨rfl,_⟩:=ha<;>first
    |trivial
    |exact⟨k3 rfl _ _ rfl rfl,trivial⟩
  ·split at ha
   ·split at ha
    ·simp at ha;obtain⟨rfl,_⟩:=ha;trivial
    ·cases ha
   ·split at ha
    ·simp at ha;obtain⟨rfl,_⟩:=ha;trivial
    ·cases ha
   ·cases ha
 refine key x.sym y.sym (fun hop => ?_) (fun hop => ?_) (fun hop a b e1 e2 => ?_) ha
 ·rcases hop with rfl|rfl
  ·simp only[yz]at h;exact⟨fun k b e=>by rw[e]at h;exact of_decide_eq_true (w8 h ho),fun b e=>by rw[e]at h;exact of_decide_eq_true (w8 h ho)⟩
  ·simp only[yz]at h;exact⟨fun k b e=>by rw[e]at h;exact of_decide_eq_true (w8 h ho),fun b e=>by rw[e]at h;exact of_decide_eq_true (w8 h ho)⟩
 ·rcases hop with rfl|rfl
  ·simp[yz]at h;exact fun k b e=>by rw[e]at h;exact of_decide_eq_true (w8 h ho)
  ·simp[yz]at h;exact fun k b e=>by rw[e]at h;exact of_decide_eq_true (w8 h ho)
 ·subst hop;simp[yz]at h;rw[e1,e2]at h;simp at h;subst h;exact of_decide_eq_true ho.1
def q3e(s:St):AV->Option (List UInt8)
 |.sl τ l=>match Ty.eq? τ .byte with|some ⟨h⟩=>some (h▸l:List Ty.byte.den)|none=>none
 |.own k=>match af s.hp k with
  |some (.row τ l _)=>match Ty.eq? τ .byte with|some ⟨h⟩=>some (h▸l:List Ty.byte.den)|none=>none
  |_=>none
 |.val (.slice none 0 0)=>some []|_=>none
def z02{s:St}{v:AV}{b:List UInt8}(h:q3e s v=some b){flat:List AV}{n:Nat}(hs:fw s v=some (flat,n)):flat=b.map AV.byte/\n=b.length:=by
 unfold q3e at h;split at h
 ·rename_i τ l;split at h
  ·rename_i hh _;subst hh;have h:l=b:=qJ h;subst h;simp only[fw,qI,qP]at hs;obtain⟨rfl,rfl⟩:=hs;exact⟨qhm l,rfl⟩
  ·cases h
 ·rename_i k;split at h
  ·rename_i τ l E hl;split at h
   ·rename_i hh _;subst hh;have h:l=b:=qJ h;subst h;simp only[fw,hl,qI,qP]at hs;obtain⟨rfl,rfl⟩:=hs;exact⟨qhm l,rfl⟩
   ·cases h
  ·cases h
 ·simp only[qI]at h;subst h;simp only[fw,qI,qP]at hs;obtain⟨rfl,rfl⟩:=hs;exact⟨rfl,rfl⟩
 ·cases h
def tyE(P:Program)(E:TypeId):Option Ty:=match P.underlying E with|some (.int k)=>some (bif decide (k = .u8) then .byte else .int k)|some .bool=>some .bool|some .string=>some .str|_=>none
def q2k:Ty->AV->Bool|.int _,.int _ _=>true|.byte,.byte _=>true|.bool,.bool _=>true|.str,.str _=>true|_,_=>false
def zyn:∀{τ:Ty}{y:AV}{d:τ.den},qx τ y=some d->q2k τ y=true->y=τ.av d
 |.int k,.int k' n,d,h,_=>by
  simp only[qx,Ty.dec]at h;cases hk:decide (k'=k)<;>rw[hk]at h
  ·cases h
  ·have:=of_decide_eq_true hk;subst this;have h:n=d:=qJ h;subst h;rfl
 |.byte,.byte c,d,h,_=>by have h:c=d:=qJ h;subst h;rfl|.bool,.bool c,d,h,_=>by have h:c=d:=qJ h;subst h;rfl|.str,.str c,d,h,_=>by have h:c=d:=qJ h;subst h;rfl
def qcl(τ:Ty):List AV->Option (List τ.den)
 |[]=>some []|x::xs=>match qx τ x.sym,qcl τ xs with|some d,some ds=>bif q2k τ x.sym then some (d::ds) else none|_,_=>none
def q0k{τ:Ty}:∀{xs:List AV}{ds:List τ.den},qcl τ xs=some ds->xs.map AV.sym=ds.map τ.av
 |[],ds,h=>by simp only[qcl,qI]at h;subst h;rfl|x::xs,ds,h=>by
  simp only[qcl]at h;split at h
  ·rename_i d ds' h1 h2;cases hb:q2k τ x.sym<;>rw[hb]at h<;>simp only[qT,qF,reduceCtorEq,qI]at h
   subst h;rw[List.map_cons,List.map_cons,q0k h2,← zyn h1 hb]
  ·cases h
def qim(s:St):AV->Option (List Int)
 |.sl (.int .i32) l=>some l|.own k=>match af s.hp k with|some (.row (.int .i32) l _)=>some l|_=>none
 |.val (.slice none 0 0)=>some []|_=>none
def zks{s:St}{v:AV}{l:List Int}(hl:qim s v=some l):fw s v=some (List.flatMap (β:=AV) (Ty.int .i32).enc l,l.length):=by
 unfold qim at hl;split at hl
 ·have hl:=qJ hl;subst hl;rfl
 ·rename_i k;split at hl
  ·rename_i hk;have hl:=qJ hl;subst hl;show(match af s.hp k with|some (.row τ l _)=>some (l.flatMap τ.enc,l.length)|_=>none)=_;rw[hk];rfl
  ·cases hl
 ·have hl:=qJ hl;subst hl;rfl
 ·cases hl
def qhw(P:Program)(s:St)(t:TypeId)(x:AV)(i:Operand):Option Rq:=
 match x,s.evy i with
 |.str b,some (.int _ n)=>some (.bnd (am b n) (.one fun c => .cs [.byte c]))
 |.str b,some (.byte n)=>some (.bnd b[n.toNat]? (.one fun c => .cs [.byte c]))
 |.agg cs,some (.int _ n)=>match s.ev i with
  |some (.val _)=>match(cs.map AV.sym)[n.toNat]? with|some y=>bif decide (0<=n) then some (.tot (.cs [y])) else none|none=>none
  |_=>match P.underlying t with
   |some (.array _ E)=>match tyE P E with
    |some τ=>match qcl τ cs with
     |some l=>some (.bnd (am l n) (.one fun y => .cs [τ.av y]))
     |none=>none
    |none=>none
   |_=>none
 |_,_=>none
def qb5(P:Program)(s:St)(t:TypeId)(x:AV)(i:Operand):Option Rq:=
 match x,s.evy i with
 |.sl τ l,some (.int _ n)=>some (.bnd (am l n) (.one fun y => .cs (τ.enc y)))
 |.own k,some (.int _ n)=>match af s.hp k with|some (.row _ l _)=>some (.ifb (decide (0<=n/\n.toNat<l.length)) .none)|_=>none
 |.asl _ m _,some (.int _ n)=>match s.ev i with|some j=>rt (vz j) (decide (0<=n/\n.toNat<m))|_=>none
 |.ptr _ _,some (.int _ n)=>match P.underlying t,s.ev i with|some (.array len _),some j=>rt (vz j) (decide (0<=n/\n<len))|_,_=>none
 |_,_=>none
def o7(P:Program)(s:St)(op:Op):Option Rq:=
 match op with
 |.pick c _ _=>match s.ev c with|some (.bool b)=>some (.br b (.b true) (.b false))|_=>some (.tot .none)
 |.load _ x=>match s.ev x with
  |some (.oel k _ i _)=>match af s.hp k with
   |some (.row τ l _)=>some (.bnd l[i]? (.one fun y => .cs (τ.enc y)))
   |_=>none
  |_=>some (.tot .none)
 |.slice _ x lo hi _=>match ir s lo,ir s hi,s.ev x with|some a,some b,some (.str l)=>some (qnb l a b)|some a,some b,some (.sl _ l)=>some (qnb l a b)|some none,some none,some (.ptr _ _)=>some (.tot .none)|some none,some none,some (.rop _)=>some (.tot .none)|_,_,_=>none
 |.binOp op _ x y _=>match s.ev x,s.ev y with|some a,some b=>yz op a b|_,_=>none
 |.convert _ _ x=>match s.ev x with
  |some v=>match q3e s v with
   |some b=>some (.tot (.cs [.str b]))|none=>match qim s v with|some l=>some (.tot (.cs [.sl (.int .i32) l]))|none=>some (.tot .none)
  |none=>none
 |.index t x i=>match s.ev x with|some v=>qhw P s t v i|none=>none
 |.indexAddr t x i=>match s.ev x with|some v=>qb5 P s t v i|none=>none
 |_=>some (.tot .none)
def zvx{P:Program}{s:St}{t:TypeId}{x j:AV}{i:Operand}{q:Rq}{d:D}(hj:s.evy i=some j)(h:qhw P s t x i=some q)(ho:q.Out d){ps:List Prop}{r:AV}(ha:qgq P t x j d=some (ps,r)):ap ps:=by
 unfold qgq at ha;split at ha
 ·simp[qhw,hj,qI]at h;subst h;obtain⟨y,h1,h2⟩:=ho;simp only[Sp.Out,D.cs.injEq,List.cons.injEq,AV.byte.injEq,and_true]at h2;subst h2;simp at ha;obtain⟨rfl,_⟩:=ha;exact⟨qhx h1,trivial⟩
 ·simp[qhw,hj,qI]at h;subst h;obtain⟨y,h1,h2⟩:=ho;simp only[Sp.Out,D.cs.injEq,List.cons.injEq,AV.byte.injEq,and_true]at h2;subst h2;simp at ha;obtain⟨rfl,_⟩:=ha;exact⟨h1,trivial⟩
 ·rename_i len E cs k n y hu;simp only[qhw,hj]at h;split at ha
  ·cases hq:Nat.beq cs.length len<;>rw[hq]at ha<;>simp only[qT,qF,reduceCtorEq,qI,qP]at ha
   obtain⟨rfl,_⟩:=ha;refine⟨?_,trivial⟩;split at h
   ·split at h
    ·rename_i z hz;cases hd:decide (0<=n)<;>rw[hd]at h<;>simp only[qT,qF,reduceCtorEq,qI]at h
     subst h;have ho:D.cs [y]=D.cs [z]:=ho;simp only[D.cs.injEq,List.cons.injEq,and_true]at ho;subst ho;exact⟨of_decide_eq_true hd,hz⟩
    ·cases h
   ·simp[hu]at h;split at h
    ·rename_i τ hτ;split at h
     ·rename_i l hl;simp at h;subst h;obtain⟨z,h1,h2⟩:=ho;simp[Sp.Out,D.cs.injEq,List.cons.injEq,and_true]at h2;subst h2;obtain⟨h3,h4⟩:=qhx h1;refine⟨h3,?_⟩;rw[q0k hl,List.getElem?_map,h4];rfl
     ·cases h
    ·cases h
  ·cases ha
 ·cases ha
def zrn{P:Program}{s:St}{t:TypeId}{x j:AV}{i:Operand}{q:Rq}{d:D}(hj:s.evy i=some j)(h:qb5 P s t x i=some q)(ho:q.Out d){ps:List Prop}{r:AV}(ha:qb2 P s t x j d=some (ps,r)):ap ps:=by
 unfold qb2 at ha;split at ha
 ·split at ha
  ·rename_i sz k n hsz;split at ha
   ·rename_i τ l cs;cases hq:Nat.beq τ.sz sz<;>rw[hq]at ha<;>simp at ha
    obtain⟨rfl,_⟩:=ha;simp[qb5,hj,qI]at h;subst h;obtain⟨y,h1,h2⟩:=ho;have h2:D.cs cs=D.cs (τ.enc y):=h2;simp at h2;exact⟨⟨(qhx h1).1,y,(qhx h1).2,h2.symm⟩,trivial⟩
   ·split at ha
    ·rename_i τ l E hl;cases hq:Nat.beq τ.sz sz<;>rw[hq]at ha<;>simp at ha
     obtain⟨rfl,_⟩:=ha;simp only[qb5,hj,hl,qI]at h;subst h;exact⟨of_decide_eq_true ho.1,trivial⟩
    ·cases ha
   ·simp at ha;obtain⟨rfl,_⟩:=ha;simp only[qb5,hj]at h;split at h
    ·exact⟨of_decide_eq_true (w8 h ho),trivial⟩
    ·cases h
   ·cases ha
  ·cases ha
 ·rename_i len E hu;split at ha
  ·rename_i sz k n b off hsz;simp at ha;obtain⟨rfl,_⟩:=ha;simp only[qb5,hj,hu]at h;split at h
   ·rename_i len' _ j' he _;simp only[qI,TypeDesc.array.injEq]at he;obtain⟨rfl,rfl⟩:=he;exact⟨of_decide_eq_true (w8 h ho),trivial⟩
   ·cases h
  ·cases ha
 ·cases ha
def zer{P:Program}{s:St}{op:Op}{q:Rq}{d:D}(h:o7 P s op=some q)(ho:q.Out d){ps:List Prop}{v:AV}(ha:dh P s d op=some (ps,v)):ap ps:=by
 have triv:∀{x:AV}{ps:List Prop}{v:AV},(some (([]:List Prop),x):Option (List Prop×AV))=some (ps,v)->ap ps:=fun e=>by
  simp at e;obtain⟨rfl,_⟩:=e;trivial
 have cnd:∀{b:Bool}{x:AV}{ps:List Prop}{v:AV},(bif b then some (([]:List Prop),x) else none)=some (ps,v)->ap ps:=fun{b} _ _ _ e=>by
  cases b
  ·cases e
  ·exact triv e
 unfold dh at ha;split at ha
 ·split at ha
  ·exact triv ha
  ·cases ha
 ·split at ha
  ·exact triv ha
  ·cases ha
 ·split at ha
  ·rename_i c x y b t hc;split at ha
   ·simp at ha;obtain⟨rfl,_⟩:=ha;simp[o7,hc,qI]at h;subst h;rcases ho with⟨h1,h2⟩|⟨h1,h2⟩
    ·simp at h2;subst h2;exact⟨h1,trivial⟩
    ·simp at h2;subst h2;exact⟨h1,trivial⟩
   ·cases ha
  ·split at ha
   ·exact triv ha
   ·cases ha
  ·cases ha
 ·unfold qb0 at ha;split at ha
  ·split at ha
   ·split at ha
    ·split at ha
     ·exact triv ha
     ·cases ha
    ·cases ha
   ·split at ha
    ·split at ha
     ·exact triv ha
     ·cases ha
    ·cases ha
   ·cases ha
  ·cases ha
 ·unfold qgs at ha;split at ha
  ·split at ha
   ·split at ha
    ·exact triv ha
    ·cases ha
   ·cases ha
  ·split at ha
   ·exact triv ha
   ·cases ha
  ·rename_i k sz i off hx;split at ha
   ·rename_i τ l E cs hl;cases hq:Nat.beq sz τ.sz<;>rw[hq]at ha<;>simp at ha
    split at ha
    ·simp at ha;obtain⟨rfl,_⟩:=ha;simp[o7,hx,hl,qI]at h;subst h;obtain⟨y,h1,h2⟩:=ho;have h2:D.cs cs=D.cs (τ.enc y):=h2;simp at h2;exact⟨⟨y,h1,h2.symm⟩,trivial⟩
    ·cases ha
   ·cases ha
  ·cases ha
 ·unfold qgt at ha;split at ha
  ·rename_i h1 h2 h3;split at ha
   ·simp at ha;obtain⟨rfl,_⟩:=ha;simp[o7,h1,h2,h3,qI]at h;subst h;exact zf4 ho
   ·cases ha
  ·rename_i τ l h1 h2 h3;split at ha
   ·split at ha
    ·rename_i sz hsz;cases hq:Nat.beq τ.sz sz<;>rw[hq]at ha<;>simp at ha
     obtain⟨rfl,_⟩:=ha;simp[o7,h1,h2,h3,qI]at h;subst h;exact zf4 ho
    ·cases ha
   ·cases ha
  ·split at ha
   ·split at ha
    ·exact triv ha
    ·cases ha
   ·cases ha
  ·split at ha
   ·rename_i n E hu;split at ha
    ·split at ha
     ·split at ha
      ·rw[cond_eq_ite]at ha;split at ha
       ·exact triv ha
       ·cases ha
      ·cases ha
     ·cases ha
    ·cases ha
   ·cases ha
  ·cases ha
 ·split at ha
  ·rename_i a b hx hy;simp[o7,hx,hy]at h;unfold qmf at ha;split at ha
   ·split at ha
    ·exact triv ha
    ·exact zfa h ho ha
   ·exact zfa h ho ha
  ·cases ha
 ·split at ha
  ·split at ha
   ·exact triv ha
   ·cases ha
  ·cases ha
 ·rename_i src dst x;split at ha
  ·rename_i v' hs hx;split at ha
   ·rename_i r' hc;simp at ha;subst ha;have key:∀{y:AV}{ps:List Prop}{v:AV},qr P dst y=some (ps,v)->ap ps:=fun e=>by
     unfold qr at e;split at e
     ·rename_i k _ _ _;cases hk:decide (k = .u8)<;>rw[hk]at e<;>exact triv e
     ·rename_i k _ _;cases hk:decide (k = .u8)<;>rw[hk]at e<;>simp only[qT,qF]at e
      ·cases hk8:decide (k = .i8)<;>rw[hk8]at e<;>simp only[qT,qF,reduceCtorEq]at e
       exact triv e
      ·exact triv e
     ·exact triv e
     ·cases e
    unfold va at hc;split at hc
    ·split at hc
     ·exact triv hc
     ·exact key hc
    ·exact key hc
   ·split at ha
    ·unfold qgu at ha;split at ha
     ·rename_i E flat n b hu hsrc;split at ha
      ·cases ha
      ·simp at ha;obtain⟨rfl,_⟩:=ha;simp[o7,hx]at h;split at h
       ·rename_i b' hb;simp at h;subst h;have ho:D.cs [.str b]=D.cs [.str b']:=ho;simp at ho;subst ho;obtain⟨h1,h2⟩:=z02 hb hsrc;exact⟨h1,h2,trivial⟩
       ·split at h
        ·rename_i l' _;simp at h;subst h;exact absurd (show D.cs [.str b]=D.cs [.sl (.int .i32) l'] from ho) oC
        ·simp at h;subst h;exact absurd (show D.cs [.str b]=D.none from ho) oC
      ·cases ha
     ·rename_i E flat n l hu hsrc;split at ha
      ·cases ha
      ·simp at ha;obtain⟨rfl,_⟩:=ha;simp[o7,hx]at h;split at h
       ·rename_i b' _;simp at h;subst h;exact absurd (show D.cs [.sl (.int .i32) l]=D.cs [.str b'] from ho) oC
       ·split at h
        ·rename_i l' hl;simp at h;subst h;have ho:D.cs [.sl (.int .i32) l]=D.cs [.sl (.int .i32) l']:=ho;have ho:l=l':=by injection ho with ho;injection ho with ho;injection ho with _ ho
         subst ho;have h1:=zks hl;rw[hsrc]at h1;simp at h1;exact⟨h1.1,h1.2,trivial⟩
        ·simp at h;subst h;exact absurd (show D.cs [.sl (.int .i32) l]=D.none from ho) oC
      ·cases ha
     ·cases ha
    ·cases ha
  ·cases ha
 ·split at ha
  ·unfold qmc at ha;split at ha
   ·split at ha
    ·split at ha
     ·exact triv ha
     ·cases ha
    ·cases ha
   ·cases ha
  ·cases ha
 ·split at ha
  ·unfold qmd at ha;split at ha
   ·split at ha
    ·split at ha
     ·rename_i sz _;cases hz:Nat.beq sz 0<;>rw[hz]at ha<;>simp at ha
      split at ha
      ·exact triv ha
      ·exact cnd ha
      ·exact triv ha
      ·cases ha
     ·cases ha
    ·cases ha
   ·cases ha
  ·cases ha
 ·split at ha
  ·split at ha
   ·exact triv ha
   ·cases ha
  ·cases ha
 ·split at ha
  ·rename_i v' j hx hj;simp[o7,hx]at h;exact zvx hj h ho ha
  ·cases ha
 ·split at ha
  ·rename_i v' j hx hj;simp[o7,hx]at h;exact zrn hj h ho ha
  ·cases ha
 ·split at ha
  ·exact triv ha
  ·cases ha
 ·split at ha
  ·split at ha
   ·unfold qgr at ha;split at ha
    ·exact triv ha
    ·exact triv ha
    ·split at ha
     ·exact triv ha
     ·cases ha
    ·exact triv ha
    ·exact triv ha
    ·cases ha
   ·cases ha
  ·cases ha
 ·split at ha
  ·split at ha
   ·unfold qyu at ha;split at ha
    ·exact cnd ha
    ·cases ha
   ·cases ha
  ·cases ha
 ·split at ha
  ·split at ha
   ·unfold qyv at ha;split at ha
    ·exact cnd ha
    ·cases ha
   ·cases ha
  ·cases ha
 ·split at ha
  ·exact cnd ha
  ·cases ha
 ·cases ha
mutual
def qcx(hp:List (Nat×ag)):AV->AV
 |.own k=>match af hp k with|some (.row τ l _) => .sl τ l|_ => .own k
 |.agg xs => .agg (pq hp xs)|x=>x
def pq(hp:List (Nat×ag)):List AV->List AV|[]=>[]|x::xs=>qcx hp x::pq hp xs
end
mutual
def zg3:AV->Bool|.own _=>true|.agg xs=>qz xs|_=>false
def qz:List AV->Bool|[]=>false|x::xs=>zg3 x||qz xs
end
mutual
def t8:AV->Bool|.iface _ x=>t8 x|.agg xs=>jh xs|.tup xs=>jh xs|.fn _ xs ys=>jh xs&&jh ys|_=>true
def jh:List AV->Bool|[]=>true|x::xs=>t8 x&&jh xs
end
def q15:∀{xs ys:List AV},jh xs=true->jh ys=true->jh (xs++ys)=true
 |[],_,_,h=>h|x::xs,ys,h,k=>by
  simp[jh,qA,wK]at h ⊢;exact⟨h.1,q15 h.2 k⟩
def qie:∀{τ:Ty}{d:τ.den},jh (τ.enc d)=true|.int _,_=>rfl|.byte,_=>rfl|.bool,_=>rfl|.str,_=>rfl|.unit,_=>rfl|.prod _ _,_=>q15 qie qie|.list _,_=>rfl|.tree _,_=>q15 qie rfl
def zxq:∀{τ:Ty}{d:τ.den},t8 (τ.av d)=true|.int _,_=>rfl|.byte,_=>rfl|.bool,_=>rfl|.str,_=>rfl|.unit,_=>rfl|.prod a b,d=>qie (τ := .prod a b) (d:=d)|.list _,_=>rfl|.tree a,d=>qie (τ := .tree a) (d:=d)
mutual
def ziv:∀{p:Pt}{d:p.den},t8 (p.put d)=true|.h _,_=>zxq|.c _,_=>rfl|.agg ps,d=>zk (ps:=ps) (d:=d)|.tup ps,d=>zk (ps:=ps) (d:=d)|.ptr _ _,_=>rfl|.own _,_=>rfl|.arr _,_=>rfl|.el _ _,_=>rfl|.iel _ _ _,_=>rfl|.ifc _ p,d=>ziv (p:=p) (d:=d)|.yld _,_=>rfl|.pn _,_=>rfl|.fn _ cap,d=>zk (ps:=cap) (d:=d)|.u,_=>rfl
def zk:∀{ps:List Pt}{d:Pts.den ps},jh (Pts.put ps d)=true
 |[],_=>rfl|p::ps,d=>by
  show(t8 (p.put d.1)&&jh (Pts.put ps d.2))=true;rw[ziv,zk];rfl
end
mutual
def gz{b:Bool}{hp:List (Nat×ag)}:∀{x y:AV}{ps:List Prop},t8 y=true->vw false [] (x.ren (ar [])) y=some ps->ap ps->∃qs,vw b hp x y=some qs/\ap qs
 |.agg xs,y,ps,hn,h,hp=>by
  cases y<;>first
   |exact qdg (xs:=xs) hn h hp
   |exact⟨_,rfl,trivial⟩
   |(exfalso;have:=qJ h;subst this;exact absurd hp.1 oC)
 |.tup xs,y,ps,hn,h,hp=>by
  cases y<;>first
   |exact qdg (xs:=xs) hn h hp
   |exact⟨_,rfl,trivial⟩
   |(exfalso;have:=qJ h;subst this;exact absurd hp.1 oC)
 |.fn f xs ys,y,ps,hn,h,hp=>by
  cases y with
  |fn f' xs' ys'=>
   simp[t8,qA]at hn;have h:(match bn false [] (AV.rens (ar []) xs) xs',bn false [] (AV.rens (ar []) ys) ys' with
    |some ps,some qs=>some ((f'=f)::(ps++qs))| _,_=>none)=some ps:=h
   split at h
   ·rename_i p1 p2 h1 h2;have:=qJ h;subst this;obtain⟨q1,e1,a1⟩:=qdg (b:=b) (hp:=‹_›) hn.1 h1 (dt.1 hp.2).1;obtain⟨q2,e2,a2⟩:=qdg (b:=b) (hp:=‹_›) hn.2 h2 (dt.1 hp.2).2;exact⟨(f'=f)::(q1++q2),by simp[vw,e1,e2],hp.1,dt.2 ⟨a1,a2⟩⟩
   ·cases h
  |undef=>exact⟨_,rfl,trivial⟩|_=>exfalso;have:=qJ h;subst this;exact absurd hp.1 oC
 |.val v,y,ps,hn,h,hp=>by cases y<;>exact⟨ps,h,hp⟩
 |.undef,y,ps,hn,h,hp=>by cases y<;>exact⟨ps,h,hp⟩
 |.int _ _,y,ps,hn,h,hp=>by cases y<;>exact⟨ps,h,hp⟩
 |.byte _,y,ps,hn,h,hp=>by cases y<;>exact⟨ps,h,hp⟩
 |.bool _,y,ps,hn,h,hp=>by cases y<;>exact⟨ps,h,hp⟩
 |.str _,y,ps,hn,h,hp=>by cases y<;>exact⟨ps,h,hp⟩
 |.sl _ _,y,ps,hn,h,hp=>by cases y<;>exact⟨ps,h,hp⟩
 |.arr _ _,y,ps,hn,h,hp=>by cases y<;>exact⟨ps,h,hp⟩
 |.rop _,y,ps,hn,h,hp=>by cases y<;>exact⟨ps,h,hp⟩
 |.iface t x,y,ps,hn,h,hp=>by
  cases y with
  |undef=>exact⟨_,rfl,trivial⟩|iface t' x'=>
   have h:(match vw false [] (AV.ren (ar []) x) x' with
    |some ps=>some ((t'=t)::ps)| none=>none)=some ps:=h
   split at h
   ·rename_i p1 h1;have:=qJ h;subst this;have hn':t8 x'=true:=hn;obtain⟨q1,e1,a1⟩:=gz (b:=b) (hp:=‹_›) (x:=x) (y:=x') hn' h1 hp.2;exact⟨(t'=t)::q1,by simp[vw,e1],hp.1,a1⟩
   ·cases h
  |_=>exfalso;have:=qJ h;subst this;exact absurd hp.1 (by simp[AV.ren])
 |.ptr _ _,y,ps,hn,h,hp=>by
  cases y<;>first
   |exact⟨_,rfl,trivial⟩
   |(exfalso;have:=qJ h;subst this;have e:_=AV.undef:=hp.1;cases e)
 |.own _,y,ps,hn,h,hp=>by
  cases y<;>first
   |exact⟨_,rfl,trivial⟩
   |(exfalso;have:=qJ h;subst this;have e:_=AV.undef:=hp.1;cases e)
 |.oel _ _ _ _,y,ps,hn,h,hp=>by
  cases y<;>first
   |exact⟨_,rfl,trivial⟩
   |(exfalso;have:=qJ h;subst this;have e:_=AV.undef:=hp.1;cases e)
 |.osl _ _ _,y,ps,hn,h,hp=>by
  cases y<;>first
   |exact⟨_,rfl,trivial⟩
   |(exfalso;have:=qJ h;subst this;have e:_=AV.undef:=hp.1;cases e)
 |.asl _ _ _,y,ps,hn,h,hp=>by
  cases y<;>first
   |exact⟨_,rfl,trivial⟩
   |(exfalso;have:=qJ h;subst this;have e:_=AV.undef:=hp.1;cases e)
 |.yld _,y,ps,hn,h,hp=>by
  cases y<;>first
   |exact⟨_,rfl,trivial⟩
   |(exfalso;have:=qJ h;subst this;have e:_=AV.undef:=hp.1;cases e)
 |.pn _,y,ps,hn,h,hp=>by
  cases y<;>first
   |exact⟨_,rfl,trivial⟩
   |(exfalso;have:=qJ h;subst this;have e:_=AV.undef:=hp.1;cases e)
def qdg{b:Bool}{hp:List (Nat×ag)}:∀{xs ys:List AV}{ps:List Prop},jh ys=true->bn false [] (AV.rens (ar []) xs) ys=some ps->ap ps->∃qs,bn b hp xs ys=some qs/\ap qs
 |[],[],ps,_,h,hp=>⟨[],rfl,trivial⟩|x::xs,y::ys,ps,hn,h,hp=>by
  simp[jh,qA]at hn;simp[AV.rens,bn]at h;split at h
  ·rename_i p1 h1;split at h
   ·rename_i p2 h2;have:=qJ h;subst this;obtain⟨q1,e1,a1⟩:=gz (b:=b) (hp:=‹_›) hn.1 h1 (dt.1 hp).1;obtain⟨q2,e2,a2⟩:=qdg (b:=b) (hp:=‹_›) hn.2 h2 (dt.1 hp).2;exact⟨q1++q2,by simp[bn,e1,e2],dt.2 ⟨a1,a2⟩⟩
   ·cases h
  ·cases h
 |[],_::_,_,_,h,_=>by simp[AV.rens,bn]at h|_::_,[],_,_,h,_=>by simp[AV.rens,bn]at h
end
mutual
def z1y{hp:List (Nat×ag)}:∀{x y:AV},t8 y=true->nr [] (qcx hp x) y->∃qs,vw true hp x y=some qs/\ap qs
 |.own k,y,hn,⟨ps,h1,h2⟩=>by
  simp only[qcx]at h1;split at h1
  ·rename_i τ l E hl
   cases y with
   |undef=>exact⟨_,rfl,trivial⟩|sl τ' l'=>
    have:=qJ h1;subst this;exact⟨[AV.sl τ' l'=AV.sl τ l],by simp[vw,hl,qT],h2.1,trivial⟩
   |_=>exfalso;have:=qJ h1;subst this;exact absurd h2.1 (by simp[AV.ren])
  ·exact gz hn h1 h2
 |.agg xs,y,hn,⟨ps,h1,h2⟩=>by
  simp[qcx,AV.ren]at h1
  cases y with
  |undef=>exact⟨_,rfl,trivial⟩|agg ys=>
   have h1':bn false [] (AV.rens (ar []) (pq hp xs)) ys=some ps:=h1;have hn':jh ys=true:=hn;obtain⟨qs,k1,k2⟩:=qpm (xs:=xs) hn' ⟨ps,h1',h2⟩;exact⟨qs,k1,k2⟩
  |_=>exfalso;have:=qJ h1;subst this;exact absurd h2.1 oC
 |.undef,y,hn,⟨ps,h1,h2⟩=>gz (x := .undef) hn h1 h2|.int k n,y,hn,⟨ps,h1,h2⟩=>gz (x := .int k n) hn h1 h2|.byte c,y,hn,⟨ps,h1,h2⟩=>gz (x := .byte c) hn h1 h2|.bool c,y,hn,⟨ps,h1,h2⟩=>gz (x := .bool c) hn h1 h2|.str c,y,hn,⟨ps,h1,h2⟩=>gz (x := .str c) hn h1 h2|.sl τ l,y,hn,⟨ps,h1,h2⟩=>gz (x := .sl τ l) hn h1 h2|.arr τ l,y,hn,⟨ps,h1,h2⟩=>gz (x := .arr τ l) hn h1 h2|.rop c,y,hn,⟨ps,h1,h2⟩=>gz (x := .rop c) hn h1 h2|.val c,y,hn,⟨ps,h1,h2⟩=>gz (x := .val c) hn h1 h2|.tup c,y,hn,⟨ps,h1,h2⟩=>gz (x := .tup c) hn h1 h2|.ptr b o,y,hn,⟨ps,h1,h2⟩=>gz (x := .ptr b o) hn h1 h2|.oel k z i o,y,hn,⟨ps,h1,h2⟩=>gz (x := .oel k z i o) hn h1 h2|.osl k z l,y,hn,⟨ps,h1,h2⟩=>gz (x := .osl k z l) hn h1 h2|.asl k n c,y,hn,⟨ps,h1,h2⟩=>gz (x := .asl k n c) hn h1 h2|.yld n,y,hn,⟨ps,h1,h2⟩=>gz (x := .yld n) hn h1 h2|.pn n,y,hn,⟨ps,h1,h2⟩=>gz (x := .pn n) hn h1 h2|.fn f a c,y,hn,⟨ps,h1,h2⟩=>gz (x := .fn f a c) hn h1 h2|.iface t x,y,hn,⟨ps,h1,h2⟩=>gz (x := .iface t x) hn h1 h2
def qpm{hp:List (Nat×ag)}:∀{xs ys:List AV},jh ys=true->yu [] (pq hp xs) ys->∃qs,bn true hp xs ys=some qs/\ap qs
 |[],[],_,_=>⟨[],rfl,trivial⟩|x::xs,y::ys,hn,⟨ps,h,hp⟩=>by
  simp[jh,qA]at hn;simp[pq,AV.rens,bn]at h;split at h
  ·rename_i p1 h1;split at h
   ·rename_i p2 h2;have:=qJ h;subst this;obtain⟨q1,e1,a1⟩:=z1y hn.1 ⟨_,h1,(dt.1 hp).1⟩;obtain⟨q2,e2,a2⟩:=qpm hn.2 ⟨_,h2,(dt.1 hp).2⟩;exact⟨q1++q2,by simp[bn,e1,e2],dt.2 ⟨a1,a2⟩⟩
   ·cases h
  ·cases h
 |[],_::_,_,⟨_,h,_⟩=>by simp[pq,AV.rens,bn]at h|_::_,[],_,⟨_,h,_⟩=>by simp[pq,AV.rens,bn]at h
end
def Ty.noRef:Ty->Bool|.list _=>false|.tree _=>false|.prod a b=>a.noRef&&b.noRef|_=>true
def ziy:∀{xs ys:List AV},ia xs=true->ia ys=true->ia (xs++ys)=true
 |[],_,_,h=>h|x::xs,ys,h,k=>by
  simp[ia,qA,wK]at h ⊢;exact⟨h.1,ziy h.2 k⟩
def q17:∀{τ:Ty},τ.noRef=true->∀{d:τ.den},ia (τ.enc d)=true
 |.int _,_,_=>rfl|.byte,_,_=>rfl|.bool,_,_=>rfl|.str,_,_=>rfl|.unit,_,_=>rfl|.prod a b,h,_=>by
  simp[Ty.noRef,qA]at h;exact ziy (q17 h.1) (q17 h.2)
def qo2:List (Nat×bc)->Bool|[]=>true|(_,.row τ _)::r=>τ.noRef&&qo2 r|_::_=>false
def zkj:∀{l:List (Nat×bc)},qo2 l=true->∀{d:f7 l},ap (kw (bj l d))
 |[],_,_=>trivial|(n,.row τ E)::r,h,d=>by
  simp[qo2,qA]at h;exact⟨fun x _=>q17 h.1,zkj h.2 (d:=d.2)⟩
 |(_,.cells _ _)::_,h,_=>by cases h
 |(_,.loop _ _ _ _ _ _ _ _)::_,h,_=>by cases h
 |(_,.dfr)::_,h,_=>by cases h
 |(_,.it)::_,h,_=>by cases h
 |(_,.dat _ _)::_,h,_=>by cases h
 |(_,.dead)::_,h,_=>by cases h
mutual
def zjn:Pt->Bool|.h τ=>τ.noRef|.agg ps=>qoq ps|.tup ps=>qoq ps|.fn _ ps=>qoq ps|_=>true
def qoq:List Pt->Bool|[]=>true|p::ps=>zjn p&&qoq ps
end
def RS.rows:{α:Type}->RS α->Bool|_,.one p hp _ _ _=>zjn p&&qo2 hp|_,.two l r=>l.rows&&r.rows
def RS.rows_ok:∀{α:Type}{r:RS α},r.rows=true->∀{x:α},ap (kw (r.res x).2)
 |_,.one _ hp _ _ _,h,_=>zkj (l:=hp) (by simp[RS.rows,qA]at h;exact h.2)|_,.two l r,h,.inl a=>by
  simp[RS.rows,qA]at h;exact RS.rows_ok (r:=l) h.1 (x:=a)
 |_,.two l r,h,.inr b=>by
  simp[RS.rows,qA]at h;exact RS.rows_ok (r:=r) h.2 (x:=b)
def qof(s:St)(τ:Ty):AV->Option (List τ.den)
 |.sl τ' l=>match Ty.eq? τ' τ with|some ⟨h⟩=>some (h▸l)|none=>none
 |.str b=>match Ty.eq? .byte τ with|some ⟨h⟩=>some (h▸(b:List Ty.byte.den))|none=>none
 |.own k=>match af s.hp k with
  |some (.row τ' l _)=>match Ty.eq? τ' τ with|some ⟨h⟩=>some (h▸l)|none=>none
  |_=>none
 |.asl b _ _=>match af s.hp b with|some (.cells cs _)=>qcl τ cs|_=>none
 |.val (.slice none 0 0)=>some []|_=>none
def zia{s:St}{τ:Ty}{v:AV}{l:List τ.den}(h:qof s τ v=some l){flat:List AV}{n:Nat}(hs:fw s v=some (flat,n)):flat=l.flatMap τ.enc/\n=l.length:=by
 unfold qof at h;split at h
 ·split at h
  ·rename_i hh _;subst hh;have h:=qJ h;subst h;simp[fw,qI,qP]at hs;obtain⟨rfl,rfl⟩:=hs;exact⟨rfl,rfl⟩
  ·cases h
 ·split at h
  ·rename_i hh _;subst hh;have h:=qJ h;subst h;simp[fw,qI,qP]at hs;obtain⟨rfl,rfl⟩:=hs;exact⟨(qhm _).symm,rfl⟩
  ·cases h
 ·split at h
  ·rename_i hl;split at h
   ·rename_i hh _;subst hh;have h:=qJ h;subst h;simp[fw,hl,qI,qP]at hs;obtain⟨rfl,rfl⟩:=hs;exact⟨rfl,rfl⟩
   ·cases h
  ·cases h
 ·rename_i b m c;split at h
  ·rename_i cs T hl;simp[fw,hl]at hs;cases hq:Nat.beq m c&&Nat.beq cs.length m&&allData (cs.map AV.sym)<;>rw[hq]at hs<;>simp at hs
   obtain⟨rfl,rfl⟩:=hs;simp at hq;have e1:=q0k h;have e2:cs.length=l.length:=by have:=congrArg List.length e1;simpa using this
   refine⟨?_,oA⟩
   rw[e1];have hd:∀x∈l.map τ.av,tv x=true:=by
    intro x hx;rw[← e1]at hx;have:∀{xs:List AV},allData xs=true->∀x∈xs,tv x=true:=by
     intro xs
     induction xs with
     |nil=>intro _ x hx;cases hx
     |cons y ys ih=>
      intro hy x hx;simp[allData,qA]at hy;rcases List.mem_cons.1 hx with q|q
      ·rw[q];exact hy.1
      ·exact ih hy.2 x q
    exact this hq.2 x hx
   clear e1 e2 hq h
   induction l with
   |nil=>rfl|cons y l ih=>
    rw[List.map_cons,List.flatMap_cons,ih (fun x hx=>hd x (by rw[List.map_cons];exact qE _ hx))]
    have hy:=hd (τ.av y) (by rw[List.map_cons];exact qH)
    have:τ.enc y=[τ.av y]:=by cases τ<;>first|rfl|(simp[Ty.av,tv]at hy)
    rw[this];rfl
  ·cases h
 ·have h:=qJ h;subst h;simp[fw,qI,qP]at hs;obtain⟨rfl,rfl⟩:=hs;exact⟨rfl,rfl⟩
 ·cases h
def qng(τ:Ty):Nat->List AV->Option (List τ.den)
 |0,[]=>some []|n+1,cs=>match τ.dec cs with
  |some (d,r)=>match qng τ n r with|some ds=>some (d::ds)|none=>none
  |none=>none
 |_,_=>none
def zf8{τ:Ty}:∀{n:Nat}{cs:List AV}{l:List τ.den},qng τ n cs=some l->f5 cs (l.flatMap τ.enc)/\l.length=n
 |0,[],l,h=>by have h:=qJ h;subst h;exact⟨⟨fun _=>rfl,[],rfl,trivial⟩,rfl⟩
 |0,_::_,l,h=>by cases h
 |n+1,cs,l,h=>by
  simp[qng]at h;split at h
  ·rename_i d r hd;split at h
   ·rename_i ds hds;have h:=qJ h;subst h;obtain⟨ab,rfl,hs⟩:=tj hd;obtain⟨h1,h2⟩:=zf8 hds;exact⟨hs.append h1,by simp[h2]⟩
   ·cases h
  ·cases h
structure Tb:Type 1 where
 ents:List cm
 ety:List (Nat×Ty)
 sub:Bool
def qic:NM->Bool|[]=>true|_=>false
def q12:List (Nat×bc)->Bool|[]=>true|_=>false
def rf(f:FuncId):ov->Bool|.fn f'=>Nat.beq f' f|_=>false
def qm1(s:St)(f:FuncId)(xs:List AV)(e:cm):Option Rq:=
 bif rf f e.key&&q12 e.hp&&(!(qz xs)||e.out.rows) then
  match Pts.get e.args (pq s.hp xs) [] with
  |some (d,nm)=>match qv s.hp e.hp nm with
   |some (d',nm')=>bif qic nm' then some (.bnd (e.F d d') (e.out.sp fun r hp' => .res (qz xs) (Pts.put e.args d) r hp')) else none
   |none=>none
  |none=>none
 else none
def order(nm:NM):List (Nat×bc)->NM
 |[]=>[]|(n,_)::r=>match az nm n with|some m=>(n,m)::order nm r|none=>order nm r
def qh6(s:St)(ys:List AV)(nm0:NM)(e:cm):Option Rq:=
 match Pts.get e.args ys nm0 with
 |some (d,nm)=>match qv s.hp e.hp nm with
  |some (d',nm')=>bif dr (order nm' e.hp)&&s9 nm' e.hp then
    some (.bnd (e.F d d') (e.out.sp fun r hp' => .mem (order nm' e.hp) (Pts.put e.args d) (bj e.hp d') r hp')) else none
  |none=>none
 |none=>none
def qg7(s:St)(f:FuncId)(ys:List AV)(e:cm):Option Rq:=bif rf f e.key then qh6 s ys [] e else none
def zpv(s:St)(m:Nat)(ys:List AV)(e:cm):Option Rq:=match e.key with|.yld m'=>qh6 s ys [(m',m)] e|_=>none
def vp(g:cm->Option Rq):List cm->Option Rq
 |[]=>none|e::es=>match g e with|some q=>some q|none=>vp g es
def qg1(P:Program)(tb:Tb)(s:St)(t:TypeId)(x y:AV):Option Rq:=
 match x with
 |.own k=>match af s.hp k with
  |some (.row τ l E)=>match qof s τ y with|some m=>some (.ifb (decide ((l++m).length<=ao)) (.row (.row τ (l++m) E)))|none=>none
  |_=>none
 |_=>match P.underlying t with
  |some (.slice E)=>match af tb.ety E with
   |some τ=>match qof s τ y with|some m=>some (.ifb (decide (m.length<=ao)) (.row (.row τ m E)))|none=>none
   |none=>none
  |_=>none
def zk1(P:Program)(tb:Tb)(s:St)(t:TypeId)(len:Nat)(parts:List (Nat×Operand)):Option Rq:=
 match P.underlying t with
 |some (.slice E)=>match af tb.ety E,ee P E,o5 s parts with
  |none,_,_=>some (.tot (.b true))|some τ,some sz,some ps=>match s7 (fun i=>some (i*sz,sz)) (qiu (len*sz)) ps with
   |some cs=>match qng τ len cs with|some l=>some (.tot (.row (.row τ l E)))|none=>none
   |none=>none
  |_,_,_=>none
 |_=>none
def zlb(s:St)(k i off:Nat)(v:AV):Option Rq:=match af s.hp k with
 |some (.row τ l E)=>bif Nat.ble (off+v.cells.length) τ.sz then
   some (.bnd l[i]? (.one fun x=>match τ.dec (fq (τ.enc x) off v.cells) with
    |some (y,[]) => .put (((τ.enc y).drop off).take v.cells.length) (.row τ (l.set i y) E)| _ => .none))
  else none
 |_=>none
def o6(P:Program)(tb:Tb)(s:St)(op:Op):Option Rq:=
 match op with
 |.alloc _=>some (.tot .none)|.box _ _=>some (.tot .none)|.buildSlice t len parts=>zk1 P tb s t len parts.toList|.convert _ _ x=>match s.ev x with|some (.str b)=>some (.ifb (decide (b.length<=maxLen)) .none)|_=>none
 |.store _ x y=>match s.ev x with
  |some (.ptr _ _)=>some (.tot .none)|some (.oel k _ i off)=>match s.ev y with|some v=>zlb s k i off v|none=>none
  |_=>none
 |.call { callee := .builtin .append,args,argTypes }=>match args.toList,argTypes.toList with
  |[x,y],[t,_]=>match s.ev x,s.ev y with|some a,some b=>qg1 P tb s t a b|_,_=>none
  |_,_=>none
 |.call { callee := .value g,args,argTypes:=_ }=>match s.ev g,s.evs args.toList with
  |some (.fn (.func f) [] cap),some xs=>match vp (qm1 s f (xs++cap)) tb.ents with|some q=>some q|none=>vp (qg7 s f (xs++cap)) tb.ents
  |some (.yld m),some ys=>vp (zpv s m ys) tb.ents|_,_=>none
 |_=>none
def tz(P:Program):Op->Bool
 |.alloc _=>false|.box _ _=>false|.buildSlice _ _ _=>false|.store _ _ _=>false|.convert _ dst _=>match P.underlying dst with|some (.slice _)=>false|_=>true
 |.call { callee := .builtin .append,args:=_,argTypes:=_ }=>false|.call { callee := .value _,args:=_,argTypes:=_ }=>false|_=>true
def tc(P:Program)(tb:Tb)(s:St)(op:Op):Option Rq:=bif tz P op then o7 P s op else o6 P tb s op
mutual
def zwx{hp:List (Nat×ag)}:∀{x:AV},zg3 x=false->qcx hp x=x
 |.agg xs,h=>by simp[qcx];rw[q1m (xs:=xs) h]|.own k,h=>by cases h
 |.undef,_=>rfl|.int _ _,_=>rfl|.byte _,_=>rfl|.bool _,_=>rfl|.str _,_=>rfl|.sl _ _,_=>rfl|.arr _ _,_=>rfl|.rop _,_=>rfl|.val _,_=>rfl|.tup _,_=>rfl|.ptr _ _,_=>rfl|.oel _ _ _ _,_=>rfl|.osl _ _ _,_=>rfl|.asl _ _ _,_=>rfl|.yld _,_=>rfl|.pn _,_=>rfl|.fn _ _ _,_=>rfl|.iface _ _,_=>rfl
def q1m{hp:List (Nat×ag)}:∀{xs:List AV},qz xs=false->pq hp xs=xs
 |[],_=>rfl|x::xs,h=>by
  simp[qz,Bool.or_eq_false_iff]at h;simp[pq,q1m h.2,zwx h.1]
end
def zis{nm:NM}(h:qic nm=true):nm=[]:=by cases nm with|nil=>rfl|cons _ _=>cases h
def zs7:∀{l:List (Nat×bc)}{d:f7 l},q12 l=true->bj l d=[]|[],_,_=>rfl|_::_,_,h=>by cases h
def q1j{f:FuncId}{k:ov}(h:rf f k=true):k = .fn f:=by
 cases k with
 |fn f'=>rw[qN (show Nat.beq f' f=true from h)]|yld _=>cases h
 |ext _=>cases h
 |thr _ _=>cases h
def vq{g:cm->Option Rq}:∀{es:List cm}{q:Rq},vp g es=some q->∃e∈es,g e=some q
 |[],_,h=>by cases h
 |e::es,q,h=>by
  simp[vp]at h;split at h
  ·rename_i q' hq;have h:=qJ h;subst h;exact⟨e,qH,hq⟩
  ·obtain⟨e',h1,h2⟩:=vq h;exact⟨e',qE _ h1,h2⟩
def zfp{P:Program}{s:St}{f:FuncId}{xs:List AV}{e:cm}{q:Rq}{d:D}(he:e.Sound P)(h:qm1 s f xs e=some q)(ho:q.Out d) :
  ∃b ys r hp' ps,d = .res b ys r hp'/\bn b s.hp xs ys=some ps/\ap ps/\Plain P f/\ce P f ys [] r hp'/\(b=true->ap (kw hp')):=by
 unfold qm1 at h;cases hk:rf f e.key&&q12 e.hp&&(!(qz xs)||e.out.rows)<;>rw[hk]at h<;>simp at h
 simp at hk;obtain⟨⟨hk1,hk2⟩,hk3⟩:=hk;split at h
 ·rename_i x nm hg;split at h
  ·rename_i x' nm' hg';cases hn:qic nm'<;>rw[hn]at h<;>simp at h
   subst h;have hn:=zis hn;subst hn;obtain⟨y,hy,hd⟩:=ho;have hd:=RS.sp_out hd;have hs:=he x x' y hy;rw[q1j hk1]at hs;simp only at hs;rw[zs7 hk2]at hs;have hseen:=(Pts.get_seen hg).2 [] rfl (fun n m hh=>by have:=(yy hg').1 n m hh;cases this)
   have key:∃ps,bn (qz xs) s.hp xs (Pts.put e.args x)=some ps/\ap ps:=by
    cases hb:qz xs
    ·rw[q1m hb]at hseen;obtain⟨ps,h1,h2⟩:=hseen;exact qdg zk h1 h2
    ·exact qpm zk hseen
   obtain⟨ps,k1,k2⟩:=key;refine⟨qz xs,Pts.put e.args x,_,_,ps,hd,k1,k2,hs.1,hs.2,fun hb => ?_⟩
   rw[hb]at hk3;exact RS.rows_ok (by simpa using hk3)
  ·cases h
 ·cases h
def q2e{nm:NM}:∀{l:List (Nat×bc)}{n m:Nat},az nm n=some m->(∃e∈l,e.1=n)->az (order nm l) n=some m
 |[],n,m,_,⟨e,he,_⟩=>by cases he
 |(k,p)::r,n,m,h,⟨e,he,hn⟩=>by
  simp[order];cases hq:Nat.beq k n
  ·have hr:∃e∈r,e.1=n:=by
    rcases List.mem_cons.1 he with rfl|he
    ·simp only at hn;subst hn;simp at hq
    ·exact⟨e,he,hn⟩
   split
   ·simp[az,hq,qF];exact q2e h hr
   ·exact q2e h hr
  ·have:=qN hq;subst this;rw[h];simp[az]
def ze9{hp:List (Nat×ag)}{N M:NM}(hN:dr N=true):∀{l:List (Nat×bc)}{nm nm':NM}{d:f7 l},qv hp l nm=some (d,nm')->cz nm' M->cz nm' N->∀{hpv:List (Nat×ag)}{ps:List Prop},
  gv (ar N) hp (order M l)=some hpv->ix hpv (bj l d)=some ps->ap ps
 |[],nm,nm',d,h,_,_,hpv,ps,hv,hw=>by
  simp[order,gv,qI]at hv;subst hv;have:=qJ (show some []=some ps from hw);subst this;trivial
 |(j,p)::r,nm,nm',d,h,hM,hS,hpv,ps,hv,hw=>by
  have h:(match az nm j with
   |some old=>match af hp old with
    |some b=>match p.get b nm with
     |some (d,nm')=>match qv hp r nm' with|some (ds,nm'')=>some ((d,ds),nm'')|none=>none
     |none=>none
    |none=>none
   | none=>none)=some (d,nm'):=h
  split at h
  ·rename_i old ho;split at h
   ·rename_i b hb;split at h
    ·rename_i d1 nm1 h1;split at h
     ·rename_i d2 nm2 h2;simp at h;obtain⟨rfl,rfl⟩:=h;obtain⟨a1,a2⟩:=bc.get_seen h1;obtain⟨b1,_⟩:=yy h2;have hj:az M j=some old:=hM _ _ (b1 _ _ (a1 _ _ ho));simp[order,hj,gv,hb]at hv;split at hv
      ·rename_i b' l' e1 e2;simp at e1 hv;subst e1 hv;have hw:(bif Nat.beq j j then(match xc (dx (ar N) b) (p.put d1),ix l' (bj r d2) with
        |some ps,some qs=>some (ps++qs)| _,_=>none) else none)=some ps:=hw
       rw[show Nat.beq j j=true by simp]at hw
       simp at hw;split at hw
       ·rename_i p1 p2 w1 w2;have:=qJ hw;subst this;obtain⟨p1',s1,s2⟩:=a2 N hN (b1.trans hS);rw[w1]at s1;have:=qJ s1;subst this;exact dt.2 ⟨s2,ze9 hN h2 hM hS e2 w2⟩
       ·cases hw
      ·cases hv
     ·cases h
    ·cases h
   ·cases h
  ·cases h
def qh7{s:St}{ys:List AV}{nm0:NM}{e:cm}{q:Rq}{d:D}(h:qh6 s ys nm0 e=some q)(ho:q.Out d) :
  ∃N x x' y,e.F x x'=some y/\d = .mem N (Pts.put e.args x) (bj e.hp x') (e.out.res y).1 (e.out.res y).2/\dr N=true/\cz nm0 N /\
   (∀ps,bn false [] (AV.rens (ar N) ys) (Pts.put e.args x)=some ps->ap ps)/\∀hpv ps,gv (ar N) s.hp N=some hpv->ix hpv (bj e.hp x')=some ps->ap ps:=by
 unfold qh6 at h;split at h
 ·rename_i x nm hg;split at h
  ·rename_i x' nm' hg';cases hk:dr (order nm' e.hp)&&s9 nm' e.hp<;>rw[hk]at h<;>simp at h
   subst h;simp at hk;obtain⟨y,hy,hd⟩:=ho;have hsub:cz nm' (order nm' e.hp):=fun n m hh=>q2e hh (qy9 hk.2 n m hh)
   obtain⟨g1,g2⟩:=Pts.get_seen hg;obtain⟨g1',_⟩:=yy hg';refine⟨order nm' e.hp,x,x',y,hy,RS.sp_out hd,hk.1,g1.trans (g1'.trans hsub),fun ps hv => ?_,fun hpv ps hv hw=>ze9 hk.1 hg' (cz.refl _) hsub hv hw⟩
   obtain⟨ps',h1,h2⟩:=g2 _ hk.1 (g1'.trans hsub);rw[hv]at h1;have:=qJ h1;subst this;exact h2
  ·cases h
 ·cases h
def zif{s s':St}{q:Prop}{ys xs:List AV}{names:List (Nat×Nat)}{hp hp':List (Nat×ag)}{r:AV}{t:Nat}{ps:List Prop}(h:py s q ys names xs hp r hp' t=some (ps,s'))(hq:q)
  (h1:∀ps,bn false [] (AV.rens (ar names) ys) xs=some ps->ap ps) (h2:∀hpv ps,gv (ar names) s.hp names=some hpv->ix hpv hp=some ps->ap ps):ap ps:=by
 unfold py at h;cases hb:dr names&&nz names&&a7 (s.nx+32*t) s.hp&&Nat.blt t s.n<;>rw[hb]at h<;>simp at h
 split at h
 ·rename_i hpv ps1 e1 e2;split at h
  ·rename_i ps2 e3;simp at h;obtain⟨rfl,_⟩:=h;exact⟨hq,dt.2 ⟨h1 _ e2,h2 _ _ e1 e3⟩⟩
  ·cases h
 ·cases h
def zhm{P:Program}{s:St}{d:D}{op:Op}(h:tz P op=false):dh P s d op=none:=by
 unfold tz at h;split at h<;>first
  |rfl
  |cases h
  | (split at h
     ·rename_i src dst x _ E hE;simp[dh,hE];have hc:∀v,qr P dst v=none:=fun v=>by
       unfold qr;rw[hE]
      have hc':∀v,va P dst v=none:=fun v=>by
       unfold va;split
       ·rw[hc]
       ·rw[hc]
      cases P.underlying src<;>cases s.ev x<;>simp[hc']
     ·cases h)
def zhl{P:Program}{s:St}{d:D}{o:Oper}(h:tz P o.op=true):ip P s d o=none:=by
 obtain⟨dst,op,ty,pos,after,guard⟩:=o;simp only at h
 cases hA:ip P s d ⟨dst,op,ty,pos,after,guard⟩ with
 |none=>rfl|some R=>
  exfalso;unfold ip at hA;split at hA
  ·rename_i e _;simp only at e;subst e;cases h
  ·rename_i e _;simp only at e;subst e;cases h
  ·rename_i e _;simp only at e;subst e;cases h
  ·rename_i e _;simp only at e;subst e;cases h
  ·rename_i e _;simp only at e;subst e;cases h
  ·rename_i e _;simp only at e;subst e;split at hA
   ·rename_i e2 _;simp only[tz,e2]at h;cases h
   ·cases hA
  ·cases hA
def zwg{P:Program}{s:St}{d:D}{o:Oper}(h:tz P o.op=true):oz P s d o=none:=by
 obtain⟨dst,op,ty,pos,after,guard⟩:=o;simp only at h
 cases hA:oz P s d ⟨dst,op,ty,pos,after,guard⟩ with
 |none=>rfl|some R=>
  exfalso;unfold oz at hA;split at hA
  ·rename_i e;simp only at e;subst e;cases h
  ·rename_i e;simp only at e;subst e;cases h
  ·rename_i e;simp only at e;subst e;cases h
  ·cases hA
def zr4{P:Program}{tb:Tb}{s:St}{t t2:TypeId}{y:AV}{q:Rq}{d:D}{ps:List Prop}{b:ag}(h:qg1 P tb s t (.val (.slice none 0 0)) y=some q)(ho:q.Out d)(ha:nt P s d t t2 [] 0 y=some (ps,b)):ap ps:=by
 unfold qg1 at h;simp only at h;unfold nt at ha;split at h
 ·rename_i E hE;split at h
  ·rename_i τ hτ;split at h
   ·rename_i m hm;have h:=qJ h;subst h;obtain⟨h1,rfl⟩:=ho;simp only[hE]at ha;split at ha
    ·rename_i sz flat n e1 e2;obtain⟨k1,k2⟩:=zia hm e2;cases hq:Nat.beq τ.sz sz&&Nat.beq E E&&mb P E&&zm P t2<;>rw[hq]at ha<;>simp only[qT,qF,reduceCtorEq,qI,qP]at ha
     obtain⟨rfl,_⟩:=ha;exact⟨by rw[k1];rfl,oA,of_decide_eq_true h1,trivial⟩
    ·cases ha
   ·cases h
  ·cases h
 ·cases h
def zr5{P:Program}{tb:Tb}{s:St}{t t2:TypeId}{k:Nat}{τ0:Ty}{l0:List τ0.den}{E0:TypeId}{y:AV}{q:Rq}{d:D}{ps:List Prop}{b:ag}(hk:af s.hp k=some (.row τ0 l0 E0))(h:qg1 P tb s t (.own k) y=some q)(ho:q.Out d)(ha:nt P s d t t2 (l0.flatMap τ0.enc) l0.length y=some (ps,b)):ap ps:=by
 unfold qg1 at h;simp only[hk]at h;unfold nt at ha;split at h
 ·rename_i m hm;have h:=qJ h;subst h;obtain⟨h1,rfl⟩:=ho;split at ha
  ·rename_i E _ _ _ e0 ed;simp only[D.row.injEq,ag.row.injEq]at ed;obtain⟨rfl,ed,rfl⟩:=ed;have ed:=eq_of_heq ed;subst ed;split at ha
   ·rename_i sz flat n e1 e2;obtain⟨k1,k2⟩:=zia hm e2;cases hq:Nat.beq τ0.sz sz&&Nat.beq E E0&&mb P E&&zm P t2<;>rw[hq]at ha<;>simp only[qT,qF,reduceCtorEq,qI,qP]at ha
    obtain⟨rfl,_⟩:=ha;exact⟨by rw[k1,List.flatMap_append],by rw[k2,qM],of_decide_eq_true h1,trivial⟩
   ·cases ha
  ·cases ha
 ·cases h
def zeq{P:Program}{tb:Tb}{s:St}{o:Oper}{q:Rq}{d:D}{ps:List Prop}{v:AV}{new:List (Nat×ag)}(hT:∀e∈tb.ents,e.Sound P)(hv:tz P o.op=false)(h:o6 P tb s o.op=some q)(ho:q.Out d)(ha:ip P s d o=some (ps,v,new)):ap ps:=by
 obtain⟨dst,op,ty,pos,after,guard⟩:=o;simp only at h hv;have cnd:∀{b:Bool}{x:AV}{y:List (Nat×ag)}{ps0 ps:List Prop}{v:AV}{new:List (Nat×ag)},(bif b then some (ps0,x,y) else none)=some (ps,v,new)->ap ps0->ap ps:=fun{b} _ _ _ _ _ _ e k=>by
  cases b
  ·cases e
  ·simp at e;obtain⟨rfl,_⟩:=e;exact k
 unfold ip at ha;split at ha
 ·split at ha
  ·exact cnd ha trivial
  ·cases ha
 ·split at ha
  ·exact cnd ha trivial
  ·cases ha
 ·rename_i g args ats t e _;simp only at e;subst e;split at ha
  ·rename_i f cap xs b xs' r hp' e1 e2;split at ha
   ·rename_i ps1 hps;refine cnd ha ?_;simp[o6,e1,e2]at h;have key:∀e∈tb.ents,qm1 s f (xs++cap) e=some q->ap (Plain P f::ce P f xs' [] r hp'::(ps1++(bif b then kw hp' else[]))):=fun e he hc=>by
     obtain⟨b1,ys,r1,hp1,ps2,k1,k2,k3,k4,k5,k6⟩:=zfp (hT e he) hc ho;simp at k1;obtain⟨rfl,rfl,rfl,rfl⟩:=k1;rw[hps]at k2;have:=qJ k2;subst this;refine⟨k4,k5,dt.2 ⟨k3,?_⟩⟩;cases b
     ·trivial
     ·exact k6 rfl
    split at h
    ·rename_i q' hq;have h:=qJ h;subst h;obtain⟨e,he,hc⟩:=vq hq;exact key e he hc
    ·exfalso;obtain⟨e,he,hc⟩:=vq h;unfold qg7 at hc;cases hk:rf f e.key<;>rw[hk]at hc<;>simp at hc
     obtain⟨N,x,x',y,_,k2,_⟩:=qh7 hc ho;cases k2
   ·cases ha
  ·cases ha
 ·rename_i args ats tt e _;simp only at e;subst e;split at ha
  ·rename_i x y t t2 e1 e2;split at ha
   ·rename_i v' e3 e4;split at ha
    ·rename_i ps1 b e5;refine cnd ha ?_;simp[o6,e1,e2,e3,e4]at h;exact zr4 h ho e5
    ·cases ha
   ·cases ha
  ·cases ha
 ·rename_i t len parts tt e _;simp only at e;subst e;split at ha
  ·rename_i ps1 b e1;refine cnd ha ?_;simp[o6]at h;unfold zk1 at h;unfold uz at e1;split at h
   ·rename_i E hE;split at h
    ·have h:=qJ h;subst h;have ho:d=_:=ho;subst ho;simp[hE]at e1
    ·rename_i τ sz ps2 i1 i2 i3;split at h
     ·rename_i cs hcs;split at h
      ·rename_i l hl;have h:=qJ h;subst h;have ho:d=_:=ho;subst ho;simp only[hE,i2,i3,hcs]at e1;cases hq:Nat.beq τ.sz sz&&Nat.beq E E&&mb P E&&Nat.ble (len*τ.sz) 16777216&&AV.ones cs<;>rw[hq]at e1<;>simp at e1
       obtain⟨⟨j1,ps3,j2,j3⟩,j4⟩:=zf8 hl;rw[j2]at e1;simp at e1;obtain⟨rfl,_⟩:=e1;exact dt.2 ⟨j3,j4,j1 _,trivial⟩
      ·cases h
     ·cases h
    ·cases h
   ·cases h
  ·split at ha
   ·exact cnd ha trivial
   ·cases ha
 ·rename_i src dst x tt e _;simp only at e;subst e;split at ha
  ·rename_i E b e1 e2 e3;split at ha
   ·refine cnd ha ?_;simp[o6,e3,qI]at h;subst h;exact⟨of_decide_eq_true ho.1,trivial⟩
   ·cases ha
  ·cases ha
 ·cases ha
def q3c:∀(ys a b:List AV)(k:Nat),fq (a++b) (a.length+k) ys=a++fq b k ys
 |[],_,_,_=>rfl|y::ys,a,b,k=>by
  simp only[fq];rw[List.set_append_right _ _ oA,Nat.add_sub_cancel_left,Nat.add_assoc]
  exact q3c ys a (b.set k y) (k+1)
def zk6:∀(ys a b:List AV)(k:Nat),k+ys.length<=a.length->fq (a++b) k ys=fq a k ys++b
 |[],_,_,_,_=>rfl|y::ys,a,b,k,h=>by
  simp at h;simp[fq];rw[List.set_append_left _ _ oA]
  exact zk6 ys (a.set k y) b (k+1) (by rw[List.length_set];omega)
def qc6:∀(ys a:List AV)(k j:Nat),k+ys.length<=a.length->(fq a k ys)[j]? = if k<=j/\j<k+ys.length then ys[j-k]? else a[j]?
 |[],a,k,j,_=>by simp only[fq,qZ];rw[qW]|y::ys,a,k,j,h=>by
  simp at h;simp only[fq];rw[qc6 ys (a.set k y) (k+1) j (by rw[List.length_set];omega)]
  simp only[qL];by_cases h1:k+1<=j/\j<k+1+ys.length
  ·rw[qX h1,qX,show j-k=(j-(k+1))+1 by omega];simp
  ·rw[qW h1];by_cases h2:j=k
   ·subst h2;rw[qX];simp[show j<a.length by omega]
   ·rw[qW,List.getElem?_set_ne oA]
def zk7{τ:Ty}{y:τ.den}{ys:List AV}{off:Nat}:∀{l:List τ.den}{i:Nat}{x:τ.den},l[i]? = some x->off+ys.length<=τ.sz->τ.enc y=fq (τ.enc x) off ys->(l.set i y).flatMap τ.enc=fq (l.flatMap τ.enc) (i*τ.sz+off) ys
 |[],_,_,h,_,_=>by simp at h|z::l,0,x,h,ho,he=>by
  simp at h;subst h;simp;rw[zk6 _ _ _ _ (by rw[τ.enc_length];exact ho),he]
 |z::l,i+1,x,h,ho,he=>by
  simp at h;simp;rw[show(i+1)*τ.sz+off=(τ.enc z).length+(i*τ.sz+off) by rw[τ.enc_length,Nat.succ_mul];omega,q3c,zk7 h ho he]
def q3y{b:Bool}{hp:List (Nat×ag)}:∀{xs ys:List AV}{ps:List Prop},bn b hp xs ys=some ps->ap ps->∀(j:Nat)(x y:AV),xs[j]? = some x->ys[j]? = some y->∃qs,vw b hp x y=some qs/\ap qs
 |x::xs,y::ys,ps,h,hp,j,u,v,hu,hv=>by
  simp[bn]at h;split at h
  ·rename_i p1 h1;split at h
   ·rename_i p2 h2;have:=qJ h;subst this
    cases j with|zero=>simp at hu hv;subst hu hv;exact⟨p1,h1,(dt.1 hp).1⟩|succ j=>exact q3y h2 (dt.1 hp).2 j u v (by simpa using hu) (by simpa using hv)
   ·cases h
  ·cases h
 |[],[],_,_,_,j,_,_,hu,_=>by simp at hu|[],_::_,_,h,_,_,_,_,_,_=>by simp[bn]at h|_::_,[],_,h,_,_,_,_,_,_=>by simp[bn]at h
def zl6{b:Bool}{hp:List (Nat×ag)}:∀{xs ys:List AV}{ps:List Prop},bn b hp xs ys=some ps->(∀(j:Nat)(x y:AV),xs[j]? = some x->ys[j]? = some y->∃qs,vw b hp x y=some qs/\ap qs)->ap ps
 |x::xs,y::ys,ps,h,hq=>by
  simp[bn]at h;split at h
  ·rename_i p1 h1;split at h
   ·rename_i p2 h2;have:=qJ h;subst this;obtain⟨q1,e1,a1⟩:=hq 0 x y rfl rfl;rw[h1]at e1;have:=qJ e1;subst this;exact dt.2 ⟨a1,zl6 h2 fun j u v hu hv=>hq (j+1) u v (by simpa using hu) (by simpa using hv)⟩
   ·cases h
  ·cases h
 |[],[],_,h,_=>by simp[bn,qI]at h;subst h;trivial|[],_::_,_,h,_=>by simp[bn]at h|_::_,[],_,h,_=>by simp[bn]at h
def qhe:∀{τ:Ty}{d:τ.den},∀x∈τ.enc d,tv x=true
 |.int _,_,x,h=>by simp[Ty.enc,List.mem_singleton]at h;subst h;rfl|.byte,_,x,h=>by simp[Ty.enc,List.mem_singleton]at h;subst h;rfl|.bool,_,x,h=>by simp[Ty.enc,List.mem_singleton]at h;subst h;rfl|.str,_,x,h=>by simp[Ty.enc,List.mem_singleton]at h;subst h;rfl|.unit,_,x,h=>by simp[Ty.enc]at h|.prod a b,d,x,h=>by
  rcases List.mem_append.1 h with h|h
  ·exact qhe x h
  ·exact qhe x h
 |.list _,_,x,h=>by simp[Ty.enc,List.mem_singleton]at h;subst h;rfl|.tree a,d,x,h=>by
  rcases List.mem_append.1 h with h|h
  ·exact qhe x h
  ·simp at h;subst h;rfl
def z1x{x y:AV}(hx:tv x=true)(hy:tv y=true){qs:List Prop}(h:vw false [] x y=some qs)(hq:ap qs):y=x:=by
 cases x<;>first|cases hx|skip
 all_goals (cases y<;>first|cases hy|skip)
 all_goals (have:=qJ h;subst this;exact hq.1)
def zjx{ρ:Nat->Option Nat}:∀{xs:List AV}{j:Nat},(AV.rens ρ xs)[j]? = (xs[j]?).map (AV.ren ρ)|[],j=>by simp[AV.rens]|x::xs,0=>by simp[AV.rens]|x::xs,j+1=>by simp[AV.rens,List.getElem?_cons_succ];exact zjx
def z0v{τ:Ty}{l:List τ.den}{i off:Nat}{x y:τ.den}{c:List AV}{ps:List Prop}(ho:off+c.length<=τ.sz)(hx:l[i]? = some x)(hd:τ.dec (fq (τ.enc x) off c)=some (y,[]))
  (hv:bn false [] c (((τ.enc y).drop off).take c.length)=some ps) :
  ap (ps++[i*τ.sz+off+c.length<=l.length*τ.sz,(l.set i y).flatMap τ.enc=fq (l.flatMap τ.enc) (i*τ.sz+off) (((τ.enc y).drop off).take c.length),(l.set i y).length=l.length,AV.rens (fun _=>none) c=c]):=by
 obtain⟨ab,e1,hr,qs,hq1,hq2⟩:=tj hd;simp at e1;subst e1;have hle:off+c.length<=(τ.enc x).length:=by rw[τ.enc_length];exact ho
 have ac:(((τ.enc y).drop off).take c.length).length=c.length:=by simp[τ.enc_length];omega
 have hseg:∀(j:Nat)(z u:AV),c[j]? = some z->(((τ.enc y).drop off).take c.length)[j]? = some u->∃qs,vw false [] z u=some qs/\ap qs:=fun j z u h1 h2=>by
  have hj:j<c.length:=(List.getElem?_eq_some_iff.1 h1).1;refine q3y hq1 hq2 (off+j) z u ?_ ?_
  ·rw[qc6 _ _ _ _ hle,qX,Nat.add_sub_cancel_left];exact h1
  ·rw[List.getElem?_take,qX hj,List.getElem?_drop]at h2;exact h2
 have he:τ.enc y=fq (τ.enc x) off (((τ.enc y).drop off).take c.length):=by
  apply List.ext_getElem?;intro j;rw[qc6 _ _ _ _ (by rw[ac];exact hle),ac]
  by_cases hj:off<=j/\j<off+c.length
  ·rw[qX hj,List.getElem?_take,qX,List.getElem?_drop,show off+(j-off)=j by omega]
  ·rw[qW hj]
   cases hz:(τ.enc x)[j]? with
   |none=>
    have:=List.getElem?_eq_none_iff.1 hz;rw[τ.enc_length]at this;exact List.getElem?_eq_none_iff.2 (by rw[τ.enc_length];exact this)
   |some z=>
    have hjl:j<τ.sz:=by have:=(List.getElem?_eq_some_iff.1 hz).1;rwa [τ.enc_length]at this
    have hu:∃u,(τ.enc y)[j]? = some u:=⟨_,List.getElem?_eq_getElem (by rw[τ.enc_length];exact hjl)⟩
    obtain⟨u,hu⟩:=hu;obtain⟨q,q1,q2⟩:=q3y hq1 hq2 j z u (by rw[qc6 _ _ _ _ hle,qW hj];exact hz) hu
    rw[hu,z1x (qhe z (List.mem_of_getElem? hz)) (qhe u (List.mem_of_getElem? hu)) q1 q2]
 refine dt.2 ⟨zl6 hv hseg,?_,zk7 hx (by rw[ac];exact ho) he,oC,?_,trivial⟩
 ·have hi:i<l.length:=(List.getElem?_eq_some_iff.1 hx).1;have:(i+1)*τ.sz<=l.length*τ.sz:=Nat.mul_le_mul_right _ hi;rw[Nat.succ_mul]at this;omega
 ·apply List.ext_getElem?;intro j;have h:=congrArg (fun l=>l[off+j]?) (hr (fun _=>none))
  simp[zjx]at h ⊢;by_cases hj:j<c.length
  ·rw[qc6 _ _ _ _ hle,qX,Nat.add_sub_cancel_left]at h;exact h
  ·rw[List.getElem?_eq_none_iff.2 oA];rfl
def zr6{P:Program}{tb:Tb}{s:St}{o:Oper}{q:Rq}{d:D}{ps:List Prop}{s':St}(hT:∀e∈tb.ents,e.Sound P)(h:o6 P tb s o.op=some q)(ho:q.Out d)(ha:oz P s d o=some (ps,s')):ap ps:=by
 obtain⟨dst,op,ty,pos,after,guard⟩:=o;simp only at h;have cnd:∀{b:Bool}{x:St}{ps:List Prop}{s':St},(bif b then some (([]:List Prop),x) else none)=some (ps,s')->ap ps:=fun{b} _ _ _ e=>by
  cases b
  ·cases e
  ·simp at e;obtain⟨rfl,_⟩:=e;trivial
 unfold oz at ha;split at ha
 ·rename_i t x y e;simp only at e;subst e;split at ha
  ·split at ha
   ·exact cnd ha
   ·cases ha
  ·rename_i k sz i off v n e1 e2 e3 _;split at ha
   ·rename_i τ0 l0 E0 ys τ l E e4;simp[o6,e1,e2,zlb,e4]at h;cases hbb:Nat.ble (off+v.cells.length) τ0.sz<;>rw[hbb]at h<;>simp at h
    subst h;obtain⟨x0,hx0,hd⟩:=ho;simp[Sp.Out]at hd;split at hd
    ·rename_i y0 hdec;simp at hd;obtain⟨rfl,rfl,hl,rfl⟩:=hd;have hl:=eq_of_heq hl;subst hl;cases hb:Nat.beq v.cells.length n&&AV.ones v.cells&&Nat.beq sz τ.sz&&Nat.beq τ.sz τ.sz&&Nat.beq E E<;>rw[hb]at ha<;>simp only[qT,qF,reduceCtorEq]at ha
     simp only[qA]at hb;obtain⟨⟨⟨⟨b1,_⟩,b3⟩,_⟩,_⟩:=hb;have b1:=qN b1;have b3:=qN b3;subst b1 b3;split at ha
     ·rename_i ps1 hvs;simp only[qI,qP]at ha;obtain⟨rfl,_⟩:=ha;exact z0v (Nat.le_of_ble_eq_true hbb) hx0 hdec hvs
     ·cases ha
    ·cases hd
   ·cases ha
  ·cases ha
 ·rename_i args ats e;simp only at e;subst e;split at ha
  ·rename_i x y t t2 tt e1 e2 _;split at ha
   ·rename_i k v e3 e4;split at ha
    ·rename_i τ0 l0 E0 e5;split at ha
     ·rename_i ps1 τ l E e6;simp[o6,e1,e2,e3,e4]at h;cases hb:a7 (s.nx+32*tt) s.hp&&Nat.beq τ.sz τ0.sz&&Nat.beq E E0&&Nat.blt tt s.n<;>rw[hb]at ha<;>simp at ha
      obtain⟨rfl,_⟩:=ha;exact zr5 e5 h ho e6
     ·cases ha
    ·cases ha
   ·cases ha
  ·cases ha
 ·rename_i g args ats e;simp only at e;subst e;split at ha
  ·rename_i f cap ys names xs hp r hp' t e1 e2 e3;simp[o6,e1,e2]at h;split at h
   ·rename_i q' hq;have h:=qJ h;subst h;obtain⟨e,he,hc⟩:=vq hq;obtain⟨b1,ys1,r1,hp1,ps2,k1,_⟩:=zfp (hT e he) hc ho;cases k1
   ·obtain⟨e,he,hc⟩:=vq h;unfold qg7 at hc;cases hk:rf f e.key<;>rw[hk]at hc<;>simp at hc
    obtain⟨N,x,x',y,k1,k2,k3,k4,k5,k6⟩:=qh7 hc ho;simp at k2;obtain⟨rfl,rfl,rfl,rfl,rfl⟩:=k2;have hs:=hT e he x x' y k1;rw[q1j hk]at hs;exact zif ha hs k5 k6
  ·rename_i m ys names xs hp r hp' t e1 e2 e3;simp[o6,e1,e2]at h;obtain⟨e,he,hc⟩:=vq h;unfold zpv at hc;split at hc
   ·rename_i m' hm';obtain⟨N,x,x',y,k1,k2,k3,k4,k5,k6⟩:=qh7 hc ho;simp at k2;obtain⟨rfl,rfl,rfl,rfl,rfl⟩:=k2;have hs:=hT e he x x' y k1;rw[hm']at hs;have hr:ar names m=some m':=uc k3 (k4 _ _ (by simp[az]))
    simp[hr]at ha;exact zif ha hs k5 k6
   ·cases hc
  ·cases ha
 ·cases ha
def zet{P:Program}{tb:Tb}{s:St}{o:Oper}{q:Rq}{d:D}{ps:List Prop}{s':St}(hT:∀e∈tb.ents,e.Sound P)(h:tc P tb s o.op=some q)(ho:q.Out d)(ha:oy P s d o=some (ps,s')):ap ps:=by
 unfold tc at h;unfold oy at ha;cases hv:tz P o.op<;>rw[hv]at h<;>simp at h
 ·split at ha
  ·rename_i ps' v new e;unfold fp at e;rw[zhm hv]at e;split at ha
   ·simp at ha;obtain⟨rfl,_⟩:=ha;exact zeq hT hv h ho e
   ·cases ha
  ·exact zr6 hT h ho ha
 ·split at ha
  ·rename_i ps' v new e;unfold fp at e;split at e
   ·rename_i ps1 v1 e1;simp at e;obtain⟨rfl,rfl,rfl⟩:=e;split at ha
    ·simp at ha;obtain⟨rfl,_⟩:=ha;exact zer h ho e1
    ·cases ha
   ·rw[zhl hv]at e;cases e
  ·rw[zwg hv]at ha;cases ha
def zes{P:Program}{tb:Tb}{s:St}{o:Oper}{q:Rq}{d:D}{ps:List Prop}{v:AV}{new:List (Nat×ag)}(hT:∀e∈tb.ents,e.Sound P)(h:tc P tb s o.op=some q)(ho:q.Out d)(ha:fp P s d o=some (ps,v,new)):ap ps:=by
 unfold tc at h;unfold fp at ha;cases hv:tz P o.op<;>rw[hv]at h<;>simp at h
 ·rw[zhm hv]at ha;exact zeq hT hv h ho ha
 ·split at ha
  ·rename_i ps1 v1 e1;simp at ha;obtain⟨rfl,rfl,rfl⟩:=ha;exact zer h ho e1
  ·rw[zhl hv]at ha;cases ha
def q3f(P:Program)(tb:Tb)(s:St)(o:Oper):Option (Bool×St):=
 bif tb.sub then
  match o.op with
  |.slice t x lo hi mx=>match s.ev x,o.dst,mx with
   |some (.own k),some tt,none=>match af s.hp k,P.underlying t with
    |some (.row τ l E),some (.slice E')=>match ee P E' with
     |some sz'=>bif Nat.beq τ.sz sz'&&Nat.blt tt s.n&&a7 (s.nx+32*tt) s.hp then
       (match ir s lo,ir s hi with
       |some (some a),some none=>some (decide (0<=a/\a.toNat<l.length),{ s with fr:=(tt,.osl k τ.sz a.toNat)::s.fr })|some none,some (some b)=>some (decide (0<=b/\b<=l.length),{ s with fr:=(tt,.own (s.nx+32*tt))::s.fr,hp:=(s.nx+32*tt,.row τ (l.take b.toNat) E)::(k,.dead)::s.hp })| _,_=>none)
      else none
     |none=>none
    |_,_=>none
   |_,_,_=>none
  |.call { callee := .builtin .clear,args,argTypes }=>match args.toList,argTypes.toList,o.dst with
   |[x],[t],none=>match s.ev x with
    |some (.osl k sz lo)=>match af s.hp k,P.underlying t with
     |some (.row τ l E),some (.slice E')=>match w7 P E' with
      |some zs=>match τ.dec zs with|some (z,[])=>bif Nat.beq sz τ.sz&&Nat.blt 0 τ.sz&&AV.ones zs then some (true,{ s with hp:=(k,.row τ (l.take lo++List.replicate (l.length-lo) z) E)::s.hp }) else none|_=>none
      |none=>none
     |_,_=>none
    |_=>none
   |_,_,_=>none
  |_=>none
 else none
section
variable{P:Program}{vhe:World}{vg8:Gh}{vhb:List (Nat×ag)}{G:Gh}{s:St}{a:Act}{w:World}{tb:Tb}
def z0n:∀(ys b:List AV),ys.length=b.length->fq b 0 ys=ys:=fun ys b h=>by
 apply List.ext_getElem?;intro j;rw[qc6 _ _ _ _ oA]
 by_cases hj:0<=j/\j<0+ys.length
 ·rw[qX hj];rfl
 ·rw[qW hj,List.getElem?_eq_none_iff.2 oA,List.getElem?_eq_none_iff.2 oA]
def zgs{τ:Ty}{z:τ.den}:∀(n:Nat),(List.replicate n z).flatMap τ.enc=(List.replicate n (τ.enc z)).flatten|0=>rfl|n+1=>by simp[List.replicate_succ,zgs n]
def zka{xs:List AV}{vs:List Value}(h:ak xs G vs):∀(n:Nat),ak (List.replicate n xs).flatten G (List.replicate n vs).flatten|0=>trivial|n+1=>by simp[List.replicate_succ,List.flatten_cons];exact ub h (zka h n)
def qny{β:Type}(l:List β):∀(n:Nat),(List.replicate n l).flatten.length=n*l.length|0=>by simp|n+1=>by rw[List.replicate_succ,List.flatten_cons,qM,qny l n,Nat.succ_mul,Nat.add_comm]
def zgr{β:Type}(l:List β):∀(n i:Nat),i<n*l.length->(List.replicate n l).flatten[i]? = l[i%l.length]?
 |0,i,h=>by simp at h|n+1,i,h=>by
  rw[List.replicate_succ,List.flatten_cons];by_cases hi:i<l.length
  ·rw[List.getElem?_append_left hi,Nat.mod_eq_of_lt hi]
  ·have hh:i<n*l.length+l.length:=by rw[← Nat.succ_mul];exact h
   rw[List.getElem?_append_right oA,zgr l n (i-l.length) oA,← Nat.mod_eq_sub_mod oA]
def vgy(cs:Array Value)(n:Nat):(Builtin.zeroCells cs n).toList=(List.replicate n cs.toList).flatten:=by
 apply List.ext_getElem?;intro i;by_cases hi:i<n*cs.size
 ·rw[zgr _ n i (by simpa using hi)]
  have h0:0<cs.size:=by
   rcases Nat.eq_zero_or_pos cs.size with h|h;· rw[h]at hi;simp at hi
   ·exact h
  simp[Builtin.zeroCells,hi,Nat.mod_lt _ h0]
 ·rw[List.getElem?_eq_none_iff.2 (by simp[Builtin.zeroCells];omega),List.getElem?_eq_none_iff.2 (by rw[qny];simp;omega)]
def z03(hr:ai vhe vg8 vhb G s a w){o:Oper}{s':St}(h:q3f P tb s o=some (true,s')){N:Act->World->Prop}(hN:∀G' a' w',ai vhe vg8 vhb G' s' a' w'->N a' w'):fj P o a w N:=by
 obtain⟨dst,op,ty,pos,after,guard⟩:=o;unfold q3f at h;cases hsub:tb.sub<;>rw[hsub]at h<;>simp only[qT,qF,reduceCtorEq]at h
 split at h
 ·rename_i t x lo hi mx;split at h
  ·rename_i k tt hx;split at h
   ·rename_i τ l E E' hl hu;split at h
    ·rename_i sz' hsz;cases hb:Nat.beq τ.sz sz'&&Nat.blt tt s.n&&a7 (s.nx+32*tt) s.hp<;>rw[hb]at h<;>simp only[qT,qF,reduceCtorEq]at h
     simp only[qA,Nat.blt_eq]at hb;obtain⟨⟨b1,b2⟩,b3⟩:=hb;have b1:=qN b1;subst b1;obtain⟨ad,c,us,h1,h3,h4,h5⟩:=(hr.fin.mem.holds _ _ hl).rowAt;obtain⟨ad0,n0,c0,ho0,hxe⟩:=bi hr hx;rw[h1]at ho0;simp only[qI,qP]at ho0;obtain⟨rfl,rfl,rfl⟩:=ho0;have hc:l.length<=c:=by
      rcases h3.2 with⟨_,q,_⟩|⟨_,_,_,_,_,_,q,_⟩<;>omega
     split at h
     ·rename_i i0 hlo hhi;simp only[qI,qP,decide_eq_true_eq]at h;obtain⟨⟨g0,g1⟩,rfl⟩:=h;rcases pi hr hlo with⟨_,e⟩|⟨xo,kx,mm,rfl,e,hxv⟩
      ·cases e
      injection e with e;subst e
      rcases pi hr hhi with⟨rfl,_⟩|⟨_,_,_,_,e,_⟩
      rotate_left
      ·cases e
      have r1:(Instr.sliceBounds true l.length c ((some xo).map a.eval) (Option.map a.eval none) none).run P w = .ok (i0.toNat,l.length,c) w:=by
       simp[Instr.sliceBounds,hxv,p9 (P:=P) (w:=w) g0 (show i0<=(l.length:Int) by omega)]
      have hne:l≠[]:=fun e=>by subst e;simp at g1
      rcases h3.2 with⟨_,q,_⟩|⟨g,vs,fz,rfl,k2,k3,k4,k5,k6,k7,k8⟩
      ·exact absurd (List.eq_nil_of_length_eq_zero q) hne
      ·have hrun:(execOp a.eval ⟨some tt,.slice t x (some xo) none none,ty,pos,after,guard⟩).run P w = .ok (.value (.slice (some ⟨g,i0.toNat*τ.sz,none⟩) (l.length-i0.toNat) (c-i0.toNat))) w:=by
        simp only[wQ,Option.map_none]at r1;simp[execOp,Instr.sliceAt,Instr.slice,bh hu,hxe,r1,gu hsz,show c≠i0.toNat by omega,lj]
       refine er oC ?_
       unfold Oper.wp;rw[hrun];exact hN _ _ _ (gm (v := .osl k τ.sz i0.toNat) hr (by have hb2:Nat.blt tt s.n=true:=(by simpa using b2);simp[St.add,hb2,qT,List.nil_append]) ⟨g,l.length,c,h1,g1,rfl⟩)
     ·rename_i i0 hlo hhi;simp at h;obtain⟨⟨g0,g1⟩,rfl⟩:=h;rcases pi hr hhi with⟨_,e⟩|⟨xo,kx,mm,rfl,e,hxv⟩
      ·cases e
      injection e with e;subst e
      rcases pi hr hlo with⟨rfl,_⟩|⟨_,_,_,_,e,_⟩
      rotate_left
      ·cases e
      have r1:(Instr.sliceBounds true l.length c (Option.map a.eval none) ((some xo).map a.eval) none).run P w = .ok (0,i0.toNat,c) w:=by
       simp[Instr.sliceBounds,hxv,p9 (P:=P) (w:=w) g0 (show i0<=(c:Int) by omega)]
      have hlt:(l.take i0.toNat).length=i0.toNat:=by simp;omega
      have hrun:(execOp a.eval ⟨some tt,.slice t x none (some xo) none,ty,pos,after,guard⟩).run P w = .ok (.value (.slice ad i0.toNat c)) w:=by
       simp at r1
       have had:(if c=0 then ad else ad.map (·.add (0*τ.sz)))=ad:=by
        split
        ·rfl
        ·rcases h3.2 with⟨rfl,_,_⟩|⟨g,vs,fz,rfl,_⟩
         ·rfl
         ·simp[lj]
       simp[execOp,Instr.sliceAt,wQ,Option.map_none];simp[Instr.slice,bh hu,hxe,r1,gu hsz];simpa using had
      refine er oC ?_
      unfold Oper.wp;rw[hrun];have hk':=ly b3 (s.nx+32*tt) (wF _) oA
      obtain⟨f1,f2⟩:=hr.fresh _ oA hk'
      have hrow:fc w E τ.sz ad (l.take i0.toNat).length c (us.take (i0.toNat*τ.sz)):=by
       rw[hlt];have hm:i0.toNat*τ.sz<=l.length*τ.sz:=Nat.mul_le_mul_right _ oA
       refine⟨by rw[List.length_take,h3.1];omega,?_⟩
       rcases h3.2 with⟨q1,q2,q3⟩|⟨g,vs,fz,q1,q2,q3,q4,q5,q6,q7,q8⟩
       ·exact .inl ⟨q1,oA,q3⟩
       ·exact .inr ⟨g,vs,fz,q1,q2,q3,oA,q5,q6,by rw[← q7,List.take_take,Nat.min_eq_left hm],q8⟩
      have hreps:ak ((l.take i0.toNat).flatMap τ.enc) G.data (us.take (i0.toNat*τ.sz)):=by
       have:=qc3 (i0.toNat*τ.sz) h4;have e:(l.flatMap τ.enc).take (i0.toNat*τ.sz)=(l.take i0.toNat).flatMap τ.enc:=by
        have e1:l.flatMap τ.enc=(l.take i0.toNat).flatMap τ.enc++(l.drop i0.toNat).flatMap τ.enc:=by rw[← List.flatMap_append,List.take_append_drop]
        rw[e1,List.take_append_of_le_length (by rw[mw,hlt];exact wF _),List.take_of_length_le (by rw[mw,hlt];exact wF _)]
       rwa [e]at this
      have hfin:=hr.fin.take hl h1 hk' f2 h5 (w':=w) ⟨rfl,rfl,rfl,wF _,fun _ _ _=>rfl⟩ (.inl rfl) hrow hreps
      have hle:G.le (G.addOwn (s.nx+32*tt) (ad,(l.take i0.toNat).length,c)):=Gh.addOwn_le f2;refine hN _ _ _ ⟨by obtain⟨bs,q1,q2⟩:=hr.defers;exact⟨bs,q1,qy hle.box q2⟩,by simp[Act.put,hr.size],fun i z hz => ?_,fun m hm hlm => ?_,hfin⟩
      ·simp[af]at hz;cases hbq:Nat.beq tt i
       ·rw[hbq]at hz;simp at hz;have hne:tt≠i:=fun e=>by subst e;simp at hbq
        obtain⟨u,u1,u2⟩:=hr.frame i z hz;exact⟨u,by simp[Act.put,hne,u1],u2.le hle⟩
       ·rw[hbq]at hz;simp at hz;subst hz;have:=qN hbq;subst this;exact⟨_,by simp[Act.put,hr.size,b2],ad,i0.toNat,c,by rw[Gh.addOwn_self,hlt],rfl⟩
      ·simp[af]at hlm;cases hbq:Nat.beq (s.nx+32*tt) m
       ·rw[hbq]at hlm;simp at hlm;cases hbk:Nat.beq k m
        ·rw[hbk]at hlm;obtain⟨g1,g2⟩:=hr.fresh m hm hlm;refine⟨g1,?_⟩;show(bif Nat.beq m (s.nx+32*tt) then some _ else G.own m)=none
         cases hbm:Nat.beq m (s.nx+32*tt)
         ·exact g2
         ·have:=qN hbm;subst this;simp at hbq
        ·rw[hbk]at hlm;cases hlm
       ·rw[hbq]at hlm;cases hlm
     ·cases h
    ·cases h
   ·cases h
  ·cases h
 ·rename_i args ats;split at h
  ·rename_i x t ha hty;split at h
   ·rename_i k sz lo hx;split at h
    ·rename_i τ l E E' hl hu;split at h
     ·rename_i zs hzs;split at h
      ·rename_i z hdec;cases hb:Nat.beq sz τ.sz&&Nat.blt 0 τ.sz&&AV.ones zs<;>rw[hb]at h<;>simp at h
       subst h;simp only[qA]at hb;obtain⟨⟨b1,b2⟩,b3⟩:=hb;have b1:=qN b1;have b2:0<τ.sz:=by simpa using b2
       subst b1;have e1:args=#[x]:=by rw[← Array.toArray_toList (xs:=args),ha]
       have e2:ats=#[t]:=by rw[← Array.toArray_toList (xs:=ats),hty]
       subst e1 e2;obtain⟨g,n,c,o1,o2,hxe⟩:=bi hr hx;obtain⟨ad,c',q1,q2⟩:=hr.fin.mem.holds _ _ hl;rw[o1]at q1;simp at q1;obtain⟨rfl,rfl,rfl⟩:=q1;rcases q2 with⟨q,_⟩|⟨g',vs,fz,q,k2,k3,k4,k5,k6,k7,k8,k9⟩
       ·cases q
       ·simp at q;subst q;obtain⟨ab,e,hsd⟩:=tj hdec;simp at e;subst e;obtain⟨zv,hz1,hz2⟩:=qo5 (P:=P) hzs w G.data;obtain⟨ps,hv1,hv2⟩:=hsd.2;have hz3:ak (τ.enc z) G.data zv.cells.toList:=ke (Gh.le.refl _) (fun e=>by cases e) hv1 hv2 hz2
        have hone:∀v∈zv.cells.toList,v.oneCell'=true:=oe hz2 b3;have hzl:zv.cells.toList.length=τ.sz:=by rw[← hz3.length,τ.enc_length]
        have hzc:=vgy zv.cells (l.length-lo);have hones:∀v∈(List.replicate (l.length-lo) zv.cells.toList).flatten,v.oneCell'=true:=fun v hv=>by
         obtain⟨ys,h1,h2⟩:=List.mem_flatten.1 hv;rw[List.eq_of_mem_replicate h1]at h2;exact hone v h2
        have hfrl:(List.replicate (l.length-lo) zv.cells.toList).flatten.length=(l.length-lo)*τ.sz:=by rw[qny,hzl]
        have hmul:lo*τ.sz+(l.length-lo)*τ.sz=l.length*τ.sz:=by rw[← Nat.add_mul];congr 1;omega
        have hcl:l.length*τ.sz<=c*τ.sz:=Nat.mul_le_mul_right _ k4;obtain⟨w',cur',s1,s2,s3,s4⟩:=qc5 (P:=P) g (lo*τ.sz) E fz (List.replicate (l.length-lo) zv.cells.toList).flatten 0 vs w k2 (by rw[hfrl];omega) k3 hones
        have hrun:(execOp a.eval ⟨none,.call { callee := .builtin .clear,args:=#[x],argTypes:=#[t] },ty,pos,after,guard⟩).run P w = .ok (.value (.tuple #[])) w':=by
         obtain⟨m,hm⟩:∃m,l.length-lo=m+1:=⟨l.length-lo-1,oA⟩
         rw[hm]at s1 hzc;simp[execOp,resolve,invoke,builtin,hxe,hm,Builtin.clear_,bh hu,hz1,hzc,s1]
        refine er oC ?_
        unfold Oper.wp;rw[hrun];have hat:G.at k (.row τ l E)=some g:=by simp[Gh.at,o1]
        have hl':(l.take lo++List.replicate (l.length-lo) z).length=l.length:=by simp;omega
        have hfl:(l.take lo++List.replicate (l.length-lo) z).flatMap τ.enc=fq (l.flatMap τ.enc) (lo*τ.sz) (List.replicate (l.length-lo) (τ.enc z)).flatten:=by
         have e1:l.flatMap τ.enc=(l.take lo).flatMap τ.enc++(l.drop lo).flatMap τ.enc:=by rw[← List.flatMap_append,List.take_append_drop]
         have e2:((l.take lo).flatMap τ.enc).length=lo*τ.sz:=by rw[mw,List.length_take,Nat.min_eq_left oA]
         have e3:((l.drop lo).flatMap τ.enc).length=(l.length-lo)*τ.sz:=by rw[mw,List.length_drop]
         rw[List.flatMap_append,zgs,e1];have:=q3c (List.replicate (l.length-lo) (τ.enc z)).flatten ((l.take lo).flatMap τ.enc) ((l.drop lo).flatMap τ.enc) 0;rw[e2,Nat.add_zero]at this;rw[this,z0n _ _ (by rw[e3,qny,τ.enc_length])]
        refine hN G _ _ ⟨hr.defers,hr.size,hr.frame,fun m hm hlm=>hr.fresh m hm ?_,hr.fin.update (bx' := .row τ (l.take lo++List.replicate (l.length-lo) z) E) hl hat (by simp[Gh.at,o1]) s4 ?_ k9⟩
        ·simp[af]at hlm;cases hbq:Nat.beq k m
         ·rw[hbq]at hlm;exact hlm
         ·rw[hbq]at hlm;cases hlm
        ·have hsz:cur'.size=vs.size:=by
          have:=congrArg List.length s3;rw[qdc]at this;simpa using this
         refine⟨some ⟨g,0,none⟩,c,by rw[hl'];exact o1,.inr ⟨g,cur',fz,rfl,s2,by rw[hsz];exact k3,by rw[hl'];exact k4,k5,by rw[hsz];exact k6,?_,?_,k9⟩⟩
         ·rw[hl',hfl,s3,Nat.add_zero,q3w _ _ _ _ (by have:vs.toList.length=vs.size:=Array.length_toList;omega)]
          exact qox _ k7 (zka hz3 _)
         ·intro u hu';rw[s3]at hu';rcases qdd _ _ _ _ hu' with hu'|hu'
          ·exact k8 u hu'
          ·exact hones u hu'
      ·cases h
     ·cases h
    ·cases h
   ·cases h
  ·cases h
 ·cases h
end
def q0z(P:Program)(s:St)(o:Oper):Option (Bool×St):=
 match o.op,o.dst with
 |.convert src dst x,some tt=>match s.ev x with
  |some (.own k)=>match af s.hp k,P.underlying src,P.underlying dst with
   |some (.row τ l E),some (.slice _),some (.slice e)=>match P.underlying e with|some (.int .u8)=>bif Nat.beq src dst&&Nat.blt tt s.n then some (decide (0<l.length),{ s with fr:=(tt,.own k)::s.fr,hp:=(k,.row τ l E)::s.hp }) else none|_=>none
   |_,_,_=>none
  |_=>none
 |_,_=>none
section
variable{P:Program}{vhe:World}{vg8:Gh}{vhb:List (Nat×ag)}{G:Gh}{s:St}{a:Act}{w:World}
def zve(hr:ai vhe vg8 vhb G s a w){o:Oper}{s':St}(h:q0z P s o=some (true,s')){N:Act->World->Prop}(hN:∀G' a' w',ai vhe vg8 vhb G' s' a' w'->N a' w'):fj P o a w N:=by
 obtain⟨dst,op,ty,pos,after,guard⟩:=o;unfold q0z at h;split at h
 ·rename_i src dst x tt e1 e2;simp only at e1 e2;subst e1 e2;split at h
  ·rename_i k hx;split at h
   ·rename_i τ l E E1 E2 hl hus hud;split at h
    ·rename_i hue;cases hb:Nat.beq src dst&&Nat.blt tt s.n<;>rw[hb]at h<;>simp only[qT,qF,reduceCtorEq,qI,qP,decide_eq_true_eq]at h
     obtain⟨hpos,rfl⟩:=h;simp only[qA]at hb;have hsd:=qN hb.1;subst hsd;rw[hus]at hud;cases hud;obtain⟨ad0,n0,c0,o1,hxe⟩:=bi hr hx;obtain⟨ad,c',q1,q2⟩:=hr.fin.mem.holds _ _ hl;rw[o1]at q1;simp only[qI,qP]at q1;obtain⟨rfl,rfl,rfl⟩:=q1;rcases q2 with⟨_,q,_⟩|⟨g,vs,fz,rfl,k2,k3,k4,k5,k6,k7,k8,k9⟩
     ·subst q;simp at hpos
     ·have hw:(w.freeze ⟨g,vs.size,none⟩ 1).heap[g]? = some (.cells vs E (if fz.1==fz.2 then(vs.size,vs.size+1) else(min fz.1 vs.size,max fz.2 (vs.size+1)))):=by
       simp only[World.freeze,Nat.one_ne_zero,if_false,Array.getElem?_modify,k2];simp
      have hshape:w.shape? g=some (E,vs.size):=by simp only[World.shape?,k2]
      have hrun:(execOp a.eval ⟨some tt,.convert src src x,ty,pos,after,guard⟩).run P w = .ok (.value (.slice (some ⟨g,0,none⟩) l.length c0)) (w.freeze ⟨g,vs.size,none⟩ 1):=by
       simp[execOp,hxe,convert,bh hus,bh hue,markStringish,hshape]
      refine er oC ?_
      unfold Oper.wp;rw[hrun];have hat:G.at k (.row τ l E)=some g:=by simp[Gh.at,o1]
      have hbel:b9 (fun b=>b=g) w (w.freeze ⟨g,vs.size,none⟩ 1):=by
       refine⟨rfl,rfl,rfl,?_,fun j hj hne => ?_⟩
       ·simp[World.freeze]
       ·simp only[World.freeze,Nat.one_ne_zero,if_false,Array.getElem?_modify];rw[qW (fun q=>hne q.symm)]
      have hok:cy G (w.freeze ⟨g,vs.size,none⟩ 1) k (.row τ l E):=by
       refine⟨some ⟨g,0,none⟩,c0,o1,.inr ⟨g,vs,_,rfl,hw,?_,k4,k5,k6,k7,k8,k9⟩⟩;refine .inr ?_;split
       ·exact wF _
       ·rename_i hne;rcases k3 with rfl|k3
        ·simp at hne
        ·simp only;omega
      have hfin:=hr.fin.update (bx' := .row τ l E) hl hat hat hbel hok k9;have hb2:Nat.blt tt s.n=true:=hb.2;refine hN G _ _ ?_;have hr2:ai vhe vg8 vhb G { s with hp:=(k,.row τ l E)::s.hp } a (w.freeze ⟨g,vs.size,none⟩ 1):=⟨hr.defers,hr.size,hr.frame,fun m hm hlm=>hr.fresh m hm (by
       simp only[af]at hlm;cases hbq:Nat.beq k m
       ·rw[hbq]at hlm;exact hlm
       ·rw[hbq]at hlm;cases hlm),hfin⟩
      exact gm (v := .own k) hr2 (by simp[St.add,hb2,qT,List.nil_append]) ⟨_,_,_,o1,rfl⟩
    ·cases h
   ·cases h
  ·cases h
 ·cases h
end
def q1i(f:FuncId):ov->Bool|.ext f'=>Nat.beq f' f|_=>false
def qno(f:FuncId):List cm->Option cm|[]=>none|e::es=>bif q1i f e.key then some e else qno f es
def q0v{R:Type}(tb:Tb)(s:St)(o:Oper)(K:St->Option R):Option (Option R):=
 match o.op,o.dst with
 |.call { callee := .value g,args,argTypes:=_ },some tt=>match s.ev g,s.evs args.toList with
  |some (.fn (.func f) [] []),some xs=>match qno f tb.ents with
   |some e=>match Pts.get e.args (pq s.hp xs) [] with
    |some (d,nm)=>match qv s.hp e.hp nm with
     |some (d',nm')=>bif qic nm'&&Nat.blt tt s.n then
       some ((e.F d d').bind fun r=>bif noRef (e.out.res r).1 then K { s with fr:=(tt,(e.out.res r).1)::s.fr } else none) else none
     |none=>none
    |none=>none
   |none=>none
  |_,_=>none
 |_,_=>none
def q0q{f:FuncId}:∀{es:List cm}{e:cm},qno f es=some e->e∈es/\e.key = .ext f
 |[],e,h=>by cases h
 |e'::es,e,h=>by
  unfold qno at h;cases hb:q1i f e'.key<;>rw[hb]at h<;>simp at h
  ·exact⟨qE _ (q0q h).1,(q0q h).2⟩
  ·subst h;refine⟨qH,?_⟩;unfold q1i at hb;split at hb
   ·rename_i f' hk;rw[hk,qN hb]
   ·cases hb
section
variable{P:Program}{vhe:World}{vg8:Gh}{vhb:List (Nat×ag)}{G:Gh}{s:St}{a:Act}{w:World}{R:Type}{tb:Tb}
def zu8(hT:∀e∈tb.ents,e.Sound P)(hr:ai vhe vg8 vhb G s a w){o:Oper}{K:St->Option R}{r:Option R}{x:R}(h:q0v tb s o K=some r)(hx:r=some x){N:Act->World->Prop}(hN:∀s',K s'=some x->∀G' a' w',ai vhe vg8 vhb G' s' a' w'->N a' w'):fj P o a w N:=by
 obtain⟨dst,op,ty,pos,after,guard⟩:=o;unfold q0v at h;split at h
 ·rename_i g args ats tt e1 e2;simp only at e1 e2;subst e1 e2;split at h
  ·rename_i f xs hg hargs;split at h
   ·rename_i e he;split at h
    ·rename_i d nm hget;split at h
     ·rename_i d' nm' hbg;cases hb:qic nm'&&Nat.blt tt s.n<;>rw[hb]at h<;>simp only[qT,qF,reduceCtorEq,qI]at h
      simp only[qA]at hb;have hn:=zis hb.1;subst hn;rw[hx]at h;obtain⟨y,hy,h⟩:=Option.bind_eq_some_iff.1 h;cases hnr:noRef (e.out.res y).1<;>rw[hnr]at h<;>simp only[qT,qF,reduceCtorEq]at h
      obtain⟨hmem,hkey⟩:=q0q he;have hs:=hT e hmem d d' y hy;rw[hkey]at hs;have hs:qjo P f (Pts.put e.args d) (e.out.res y).1:=hs;have hseen:=(Pts.get_seen hget).2 [] rfl (fun n m hh=>by have:=(yy hbg).1 n m hh;cases this)
      obtain⟨ps,k1,k2⟩:=qpm (zk (ps:=e.args) (d:=d)) hseen;obtain⟨z1,z2,z3,z4⟩:=qy8 hr.fin;obtain⟨fs,cs,hge,hfs,hcs⟩:=bi hr hg;have hfs0:fs=#[]:=Array.eq_empty_of_size_eq_zero (by have:=hfs.length;simpa using this.symm)
      have hcs0:cs=#[]:=Array.eq_empty_of_size_eq_zero (by have:=hcs.length;simpa using this.symm)
      subst hfs0 hcs0;have hreps:=ke z1 (fun _=>z4) k1 k2 (vm hr hargs)
      obtain⟨v,hv1,hv2⟩:=hs w _ _ z2 hreps;have hv3:aj (e.out.res y).1 G v:=qol (G:=G.allData s.hp w) (G':=G) (fun _ _ q=>q) (fun _ _ q=>q) hnr hv2
      have hrun:(execOp a.eval ⟨some tt,.call { callee := .value g,args:=args,argTypes:=ats },ty,pos,after,guard⟩).run P w = .ok (.value v) w:=by
       have e3:(args.toList.map a.eval).toArray=args.map a.eval:=by rw[← Array.toArray_toList (xs:=args.map a.eval),Array.toList_map]
       try rw[e3]at hv1
       simp[execOp,resolve,hge,Deferred.ofValue,invoke,hv1]
      refine er oC ?_
      unfold Oper.wp;rw[hrun];have hb2:Nat.blt tt s.n=true:=hb.2;exact hN _ h _ _ _ (gm (v:=(e.out.res y).1) hr (by simp[St.add,hb2,qT,List.nil_append]) hv3)
     ·cases h
    ·cases h
   ·cases h
  ·cases h
 ·cases h
end
def q3r(P:Program)(t:TypeId):Option Ty:=match P.underlying t with
 |some (.int k)=>match k with|.u8=>some .byte|k=>some (.int k)
 |some .bool=>some .bool|some .string=>some .str|_=>none
def Ty.zero1:(τ:Ty)->Option τ.den|.int _=>some (0:Int)|.byte=>some (0:UInt8)|.bool=>some false|.str=>some ([]:List UInt8)|_=>none
def rx:Ty->AV->Bool
 |.int k,x=>match x with|.int k' n=>decide (k'=k)&&decide (n=0)|_=>false
 |.byte,x=>match x with|.byte c=>decide (c=0)|_=>false
 |.bool,x=>match x with|.bool b => !b|_=>false
 |.str,x=>match x with|.str s=>s.isEmpty|_=>false
 |_,_=>false
def ta(τ:Ty):List AV->Bool|[]=>true|x::xs=>rx τ x&&ta τ xs
def Ty.is1:Ty->Bool|.int _=>true|.byte=>true|.bool=>true|.str=>true|_=>false
def vb(P:Program)(T:TypeId):Bool:=match P.underlying T with|some (.array n _)=>Nat.blt 32 n|_=>false
def qzg(P:Program)(s:St)(o:Oper):Option (Bool×St):=
 match o.op,o.dst with
 |.alloc T,some t=>match P.underlying T with
  |some (.array n E)=>bif Nat.blt 32 n then
    match q3r P E,w7 P T with
    |some τ,some zs=>match τ.zero1 with
     |some z=>bif Nat.beq zs.length n&&ta τ zs&&Nat.ble n 65536&&AV.ones zs&&a7 (s.nx+32*t) s.hp&&Nat.blt t s.n then
       some (true,{ s with fr:=(t,.oel (s.nx+32*t) 1 0 0)::s.fr,hp:=(s.nx+32*t,.row τ (List.replicate n z) T)::s.hp }) else none
     |none=>none
    |_,_=>none
   else none
  |_=>none
 |.load T x,some t=>bif vb P T then match s.ev x with
  |some (.oel k sz 0 0)=>match af s.hp k,w6 P T,ee P T with|some (.row τ l _),some true,some n=>bif τ.is1&&Nat.beq sz 1&&Nat.blt t s.n then some (decide (l.length=n),{ s with fr:=(t,.arr τ l)::s.fr }) else none|_,_,_=>none
  |_=>none else none
 |.store T x y,none=>bif vb P T then match s.ev x,s.ev y with
  |some (.oel k sz 0 0),some (.arr τ l)=>match af s.hp k,ee P T with|some (.row τ0 l0 E0),some n=>bif τ.is1&&τ0.is1&&Nat.beq sz 1 then some (decide (l.length=l0.length)&&decide (l.length=n),{ s with hp:=(k,.row τ l E0)::s.hp }) else none|_,_=>none
  |_,_=>none else none
 |.indexAddr T x i,some t=>bif vb P T then match P.underlying T with
  |some (.array n E)=>match s.ev x,ee P E with
   |some (.oel k sz 0 0),some 1=>bif Nat.beq sz 1&&Nat.blt t s.n then
     match s.evy i with|some (.int _ j)=>some (decide (0<=j)&&decide (j<n),{ s with fr:=(t,.oel k 1 j.toNat 0)::s.fr })|some (.byte c)=>some (Nat.ble 256 n||decide (c.toNat<n),{ s with fr:=(t,.oel k 1 c.toNat 0)::s.fr })|_=>none
    else none
   |_,_=>none
  |_=>none else none
 |_,_=>none
def qcu{τ:Ty}(h:τ.is1=true):τ.sz=1:=by cases τ<;>first|rfl|cases h
def q63{τ:Ty}{z:τ.den}(h:τ.zero1=some z):τ.is1=true:=by cases τ<;>first|rfl|cases h
def vgz{τ:Ty}{x:AV}{z:τ.den}{G:Gh}{v:Value}(h:rx τ x=true)(hz:τ.zero1=some z)(hr:aj x G v):ak (τ.enc z) G [v]:=by
 cases τ with
 |int k=>
  cases x<;>simp only[rx,wJ,qA,decide_eq_true_eq]at h
  obtain⟨rfl,rfl⟩:=h;cases hz;exact⟨hr,trivial⟩
 |byte=>
  cases x<;>simp[rx,wJ,decide_eq_true_eq]at h
  subst h;cases hz;exact⟨hr,trivial⟩
 |bool=>
  cases x with
  |bool b=>
   cases b
   ·cases hz;exact⟨hr,trivial⟩
   ·cases h
  |_=>cases h
 |str=>
  cases x with
  |str l=>
   cases l
   ·cases hz;exact⟨hr,trivial⟩
   ·cases h
  |_=>cases h
 |_=>cases hz
def zen{τ:Ty}{z:τ.den}{G:Gh}(hz:τ.zero1=some z):∀{zs:List AV}{vs:List Value},ta τ zs=true->ak zs G vs->ak ((List.replicate zs.length z).flatMap τ.enc) G vs
 |[],[],_,_=>trivial|x::zs,v::vs,h,hr=>by
  simp[ta,qA]at h;rw[qL,List.replicate_succ,List.flatMap_cons];exact ub (vs:=[v]) (vgz h.1 hz hr.1) (zen hz h.2 hr.2)
 |[],_::_,_,h=>h.elim|_::_,[],_,h=>h.elim
def zuz{τ:Ty}(h:τ.is1=true)(x:τ.den):τ.enc x=[τ.av x]:=by cases τ<;>first|rfl|cases h
def ze0{τ:Ty}(h:τ.is1=true){x:τ.den}{G:Gh}{v:Value}:aj (τ.av x) G v↔τ.V1 G.imm x v:=by cases τ<;>first|exact Iff.rfl|cases h
def qnx{τ:Ty}(h:τ.is1=true):∀(l:List τ.den),l.flatMap τ.enc=l.map τ.av|[]=>rfl|x::l=>by rw[List.flatMap_cons,zuz h,qnx h l];rfl
def zsa{τ:Ty}(h:τ.is1=true){l:List τ.den}{G:Gh}{v:Value}(hv:aj (.arr τ l) G v):∃vs:Array Value,v = .agg vs/\ak (l.flatMap τ.enc) G.data vs.toList:=by
 obtain⟨vs,rfl,h1,h2⟩:=hv;refine⟨vs,rfl,?_⟩;rw[qnx h];have:∀(l:List τ.den)(us:List Value),us.length=l.length->(∀(j:Nat)(x:τ.den),l[j]? = some x->∃u,us[j]? = some u/\τ.V1 G.imm x u)->ak (l.map τ.av) G.data us:=by
  intro l
  induction l with
  |nil=>intro us hl _;rw[List.eq_nil_of_length_eq_zero hl];trivial|cons x l ih=>
   intro us hl hu
   cases us with
   |nil=>cases hl
   |cons u us=>
    refine⟨?_,ih us (by simpa using hl) (fun j y hy=>hu (j+1) y (by simpa using hy))⟩
    obtain⟨u',e,k⟩:=hu 0 x rfl;simp at e;subst e;exact(ze0 h (G:=G.data)).2 k
 exact this l vs.toList (by simpa using h1) (fun j x hx=>by obtain⟨u,k1,k2⟩:=h2 j x hx;exact⟨u,by simpa using k1,k2⟩)
def q2t{τ:Ty}(h:τ.is1=true){l:List τ.den}{G:Gh}{vs:List Value}(hv:ak (l.flatMap τ.enc) G.data vs):aj (.arr τ l) G (.agg vs.toArray):=by
 rw[qnx h]at hv;refine⟨vs.toArray,rfl,by simpa using hv.length.symm,fun j x hx => ?_⟩
 obtain⟨u,k1,k2⟩:=jk hv (i:=j) (x:=τ.av x) (by simp[hx])
 exact⟨u,by simpa using k1,(ze0 h (G:=G.data)).1 k2⟩
section
variable{P:Program}{vhe:World}{vg8:Gh}{vhb:List (Nat×ag)}{G:Gh}{s:St}{a:Act}{w:World}
def zr9(hr:ai vhe vg8 vhb G s a w){o:Oper}{s':St}(h:qzg P s o=some (true,s')){N:Act->World->Prop}(hN:∀G' a' w',ai vhe vg8 vhb G' s' a' w'->N a' w'):fj P o a w N:=by
 obtain⟨dst,op,ty,pos,after,guard⟩:=o;unfold qzg at h;split at h
 ·rename_i T t e1 e2;simp only at e1 e2;subst e1 e2;split at h
  ·rename_i n E hu;cases hn:Nat.blt 32 n<;>rw[hn]at h<;>simp only[qT,qF,reduceCtorEq]at h
   split at h
   ·rename_i τ zs hτ hzs;split at h
    ·rename_i z hz;cases hb:Nat.beq zs.length n&&ta τ zs&&Nat.ble n 65536&&AV.ones zs&&a7 (s.nx+32*t) s.hp&&Nat.blt t s.n<;>rw[hb]at h<;>simp only[qT,qF,reduceCtorEq,qI,qP,true_and]at h
     subst h;simp only[qA]at hb;obtain⟨⟨⟨⟨⟨b1,b2⟩,b3⟩,b4⟩,b5⟩,b6⟩:=hb;have b1:=qN b1;have b3:n<=65536:=Nat.le_of_ble_eq_true b3;have hsz:τ.sz=1:=qcu (q63 hz);obtain⟨Z,hz1,hz2⟩:=qo5 (P:=P) hzs w G.data;have ac:Z.cells.toList.length=n:=by rw[← hz2.length,b1]
     have hreps:=zen hz b2 hz2;rw[b1]at hreps;have hone:=oe hz2 b4;have hrun:(execOp a.eval ⟨some t,.alloc T,ty,pos,after,guard⟩).run P w = .ok (.value (.pointer (some ⟨w.heap.size,0,none⟩))) (w.alloc (.cells Z.cells T)):=by
      simp[execOp,Instr.alloc,hz1,newVar,newRow]
     refine er oC ?_
     unfold Oper.wp;rw[hrun];have hrow:fc (w.alloc (.cells Z.cells T)) T τ.sz (some ⟨w.heap.size,0,none⟩) (List.replicate n z).length n Z.cells.toList:=by
      refine⟨by rw[hsz,ac];simp,.inr ⟨w.heap.size,Z.cells,(0,0),rfl,pp _ _,.inl rfl,oC,?_,?_,?_,hone⟩⟩
      ·exact Nat.le_trans b3 oE
      ·rw[hsz,← ac];simp
      ·rw[List.take_of_length_le];rw[hsz,ac];simp
     obtain⟨G',hG⟩:=zki (t:=t) (v := .oel (s.nx+32*t) 1 0 0) (u := .pointer (some ⟨w.heap.size,0,none⟩)) (s':={ s with fr:=(t,.oel (s.nx+32*t) 1 0 0)::s.fr,hp:=(s.nx+32*t,.row τ (List.replicate n z) T)::s.hp }) hr b5 (qip _ _) hrow hreps
      (fun b hb=>by injection hb with hb;subst hb;exact wF _) (fun G' hG'=>⟨w.heap.size,_,n,hG',oC⟩)
      (by have hb2:Nat.blt t s.n=true:=b6;simp only[St.add,hb2,qT];rfl)
     exact hN _ _ _ hG
    ·cases h
   ·cases h
  ·cases h
 ·rename_i T x t e1 e2;simp only at e1 e2;subst e1 e2;cases hbig:vb P T<;>rw[hbig]at h<;>simp only[qT,qF,reduceCtorEq]at h
  split at h
  ·rename_i k sz hx;split at h
   ·rename_i τ l E n hl hagg hn;cases hb:τ.is1&&Nat.beq sz 1&&Nat.blt t s.n<;>rw[hb]at h<;>simp only[qT,qF,reduceCtorEq,qI,qP,decide_eq_true_eq]at h
    obtain⟨ac,rfl⟩:=h;simp only[qA]at hb;obtain⟨⟨b1,b2⟩,b3⟩:=hb;have hsz:τ.sz=1:=qcu b1;obtain⟨B,n0,c0,ho,hxe⟩:=bi hr hx;obtain⟨ad,c',h1,h3⟩:=hr.fin.mem.holds _ _ hl;rw[ho]at h1;simp only[qI,qP]at h1;obtain⟨rfl,rfl,rfl⟩:=h1;rcases h3 with⟨h3,_⟩|⟨g,vs,fz,k1,k2,k3,k4,k5,k6,k7,k8,k9⟩
    ·cases h3
    ·simp only[qI,Addr.mk.injEq,and_true]at k1;subst k1;have hfl:(l.flatMap τ.enc).length=n:=by rw[mw,hsz,ac,Nat.mul_one]
     have hload:mn P T (l.flatMap τ.enc) 0=some (.agg (l.flatMap τ.enc)):=by
      unfold mn;rw[hagg,hn];have:Nat.ble (0+n) (l.flatMap τ.enc).length=true:=by rw[hfl,wO];simp
      simp only[this,qT,List.drop_zero];rw[List.take_of_length_le (by rw[hfl];exact wF _)]
     obtain⟨u,hu,us,rfl,hru⟩:=z8 (P:=P) (w:=w) hload (B:=B) (o:=0) k7 (fun j u hu=>by
      rw[List.getElem?_take]at hu;split at hu
      ·rw[wO];exact cell_of_heap k2 hu
      ·cases hu)
     have hrun:(execOp a.eval ⟨some t,.load T x,ty,pos,after,guard⟩).run P w = .ok (.value (.agg us)) w:=by
      simp only[Nat.add_zero]at hu;simp[execOp,hxe,Instr.loadAt,Instr.sureAddr,hu]
     refine er oC ?_
     unfold Oper.wp;rw[hrun];have hb2:Nat.blt t s.n=true:=b3;have:=q2t (G:=G) b1 hru;exact hN _ _ _ (gm (v := .arr τ l) hr (by simp only[St.add,hb2,qT,List.nil_append]) (by simpa using this))
   ·cases h
  ·cases h
 ·rename_i T x y e1 e2;simp only at e1 e2;subst e1 e2;cases hbig:vb P T<;>rw[hbig]at h<;>simp only[qT,qF,reduceCtorEq]at h
  split at h
  ·rename_i k sz τ l hx hy;split at h
   ·rename_i τ0 l0 E0 n hl hn;cases hb:τ.is1&&τ0.is1&&Nat.beq sz 1<;>rw[hb]at h<;>simp only[qT,qF,reduceCtorEq,qI,qP,qA,decide_eq_true_eq]at h
    obtain⟨⟨ac,hlen2⟩,rfl⟩:=h;simp only[qA]at hb;obtain⟨⟨b1,b2⟩,b3⟩:=hb;have hsz:τ.sz=1:=qcu b1;have hsz0:τ0.sz=1:=qcu b2;obtain⟨B,n0,c0,ho0,hxe⟩:=bi hr hx;obtain⟨us,hye,hus⟩:=zsa b1 (bi hr hy);obtain⟨ad,c,h1,h3⟩:=hr.fin.mem.holds _ _ hl;rw[ho0]at h1;simp only[qI,qP]at h1;obtain⟨rfl,rfl,rfl⟩:=h1;rcases h3 with⟨h3,_⟩|⟨g,vs,fz,k1,k2,k3,k4,k5,k6,k7,k8,k9⟩
    ·cases h3
    ·simp only[qI,Addr.mk.injEq,and_true]at k1;subst k1;have hul:us.toList.length=n:=by rw[← hus.length,mw,hsz,hlen2,Nat.mul_one]
     have hones:∀v∈us.toList,v.oneCell'=true:=oe hus (by
      rw[qnx b1];have:∀l:List τ.den,AV.ones (l.map τ.av)=true:=by
       intro l
       induction l with
       |nil=>rfl|cons x l ih=>
        simp only[List.map_cons,AV.ones,ih,Bool.and_true];cases τ<;>first|rfl|cases b1
      exact this l)
     have hle:l0.length<=vs.size:=by rw[k6,hsz0,Nat.mul_one];exact k4
     obtain⟨w',cur',m1,m2,m3,m4⟩:=qc5 (P:=P) B 0 E0 fz us.toList 0 vs w k2 oA k3 hones
     have hrun:(execOp a.eval ⟨none,.store T x y,ty,pos,after,guard⟩).run P w = .ok .skip w':=by
      have hul':us.size=n:=by simpa using hul
      simp[execOp,Instr.storeAt,hxe,hye,Instr.sureAddr,storeVar,gu hn,Value.cells,hul',m1]
     refine er oC ?_
     unfold Oper.wp;rw[hrun];have hcs:cur'.size=vs.size:=by rw[← Array.length_toList,m3,qdc,Array.length_toList]
     refine hN G _ _ ⟨hr.defers,hr.size,hr.frame,fun m hm hlm=>hr.fresh m hm ?_,?_⟩
     ·simp only[af]at hlm;cases hbq:Nat.beq k m
      ·rw[hbq]at hlm;exact hlm
      ·rw[hbq]at hlm;cases hlm
     ·refine hr.fin.update (bx' := .row τ l E0) hl (B:=B) (by simp[Gh.at,ho0]) (by simp[Gh.at,ho0]) m4 ⟨some ⟨B,0,none⟩,c0,by rw[ac];exact ho0,.inr ⟨B,cur',fz,rfl,m2,by rw[hcs];exact k3,by rw[ac];exact k4,k5,by rw[hcs,hsz,← hsz0];exact k6,?_,?_,k9⟩⟩ k9
      ·rw[m3,hsz,Nat.mul_one,Nat.add_zero];have:=q3v us.toList vs.toList 0 (by simp only[Array.length_toList]at hul ⊢;omega)
       rw[wO,List.take_zero,List.nil_append]at this;rw[hlen2,← hul,this];exact hus
      ·intro u hu;rw[m3]at hu;rcases qdd _ _ _ _ hu with hu|hu
       ·exact k8 u hu
       ·exact hones u hu
   ·cases h
  ·cases h
 ·rename_i T x i t e1 e2;simp only at e1 e2;subst e1 e2;cases hbig:vb P T<;>rw[hbig]at h<;>simp only[qT,qF,reduceCtorEq]at h
  split at h
  ·rename_i n E hu;split at h
   ·rename_i k sz hx hsz;cases hb:Nat.beq sz 1&&Nat.blt t s.n<;>rw[hb]at h<;>simp only[qT,qF,reduceCtorEq]at h
    simp only[qA]at hb;have b1:=qN hb.1;subst b1;obtain⟨B,n0,c0,ho,hxe⟩:=bi hr hx;have hb2:Nat.blt t s.n=true:=hb.2;have key:∀(j:Nat)(kk:IntKind),a.eval i = .int kk (j:Int)->j<n->s'={ s with fr:=(t,.oel k 1 j 0)::s.fr }->fj P ⟨some t,.indexAddr T x i,ty,pos,after,guard⟩ a w N:=by
     intro j kk hi hj hs';have hrun:(execOp a.eval ⟨some t,.indexAddr T x i,ty,pos,after,guard⟩).run P w = .ok (.value (.pointer (some ⟨B,j,none⟩))) w:=by
      simp[execOp,hxe,hi,Instr.indexAt,asIntOf,bh hu,gu hsz,lj,Instr.sureAddr,hj]
     refine er oC ?_
     unfold Oper.wp;rw[hrun];subst hs';exact hN _ _ _ (gm (v := .oel k 1 j 0) hr (by simp[St.add,hb2,qT,List.nil_append]) ⟨B,n0,c0,ho,oC⟩)
    split at h
    ·rename_i kk j hi;simp at h;obtain⟨⟨h1,h2⟩,h3⟩:=h;have hie:a.eval i = .int kk j:=jg hr hi;exact key j.toNat kk (by rw[Int.toNat_of_nonneg h1];exact hie) oA h3.symm
    ·rename_i c hi;simp only[qI,qP,Bool.or_eq_true,decide_eq_true_eq]at h;obtain⟨h1,h3⟩:=h;have hie:a.eval i = .int .u8 c.toNat:=jg hr hi;have hlt:c.toNat<n:=by
      rcases h1 with h1|h1
      ·have:=Nat.le_of_ble_eq_true h1;have:=c.toNat_lt;omega
      ·exact h1
     exact key c.toNat .u8 hie hlt h3.symm
    ·cases h
   ·cases h
  ·cases h
 ·cases h
end
def qif:TypeDesc->Bool|.interface _=>false|_=>true
def q13(P:Program)(s:St)(o:Oper):Option (Bool×St):=
 match o.op,o.dst with
 |.makeInterface T x,some tt=>match s.ev x,P.underlying T with|some v,some d=>bif qif d&&Nat.blt tt s.n then some (true,{ s with fr:=(tt,.iface T v)::s.fr }) else none|_,_=>none
 |.build T parts,some tt=>bif vb P T then match parts.toList with
  |[]=>match P.underlying T with
   |some (.array n E)=>match q3r P E,qb0 P s T [] with
    |some τ,some ([],.agg zs)=>match τ.zero1 with|some z=>bif Nat.beq zs.length n&&ta τ zs&&Nat.blt tt s.n then some (true,{ s with fr:=(tt,.arr τ (List.replicate n z))::s.fr }) else none|none=>none
    |_,_=>none
   |_=>none
  |_=>none else none
 |.binOp op t x y _,some tt=>match s.ev y,P.underlying t with
  | some (.val (.slice none 0 0)),some (.slice _)=>bif Nat.blt tt s.n then(match s.ev x,op with
   |some (.own k),.eql=>match af s.hp k with|some (.row _ l _)=>some (decide (0<l.length),{ s with fr:=(tt,.val (.bool false))::s.fr })|_=>none
   |some (.own k),.neq=>match af s.hp k with|some (.row _ l _)=>some (decide (0<l.length),{ s with fr:=(tt,.val (.bool true))::s.fr })|_=>none
   |some (.val (.slice none 0 0)),.eql=>some (true,{ s with fr:=(tt,.val (.bool true))::s.fr })|some (.val (.slice none 0 0)),.neq=>some (true,{ s with fr:=(tt,.val (.bool false))::s.fr })| _,_=>none) else none
  |_,_=>none
 |_,_=>none
def zpw{τ:Ty}{x:AV}{z:τ.den}{G G':Gh}{v:Value}(h:rx τ x=true)(hz:τ.zero1=some z)(hr:aj x G v):ak (τ.enc z) G' [v]:=by
 cases τ with
 |int k=>
  cases x<;>simp only[rx,wJ,qA,decide_eq_true_eq]at h
  obtain⟨rfl,rfl⟩:=h;cases hz;exact⟨hr,trivial⟩
 |byte=>
  cases x<;>simp[rx,wJ,decide_eq_true_eq]at h
  subst h;cases hz;exact⟨hr,trivial⟩
 |bool=>
  cases x with
  |bool b=>
   cases b
   ·cases hz;exact⟨hr,trivial⟩
   ·cases h
  |_=>cases h
 |str=>
  cases x with
  |str l=>
   cases l
   ·cases hz;exact⟨hr,trivial⟩
   ·cases h
  |_=>cases h
 |_=>cases hz
def zem{τ:Ty}{z:τ.den}{G G':Gh}(hz:τ.zero1=some z):∀{zs:List AV}{vs:List Value},ta τ zs=true->ak zs G vs->ak ((List.replicate zs.length z).flatMap τ.enc) G' vs
 |[],[],_,_=>trivial|x::zs,v::vs,h,hr=>by
  simp[ta,qA]at h;rw[qL,List.replicate_succ,List.flatMap_cons];exact ub (vs:=[v]) (zpw h.1 hz hr.1) (zem hz h.2 hr.2)
 |[],_::_,_,h=>h.elim|_::_,[],_,h=>h.elim
section
variable{P:Program}{vhe:World}{vg8:Gh}{vhb:List (Nat×ag)}{G:Gh}{s:St}{a:Act}{w:World}
def zzz{P:Program}{t E:TypeId}(hu:P.underlying t=some (.slice E))(d:Nat)(x:Option Addr)(n c:Nat)(w:World)(h:x=none->n=0/\c=0) :
  (Op.equalIn (d+1) t (.slice x n c) (.slice none 0 0)).run P w = .ok x.isNone w:=by
 cases x with
 |none=>obtain⟨rfl,rfl⟩:=h rfl;simp[Op.equalIn,bh hu]
 |some a=>simp[Op.equalIn,bh hu]
def zzy{P:Program}{t E:TypeId}(hu:P.underlying t=some (.slice E))(x:Option Addr)(n c:Nat)(w:World)(h:x=none->n=0/\c=0) :
  (Op.equal t (.slice x n c) (.slice none 0 0)).run P w = .ok x.isNone w:=zzz hu 9999 x n c w h
def zxo(hr:ai vhe vg8 vhb G s a w){o:Oper}{s':St}(h:q13 P s o=some (true,s')){N:Act->World->Prop}(hN:∀G' a' w',ai vhe vg8 vhb G' s' a' w'->N a' w'):fj P o a w N:=by
 obtain⟨dst,op,ty,pos,after,guard⟩:=o;unfold q13 at h;split at h
 ·rename_i T x tt e1 e2;simp only at e1 e2;subst e1 e2;split at h
  ·rename_i v d hx hu;cases hb:qif d&&Nat.blt tt s.n<;>rw[hb]at h<;>simp only[qT,qF,reduceCtorEq,qI,qP,true_and]at h
   subst h;simp only[qA]at hb;refine er oC ?_
   unfold Oper.wp;have hrun:(execOp a.eval ⟨some tt,.makeInterface T x,ty,pos,after,guard⟩).run P w = .ok (.value (.iface T (a.eval x))) w:=by
    have h1:=hb.1;cases d<;>simp only[qif,wJ]at h1<;>simp[execOp,Instr.makeInterface,bh hu]
   rw[hrun];exact hN G _ _ (gm (v := .iface T v) hr oI ⟨_,rfl,bi hr hx⟩)
  ·cases h
 ·rename_i T parts tt e1 e2;simp only at e1 e2;subst e1 e2;cases hbig:vb P T<;>rw[hbig]at h<;>simp only[qT,qF,reduceCtorEq]at h
  split at h
  ·rename_i hp;split at h
   ·rename_i n E hu;split at h
    ·rename_i τ zs hτ hbu;split at h
     ·rename_i z hz;cases hb:Nat.beq zs.length n&&ta τ zs&&Nat.blt tt s.n<;>rw[hb]at h<;>simp only[qT,qF,reduceCtorEq,qI,qP,true_and]at h
      subst h;simp only[qA]at hb;have b1:=qN hb.1.1;rw[← hp]at hbu;obtain⟨u,hu1,us,rfl,hu3⟩:=zd7 hr hbu;refine er oC ?_
      unfold Oper.wp;have hrun:(execOp a.eval ⟨some tt,.build T parts,ty,pos,after,guard⟩).run P w = .ok (.value (.agg us)) w:=by
       simp only[execOp,Sem.run_bind,hu1,Result.andThen_ok];rfl
      rw[hrun];have hrep:=zem (G':=G.data) hz hb.1.2 hu3;rw[b1]at hrep;have:=q2t (q63 hz) (G:=G) hrep;exact hN G _ _ (gm (v := .arr τ (List.replicate n z)) hr oI this)
     ·cases h
    ·cases h
   ·cases h
  ·cases h
 ·rename_i op t x y p tt e1 e2;simp only at e1 e2;subst e1 e2;split at h
  ·rename_i E hy hu;cases hb:Nat.blt tt s.n<;>rw[hb]at h<;>simp only[qT,qF,reduceCtorEq]at h
   have hye:a.eval y = .slice none 0 0:=bi hr hy;have go:∀(op:BinOp)(q:Bool)(ad:Option Addr)(n c:Nat),a.eval x = .slice ad n c->(ad=none->n=0/\c=0)->(op = .eql/\q=ad.isNone\/op = .neq/\q = !ad.isNone) ->
     s'={ s with fr:=(tt,.val (.bool q))::s.fr }->fj P ⟨some tt,.binOp op t x y p,ty,pos,after,guard⟩ a w N:=by
    intro op q ad n c hxe hnil hq hs';subst hs';refine er oC ?_
    unfold Oper.wp;have hq':=zzy (P:=P) hu ad n c w hnil;have hrun:(execOp a.eval ⟨some tt,.binOp op t x y p,ty,pos,after,guard⟩).run P w = .ok (.value (.bool q)) w:=by
     rcases hq with⟨rfl,rfl⟩|⟨rfl,rfl⟩<;>simp[execOp,hxe,hye,eqGuard,binOp,hq']
    rw[hrun];exact hN G _ _ (gm (v := .val (.bool q)) hr (by simp[St.add,hb,qT,List.nil_append]) rfl)
   have owned:∀{k:Nat}{τ:Ty}{l:List τ.den}{E:TypeId},s.ev x=some (.own k)->af s.hp k=some (.row τ l E)->0<l.length->∃ad n c,a.eval x = .slice (some ad) n c:=by
    intro k τ l E hx hl hpos;obtain⟨ad0,n0,c0,o1,hxe⟩:=bi hr hx;obtain⟨ad,c',q1,q2⟩:=hr.fin.mem.holds _ _ hl;rw[o1]at q1;simp at q1;obtain⟨rfl,rfl,rfl⟩:=q1;rcases q2 with⟨_,q,_⟩|⟨g,vs,fz,rfl,_⟩
    ·subst q;simp at hpos
    ·exact⟨_,_,_,hxe⟩
   split at h
   ·rename_i k hx;split at h
    ·rename_i hl;simp at h;obtain⟨ad,n,c,he⟩:=owned hx hl h.1;exact go _ false _ _ _ he (fun q=>by cases q) (.inl ⟨rfl,rfl⟩) h.2.symm
    ·cases h
   ·rename_i k hx;split at h
    ·rename_i hl;simp at h;obtain⟨ad,n,c,he⟩:=owned hx hl h.1;exact go _ true _ _ _ he (fun q=>by cases q) (.inr ⟨rfl,rfl⟩) h.2.symm
    ·cases h
   ·rename_i hx;simp at h;exact go _ true _ _ _ (bi hr hx) (fun _=>⟨rfl,rfl⟩) (.inl ⟨rfl,rfl⟩) h.symm
   ·rename_i hx;simp at h;exact go _ false _ _ _ (bi hr hx) (fun _=>⟨rfl,rfl⟩) (.inr ⟨rfl,rfl⟩) h.symm
   ·cases h
  ·cases h
 ·cases h
end
def d8(s:List UInt8)(p:Nat):Nat×Nat:=Utf8.decode ⟨s.toArray⟩ p
def q1d{R:Type}(P:Program)(s:St)(o:Oper)(K:St->Option R):Option (Option R):=
 match o.op,o.dst with
 |.range T x,some t=>match P.underlying T,s.ev x with
  |some .string,some (.str l)=>bif a7 (s.nx+32*t) s.hp&&Nat.blt t s.n then
    some (K { s with fr:=(t,.ptr (s.nx+32*t) 0)::s.fr,hp:=(s.nx+32*t,.it l 0)::s.hp }) else none
  |_,_=>none
 |.next x true,some t=>match s.ev x with
  |some (.ptr b 0)=>match af s.hp b with
   |some (.it l p)=>bif Nat.blt t s.n then
     some (bif Nat.blt p l.length then K { s with fr:=(t,.tup [.val (.bool true),.int .i64 p,.int .i32 (d8 l p).1])::s.fr,hp:=(b,.it l (p+(d8 l p).2))::s.hp }
      else K { s with fr:=(t,.tup [.val (.bool false)])::s.fr }) else none
   |_=>none
  |_=>none
 |.convert src dst x,some t=>match P.underlying src,P.underlying dst,s.evy x with|some _,some .string,some (.int _ n)=>bif Nat.blt t s.n then some (K { s with fr:=(t,.str (l7 n))::s.fr }) else none|_,_,_=>none
 |_,_=>none
section
variable{P:Program}{vhe:World}{vg8:Gh}{vhb:List (Nat×ag)}{G:Gh}{s:St}{a:Act}{w:World}
def zsz(w:World)(B:Nat)(o:Obj):b9 (fun b=>b=B) w (w.putObj B o):=
 ⟨rfl,rfl,rfl,oC,fun k _ hne=>World.putObj_heap_other hne⟩
def ai.setBox(hr:ai vhe vg8 vhb G s a w){n:Nat}{bx bx':ag}{B:Nat}(hn:af s.hp n=some bx)(hB:G.at n bx=some B)(hB':∀c,G.at n bx'=some c->c=B){o:Obj}
  (hok:cy G (w.putObj B o) n bx') (hi:∀o,G.imm B o=none):ai vhe vg8 vhb G { s with hp:=(n,bx')::s.hp } a (w.putObj B o):=
 ⟨hr.defers,hr.size,hr.frame,fun m hm hl=>hr.fresh m hm (by
  simp[af]at hl;cases hb:Nat.beq n m
  ·rw[hb]at hl;exact hl
  ·rw[hb]at hl;cases hl),hr.fin.update' hn hB hB' (zsz w B o) hok hi⟩
def Gh.addBox(G:Gh)(k:Nat)(B:Nat):Gh:={ imm:=G.imm,box:=fun m=>bif Nat.beq m k then some B else G.box m,own:=G.own }
def Gh.addBox_le{k B:Nat}(h:G.box k=none):G.le (G.addBox k B):=
 ⟨fun _ _ _ h=>h,fun n B' hn=>by
  show(bif Nat.beq n k then some B else G.box n)=_
  cases hb:Nat.beq n k
  ·exact hn
  ·(have:=qN hb;subst this;rw[h]at hn;cases hn),fun _ _ h=>h⟩
def Gh.addBox_self{k B:Nat}:(G.addBox k B).box k=some B:=by show(bif Nat.beq k k then some B else G.box k)=_;simp
def Gh.addBox_ne{k B m:Nat}(h:m≠k):(G.addBox k B).box m=G.box m:=by
 show(bif Nat.beq m k then some B else G.box m)=_
 cases hb:Nat.beq m k
 ·rfl
 ·exact absurd (qN hb) h
def ai.newBox(hr:ai vhe vg8 vhb G s a w){k:Nat}{bx:ag}{o:Obj}(hk:af s.hp k=none)(hkx:s.nx<=k)(hat:∀b,(G.addBox k w.heap.size).at k bx=some b->b=w.heap.size)
  (hok:cy (G.addBox k w.heap.size) (w.alloc o) k bx):ai vhe vg8 vhb (G.addBox k w.heap.size) { s with hp:=(k,bx)::s.hp } a (w.alloc o):=by
 obtain⟨hkb,hko⟩:=hr.fresh k hkx hk;have hle:G.le (G.addBox k w.heap.size):=Gh.addBox_le hkb;have hl1:∀n b,af [(k,bx)] n=some b->n=k/\b=bx:=fun n b h=>by
  simp[af]at h;cases hb:Nat.beq k n
  ·rw[hb]at h;cases h
  ·rw[hb]at h;simp at h;exact⟨(qN hb).symm,h.symm⟩
 have hlt:∀b o v,G.imm b o=some v->b<w.heap.size:=fun b o v h=>World.block_lt_of_cell? _ _ (hr.fin.mem.agree _ _ _ h)
 refine⟨by obtain⟨bs,h1,h2⟩:=hr.defers;exact⟨bs,h1,qy hle.box h2⟩,hr.size,fun i x hx=>by obtain⟨v,h1,h2⟩:=hr.frame i x hx;exact⟨v,h1,h2.le hle⟩,fun m hm hl => ?_,?_⟩
 ·simp[af]at hl;cases hb:Nat.beq k m
  ·rw[hb]at hl;obtain⟨h1,h2⟩:=hr.fresh m hm hl;exact⟨by rw[Gh.addBox_ne (fun e=>by subst e;simp at hb)];exact h1,h2⟩
  ·rw[hb]at hl;cases hl
 ·refine hr.fin.extend (new:=[(k,bx)]) hle (qip _ _) (fun _ _ _ h => .inl h) (fun b o v h => ?_) hr.fin.mem.one ?_ ?_ ?_
  ·rw[World.cell?_alloc_lt _ _ _ (hlt b o v h)];exact hr.fin.mem.agree _ _ _ h
  ·intro n b h;obtain⟨rfl,_⟩:=hl1 n b h;exact hk
  ·intro n b h;obtain⟨rfl,rfl⟩:=hl1 n b h;exact⟨hok,fun b hb=>by rw[hat b hb];exact wF _⟩
  ·intro n m b b' c h1 h2 _ _;obtain⟨rfl,_⟩:=hl1 n b h1;obtain⟨rfl,_⟩:=hl1 m b' h2;rfl
def il(l:List UInt8):(⟨l.toArray⟩:ByteArray).size=l.length:=by simp[ByteArray.size]
def zwh{R:Type}(hr:ai vhe vg8 vhb G s a w){o:Oper}{K:St->Option R}{r:Option R}{x:R}(h:q1d P s o K=some r)(hx:r=some x){N:Act->World->Prop}(hN:∀s',K s'=some x->∀G' a' w',ai vhe vg8 vhb G' s' a' w'->N a' w'):fj P o a w N:=by
 obtain⟨dst,op,ty,pos,after,guard⟩:=o;unfold q1d at h;split at h
 ·rename_i T y t e1 e2;simp only at e1 e2;subst e1 e2;split at h
  ·rename_i l hu hy;cases hb:a7 (s.nx+32*t) s.hp&&Nat.blt t s.n<;>rw[hb]at h<;>simp only[qT,qF,reduceCtorEq,qI]at h
   simp only[qA]at hb;subst h;have hk:=ly hb.1 _ (wF _) oA
   have he:a.eval y = .string ⟨l.toArray⟩:=bi hr hy;refine er oC ?_
   unfold Oper.wp;have hrun:(execOp a.eval ⟨some t,.range T y,ty,pos,after,guard⟩).run P w = .ok (.value (.pointer (some ⟨w.heap.size,0,none⟩))) (w.iter ⟨l.toArray⟩ 0):=by
    simp[execOp,he,run_range_string w T ⟨l.toArray⟩ hu]
   rw[hrun];have hr1:=hr.newBox (k:=s.nx+32*t) (bx := .it l 0) (o := .stringIter ⟨l.toArray⟩ 0) hk oA (fun b hb=>by
    have hb:(G.addBox (s.nx+32*t) w.heap.size).box (s.nx+32*t)=some b:=hb;rw[Gh.addBox_self]at hb;injection hb with hb;exact hb.symm)
    ⟨w.heap.size,Gh.addBox_self,pp _ _,fun o=>by
     cases hq:(G.addBox (s.nx+32*t) w.heap.size).imm w.heap.size o with
     |none=>rfl|some v=>
      have:=World.block_lt_of_cell? _ _ (hr.fin.mem.agree _ _ _ hq);simp at this⟩
   exact hN _ hx _ _ _ (gm (v := .ptr (s.nx+32*t) 0) hr1 oI ⟨w.heap.size,Gh.addBox_self,rfl⟩)
  ·cases h
 ·rename_i y t e1 e2;simp only at e1 e2;subst e1 e2;split at h
  ·rename_i b hy;split at h
   ·rename_i l p hb;cases ht:Nat.blt t s.n<;>rw[ht]at h<;>simp only[qT,qF,reduceCtorEq,qI]at h
    subst h;obtain⟨B,hB,he⟩:=bi hr hy;obtain⟨B',k1,k2,k3⟩:=hr.fin.mem.holds b _ hb;rw[hB]at k1;injection k1 with k1;subst k1
    refine er oC ?_
    unfold Oper.wp;cases hp:Nat.blt p l.length<;>rw[hp]at hx<;>simp only[qT,qF]at hx
    ·have hp':¬p<(⟨l.toArray⟩:ByteArray).size:=fun hlt=>by
      rw[il]at hlt;have:Nat.blt p l.length=true:=Nat.ble_eq_true_of_le hlt;rw[hp]at this;cases this
     have hrun:(execOp a.eval ⟨some t,.next y true,ty,pos,after,guard⟩).run P w = .ok (.value (.tuple #[.bool false])) w:=by
      simp[execOp,he,Instr.next,getObj,Sem.run,k2,hp']
     rw[hrun];exact hN _ hx _ _ _ (gm (v := .tup [.val (.bool false)]) hr (by simp only[St.add,ht,qT,List.nil_append]) ⟨_,rfl,rfl,trivial⟩)
    ·have hp':p<(⟨l.toArray⟩:ByteArray).size:=by
      rw[il];exact Nat.le_of_ble_eq_true hp
     have hlt:=(Array.getElem?_eq_some_iff.1 k2).1;have hrun:(execOp a.eval ⟨some t,.next y true,ty,pos,after,guard⟩).run P w = .ok (.value (.tuple #[.bool true,.int .i64 p,.int .i32 (d8 l p).1])) (w.putObj B (.stringIter ⟨l.toArray⟩ (p+(d8 l p).2))):=by
      simp[execOp,he,Instr.next,getObj,setObj,Sem.run,k2,hp',goInt,d8,World.putObj]
     rw[hrun];have hr1:=hr.setBox (bx' := .it l (p+(d8 l p).2)) (o := .stringIter ⟨l.toArray⟩ (p+(d8 l p).2)) hb (show G.at b (.it l p)=some B from hB) (fun c hc=>by
      have hc:G.box b=some c:=hc;rw[hB]at hc;exact(qJ hc).symm) ⟨B,hB,World.putObj_heap_same hlt,k3⟩ k3
     exact hN _ hx _ _ _ (gm (v := .tup [.val (.bool true),.int .i64 p,.int .i32 (d8 l p).1]) hr1 (by simp only[St.add,ht,qT,List.nil_append]) ⟨_,rfl,rfl,rfl,rfl,trivial⟩)
   ·cases h
  ·cases h
 ·rename_i src d y t e1 e2;simp only at e1 e2;subst e1 e2;split at h
  ·rename_i ds k n hs hd hy;cases ht:Nat.blt t s.n<;>rw[ht]at h<;>simp only[qT,qF,reduceCtorEq,qI]at h
   subst h;have he:a.eval y = .int k n:=jg hr hy;refine er oC ?_
   unfold Oper.wp;have hrun:(execOp a.eval ⟨some t,.convert src d y,ty,pos,after,guard⟩).run P w = .ok (.value (.string ⟨(l7 n).toArray⟩)) w:=by
    simp[execOp,he,convert,run_underlying hs,run_underlying hd,Conv.intToString,l7]
   rw[hrun];exact hN _ hx _ _ _ (gm (v := .str (l7 n)) hr (by simp[St.add,ht,qT,List.nil_append]) rfl)
  ·cases h
 ·cases h
end
def q3l{R:Type}(P:Program)(s:St)(o:Oper)(K:St->Option R):Option (Option R):=
 match o.op,o.dst with
 |.indexAddr T (.global g) i,some t=>match LC.glob g,P.underlying T with
  |some ⟨τ,l⟩,some (.array n E)=>match ee P E with
   |some sz=>bif Nat.beq sz τ.sz&&(Nat.ble l.length n&&Nat.blt t s.n) then
     match s.evy i with
     |some (.int _ j)=>some (match am l j with|some y=>K { s with fr:=(t,.rop (τ.enc y))::s.fr }|none=>none)
     |some (.byte c)=>some (match l[c.toNat]? with|some y=>K { s with fr:=(t,.rop (τ.enc y))::s.fr }|none=>none)
     |_=>none
    else none
   |none=>none
  |_,_=>none
 |_,_=>none
section
variable{P:Program}{vhe:World}{vg8:Gh}{vhb:List (Nat×ag)}{G:Gh}{s:St}{a:Act}{w:World}
def z1a{R:Type}(hr:ai vhe vg8 vhb G s a w){o:Oper}{K:St->Option R}{r:Option R}{x:R}(h:q3l P s o K=some r)(hx:r=some x){N:Act->World->Prop}(hN:∀s',K s'=some x->∀G' a' w',ai vhe vg8 vhb G' s' a' w'->N a' w'):fj P o a w N:=by
 obtain⟨dst,op,ty,pos,after,guard⟩:=o;unfold q3l at h;split at h
 ·rename_i T g i t e1 e2;simp only at e1 e2;subst e1 e2;split at h
  ·rename_i τ l n E hg hu;split at h
   ·rename_i sz hsz;cases hb:Nat.beq sz τ.sz&&(Nat.ble l.length n&&Nat.blt t s.n)<;>rw[hb]at h<;>simp only[qT,qF,reduceCtorEq]at h
    simp only[qA]at hb;obtain⟨b1,b2,b3⟩:=hb;have b1:=qN b1;have b2:=Nat.le_of_ble_eq_true b2;subst b1;have key:∀(j:Nat)(kk:IntKind)(y:τ.den),a.eval i = .int kk (j:Int)->l[j]? = some y->K { s with fr:=(t,.rop (τ.enc y))::s.fr }=some x->fj P ⟨some t,.indexAddr T (.global g) i,ty,pos,after,guard⟩ a w N:=by
     intro j kk y hi hy hk;have hj:j<n:=Nat.lt_of_lt_of_le (List.getElem?_eq_some_iff.1 hy).1 b2;have hrun:(execOp a.eval ⟨some t,.indexAddr T (.global g) i,ty,pos,after,guard⟩).run P w = .ok (.value (.pointer (some ⟨g,j*τ.sz,none⟩))) w:=by
      have hge:a.eval (.global g) = .pointer (some ⟨g,0,none⟩):=by simp[Act.eval]
      simp[execOp,hge,hi,Instr.indexAt,asIntOf,bh hu,gu hsz,lj,Instr.sureAddr,hj]
     refine er oC ?_
     unfold Oper.wp;rw[hrun];exact hN _ hk _ _ _ (gm (v := .rop (τ.enc y)) hr (by simp[St.add,b3,qT,List.nil_append]) ⟨g,j*τ.sz,rfl,qj.2 (hr.fin.mem.tab.1 g τ l hg j y hy)⟩)
    split at h
    ·rename_i kk j hi;have h:=qJ h;rw[← h]at hx;split at hx
     ·rename_i y hy;have hie:a.eval i = .int kk j:=jg hr hi;obtain⟨h1,h2⟩:=qhx hy;exact key j.toNat kk y (by rw[Int.toNat_of_nonneg h1];exact hie) h2 hx
     ·cases hx
    ·rename_i c hi;have h:=qJ h;rw[← h]at hx;split at hx
     ·rename_i y hy;exact key c.toNat .u8 y (jg hr hi) hy hx
     ·cases hx
    ·cases h
   ·cases h
  ·cases h
 ·cases h
end
def qaa(s:List UInt8):Nat->Nat->List Int|0,_=>[]|f+1,i=>bif Nat.blt i s.length then((d8 s i).1:Int)::qaa s f (i+(d8 s i).2) else[]
def ge(s:List UInt8):List Int:=qaa s s.length 0
def q1u{R:Type}(P:Program)(s:St)(o:Oper)(K:St->Option R):Option (Option R):=
 match o.op,o.dst with
 |.makeSlice T x y,some t=>match P.underlying T with
  |some (.slice E)=>match q3r P E,w7 P E,ee P E,s.evy x,s.evy y with
   |some τ,some [z0],some 1,some (.int _ n),some (.int _ m)=>match τ.zero1 with
    |some z=>bif rx τ z0&&mb P E&&a7 (s.nx+32*t) s.hp&&Nat.blt t s.n then
      some (bif decide (0<=n/\n=m/\n<=4294967296) then K { s with fr:=(t,.own (s.nx+32*t))::s.fr,hp:=(s.nx+32*t,.row τ (List.replicate n.toNat z) E)::s.hp } else none) else none
    |none=>none
   |_,_,_,_,_=>none
  |_=>none
 |.convert src dst x,some t=>match P.underlying src,P.underlying dst with
  |some .string,some (.slice E)=>match P.underlying E,s.ev x with
   |some (.int .i32),some (.str b)=>bif a7 (s.nx+32*t) s.hp&&Nat.blt t s.n then
     some (bif decide (b.length<=4294967296) then K { s with fr:=(t,.own (s.nx+32*t))::s.fr,hp:=(s.nx+32*t,.row (.int .i32) (ge b) E)::s.hp } else none) else none
   |_,_=>none
  |some (.slice E),some .string=>match P.underlying E,s.ev x with
   |some (.int .i32),some v=>match qim s v with|some l=>bif Nat.blt t s.n then some (K { s with fr:=(t,.str (ik l))::s.fr }) else none|none=>none
   |_,_=>none
  |_,_=>none
 |.slice T x lo (some hi) (some mx),some t=>match P.underlying T with
  |some (.slice E)=>match ee P E,ir s lo,s.evy hi,s.evy mx,s.ev x with
   |some sz,some a,some (.int _ b),some (.int _ c),some (.sl τ l)=>bif Nat.beq τ.sz sz&&Nat.blt t s.n then
     some (bif decide (0<=a.getD 0/\a.getD 0<=b/\b<=c/\c<=(l.length:Int)) then K { s with fr:=(t,.sl τ ((l.drop (a.getD 0).toNat).take (b.toNat-(a.getD 0).toNat)))::s.fr } else none) else none
   |_,_,_,_,_=>none
  |_=>none
 |_,_=>none
def zkr(s:List UInt8):∀(f i:Nat)(acc:Array Value),Conv.runesFrom ⟨s.toArray⟩ f i acc=acc++((qaa s f i).map (Value.int .i32)).toArray
 |0,i,acc=>by simp[Conv.runesFrom,qaa]|f+1,i,acc=>by
  unfold Conv.runesFrom qaa;rw[il];by_cases h:i<s.length
  ·have hb:Nat.blt i s.length=true:=Nat.ble_eq_true_of_le h;rw[qX h,hb];simp;rw[show Utf8.decode (⟨s.toArray⟩:ByteArray) i=d8 s i from rfl]
   rw[zkr s f];simp
  ·have hb:Nat.blt i s.length=false:=by
    cases hq:Nat.blt i s.length
    ·rfl
    ·exact absurd (Nat.le_of_ble_eq_true hq) h
   rw[qW h,hb];simp
def q25(s:List UInt8):∀(f i:Nat),(qaa s f i).length<=f
 |0,_=>wF _|f+1,i=>by
  unfold qaa;cases Nat.blt i s.length
  ·simp
  ·simp;have:=q25 s f (i+(d8 s i).2);omega
def zgg(G:Gh):∀(l:List Int),ak (List.flatMap (β:=AV) (Ty.int .i32).enc l) G (l.map (Value.int .i32))
 |[]=>trivial|_::l=>⟨rfl,zgg G l⟩
section
variable{P:Program}{vhe:World}{vg8:Gh}{vhb:List (Nat×ag)}{G:Gh}{s:St}{a:Act}{w:World}
def z0u(w:World)(o:Obj):cg w (w.drew.alloc o):=⟨rfl,rfl,rfl,oC,fun k hk _=>Below.heap_alloc w.drew _ k hk⟩
def vg2{τ:Ty}{z:τ.den}{x:AV}{G G':Gh}{v:Value}(h:rx τ x=true)(hz:τ.zero1=some z)(hr:aj x G v)(n:Nat):ak ((List.replicate n z).flatMap τ.enc) G' (List.replicate n v):=by
 induction n with
 |zero=>trivial|succ n ih=>
  rw[List.replicate_succ,List.replicate_succ,List.flatMap_cons];exact ub (vs:=[v]) (zpw h hz hr) ih
def zxc{R:Type}(hr:ai vhe vg8 vhb G s a w){o:Oper}{K:St->Option R}{r:Option R}{x:R}(h:q1u P s o K=some r)(hx:r=some x){N:Act->World->Prop}(hN:∀s',K s'=some x->∀G' a' w',ai vhe vg8 vhb G' s' a' w'->N a' w'):fj P o a w N:=by
 obtain⟨dst,op,ty,pos,after,guard⟩:=o;unfold q1u at h;split at h
 ·rename_i T y1 y2 t e1 e2;simp only at e1 e2;subst e1 e2;split at h
  ·rename_i E hu;split at h
   ·rename_i τ z0 kn n km m hτ hz0 hs1 hn hm;split at h
    ·rename_i z hz;cases hb:rx τ z0&&mb P E&&a7 (s.nx+32*t) s.hp&&Nat.blt t s.n<;>rw[hb]at h<;>simp only[qT,qF,reduceCtorEq,qI]at h
     simp only[qA]at hb;subst h;cases hd:decide (0<=n/\n=m/\n<=4294967296)<;>rw[hd]at hx<;>simp only[qT,qF,reduceCtorEq]at hx
     obtain⟨h0,rfl,h2⟩:=of_decide_eq_true hd;have en:a.eval y1 = .int kn n:=jg hr hn;have em:a.eval y2 = .int km n:=jg hr hm;obtain⟨i,zv,hi,hzv,q1,_,q3,q4,q5⟩:=qjj hb.1.1.2 hs1;unfold w7 at hz0;rw[hi]at hz0;simp only[hzv,qI]at hz0;obtain⟨v,hv,hzo⟩:∃v,zv.cells.toList=[v]/\z0=lz v:=by
      cases hq:zv.cells.toList with
      |nil=>rw[hq]at hz0;cases hz0
      |cons v l=>rw[hq]at hz0;cases l with|nil=>simp only[qc2,List.cons.injEq,and_true]at hz0;exact⟨v,rfl,hz0.symm⟩|cons _ _=>simp[qc2]at hz0
     have hvc:zv.cells=#[v]:=by rw[← Array.toArray_toList (xs:=zv.cells),hv]
     have hv1:v.oneCell'=true:=q4 v (by rw[hv];exact List.mem_singleton.2 rfl)
     have hbytes:(i.bytes:Int)*n<=281474976710656:=by
      have:(i.bytes:Int)*n<=32768*4294967296:=Int.mul_le_mul oA h2 h0 oA
      omega
     have hr1:=run_make (P:=P) w T E i zv hu hi hzv kn km n n h0 (Int.le_refl _) hbytes oA
     have hmc:madeCells zv.cells (n.toNat*i.size)=Array.replicate n.toNat v:=by
      rw[q5,Nat.mul_one,hvc];apply Array.ext
      ·simp[madeCells]
      ·intro j h1 h2;simp[madeCells,Nat.mod_one]
     rw[hmc]at hr1;have hsz:τ.sz=1:=qcu (q63 hz);have hz0v:aj z0 G v:=by rw[hzo];exact qov G v
     have ac:(List.replicate n.toNat z).length=n.toNat:=List.length_replicate;obtain⟨G',hG⟩:=qil (τ:=τ) (l:=List.replicate n.toNat z) (E:=E) (ad:=some ⟨w.heap.size,0,none⟩) (c:=n.toNat) (us:=List.replicate n.toNat v) (w':=w.alloc (.cells (Array.replicate n.toNat v) E)) hr hb.1.2 (qip _ _)
      ⟨by rw[ac,hsz];simp,.inr ⟨w.heap.size,Array.replicate n.toNat v,(0,0),rfl,pp _ _,.inl rfl,by rw[ac];exact wF _,by simp only[maxLen];omega,by simp[hsz],by rw[ac,hsz];simp,fun u hu=>by
       rw[Array.toList_replicate]at hu;rw[(List.mem_replicate.1 hu).2];exact hv1⟩⟩ (vg2 hb.1.1.1 hz hz0v _) (fun b hb=>by injection hb with hb;simp at hb;omega)
      (s':={ s with fr:=(t,.own (s.nx+32*t))::s.fr,hp:=(s.nx+32*t,.row τ (List.replicate n.toNat z) E)::s.hp }) oM
     refine er oC ?_
     unfold Oper.wp;rw[show(execOp a.eval ⟨some t,.makeSlice T y1 y2,ty,pos,after,guard⟩).run P w = .ok (.value (.slice (some ⟨w.heap.size,0,none⟩) n.toNat n.toNat)) (w.alloc (.cells (Array.replicate n.toNat v) E)) by simp[execOp,en,em,hr1]]
     rw[ac]at hG;exact hN _ hx _ _ _ hG
    ·cases h
   ·cases h
  ·cases h
 ·rename_i src dst y t e1 e2;simp only at e1 e2;subst e1 e2;split at h
  ·rename_i E hs hd;split at h
   ·rename_i b he hy;cases hb:a7 (s.nx+32*t) s.hp&&Nat.blt t s.n<;>rw[hb]at h<;>simp only[qT,qF,reduceCtorEq,qI]at h
    simp only[qA]at hb;subst h;cases hdd:decide (b.length<=4294967296)<;>rw[hdd]at hx<;>simp only[qT,qF,reduceCtorEq]at hx
    have hbl:=of_decide_eq_true hdd;have hev:a.eval y = .string ⟨b.toArray⟩:=bi hr hy;have hrf:Conv.runesFrom (⟨b.toArray⟩:ByteArray) (⟨b.toArray⟩:ByteArray).size 0 #[]=((ge b).map (Value.int .i32)).toArray:=by
     rw[zkr,il];simp[ge]
    have hlr:(ge b).length<=b.length:=q25 b _ _;have hrun:=run_runes_of_string (P:=P) w src dst E (⟨b.toArray⟩:ByteArray) hs hd he (by rw[hrf];simp;omega)
    rw[hrf]at hrun;simp only[List.size_toArray,wC]at hrun;have hcap:(ge b).length<=grownCap w (ge b).length 0 E:=grownCap_ge _ _ _ _;have hcap2:grownCap w (ge b).length 0 E<=maxLen:=grownCap_le_maxLen _ _ _ _ (by simp only[maxLen];omega)
    obtain⟨G',hG⟩:=qil (τ := .int .i32) (l:=ge b) (E:=E) (ad:=some ⟨w.heap.size,0,none⟩) (c:=grownCap w (ge b).length 0 E) (us:=(ge b).map (Value.int .i32)) (w':=w.drew.alloc (.cells (((ge b).map (Value.int .i32)).toArray++Array.replicate (grownCap w (ge b).length 0 E-(ge b).length) (.int .i32 0)) E)) hr hb.1 (z0u _ _)
     ⟨by rw[wC];exact(Nat.mul_one _).symm,.inr ⟨w.heap.size,_,(0,0),rfl,pp w.drew _,.inl rfl,hcap,hcap2,by rw[show(Ty.int IntKind.i32).sz=1 from rfl,Nat.mul_one,Array.size_append,Array.size_replicate,List.size_toArray,wC];omega,by rw[show(Ty.int IntKind.i32).sz=1 from rfl,Nat.mul_one,Array.toList_append,show List.length (α:=(Ty.int IntKind.i32).den) (ge b)=((ge b).map (Value.int .i32)).length from(wC _).symm];exact List.take_left' rfl,fun u hu=>by
      simp only[Array.toList_append,wA,List.mem_map,Array.toList_replicate,List.mem_replicate]at hu;rcases hu with⟨c,_,rfl⟩|⟨_,rfl⟩<;>rfl⟩⟩ (zgg _ _) (fun b hb=>by injection hb with hb;simp at hb;omega)
     (s':={ s with fr:=(t,.own (s.nx+32*t))::s.fr,hp:=(s.nx+32*t,.row (.int .i32) (ge b) E)::s.hp }) oM
    refine er oC ?_
    unfold Oper.wp;rw[show(execOp a.eval ⟨some t,.convert src dst y,ty,pos,after,guard⟩).run P w = .ok (.value (.slice (some ⟨w.heap.size,0,none⟩) (ge b).length (grownCap w (ge b).length 0 E))) (w.drew.alloc (.cells (((ge b).map (Value.int .i32)).toArray++Array.replicate (grownCap w (ge b).length 0 E-(ge b).length) (.int .i32 0)) E)) by simp[execOp,hev,hrun]]
    exact hN _ hx _ _ _ hG
   ·cases h
  ·rename_i E hs hd;split at h
   ·rename_i v he hy;split at h
    ·rename_i l hl;cases ht:Nat.blt t s.n<;>rw[ht]at h<;>simp only[qT,qF,reduceCtorEq,qI]at h
     subst h;have hsrc:=zks hl;have hrun:(convert src dst (a.eval y)).run P w = .ok (.string ⟨(ik l).toArray⟩) w:=by
      rcases qin hr (bi hr hy) hsrc with⟨b',rfl,_⟩|⟨ad,c,us,he1,h1,h2,h3⟩
      ·simp[qim]at hl
      ·rw[he1];have hus:=q2y h1
       cases ad with
       |none=>
        have:l=[]:=by
         rcases h3 with h3|⟨_,_,h3,_⟩
         ·rw[hus]at h3;simpa using h3
         ·cases h3
        subst this;rw[run_convert_runes_nil w src dst E _ c hs he hd];rfl
       |some ad=>
        have hlc:=qc4 (P:=P) (w:=w) (ad:=ad) h3;have ac:us.length=l.length:=by rw[hus];simp
        rw[ac,hus]at hlc;rw[run_convert_runes_string w src dst E _ _ _ hs he hd,run_runesToString w ad l.length c l hlc,zkq]
     refine er oC ?_
     unfold Oper.wp;rw[show(execOp a.eval ⟨some t,.convert src dst y,ty,pos,after,guard⟩).run P w = .ok (.value (.string ⟨(ik l).toArray⟩)) w by simp[execOp,hrun]]
     exact hN _ hx _ _ _ (gm (v := .str (ik l)) hr (by simp only[St.add,ht,qT,List.nil_append]) rfl)
    ·cases h
   ·cases h
  ·cases h
 ·rename_i T y lo hi mx t e1 e2;simp only at e1 e2;subst e1 e2;split at h
  ·rename_i E hu;split at h
   ·rename_i sz lo' kb b kc c τ l hsz hlo hhi hmx hy;cases hb:Nat.beq τ.sz sz&&Nat.blt t s.n<;>rw[hb]at h<;>simp only[qT,qF,reduceCtorEq,qI]at h
    simp only[qA]at hb;subst h;cases hdd:decide (0<=lo'.getD 0/\lo'.getD 0<=b/\b<=c/\c<=(l.length:Int))<;>rw[hdd]at hx<;>simp only[qT,qF,reduceCtorEq]at hx
    obtain⟨g0,g1,g2,g3⟩:=of_decide_eq_true hdd;have hq:=qN hb.1;subst hq;obtain⟨ad,cp,hv,hc,hl⟩:=bi hr hy;have eb:a.eval hi = .int kb b:=jg hr hhi;have ec:a.eval mx = .int kc c:=jg hr hmx;have hbounds:(Instr.sliceBounds true l.length cp (lo.map a.eval) (some (a.eval hi)) (some (a.eval mx))).run P w = .ok ((lo'.getD 0).toNat,b.toNat,c.toNat) w:=by
     rcases pi hr hlo with⟨rfl,rfl⟩|⟨xo,kx,m,rfl,rfl,hxo⟩
     ·simp[Instr.sliceBounds,eb,ec,p9 (P:=P) (w:=w) (show 0<=c by omega) (show c<=(cp:Int) by omega),p9 (P:=P) (w:=w) (show 0<=b by omega) (show b<=(c.toNat:Int) by omega)]
     ·simp only[Option.getD_some]at g0 g1;simp[Instr.sliceBounds,eb,ec,hxo,p9 (P:=P) (w:=w) (show 0<=c by omega) (show c<=(cp:Int) by omega),p9 (P:=P) (w:=w) (show 0<=b by omega) (show b<=(c.toNat:Int) by omega),p9 (P:=P) (w:=w) g0 (show m<=(b.toNat:Int) by omega)]
    generalize lo'.getD 0=i0 at *
    have hrun:(Instr.sliceAt T (a.eval y) (lo.map a.eval) (some (a.eval hi)) (some (a.eval mx))).run P w = .ok (.slice (if c.toNat=i0.toNat then ad else ad.map (·.add (i0.toNat*τ.sz))) (b.toNat-i0.toNat) (c.toNat-i0.toNat)) w:=by
     simp[Instr.sliceAt,Instr.slice,bh hu,hv,hbounds,gu hsz]
    refine er oC ?_
    unfold Oper.wp
    rw[show(execOp a.eval ⟨some t,.slice T y lo (some hi) (some mx),ty,pos,after,guard⟩).run P w = .ok (.value (.slice (if c.toNat=i0.toNat then ad else ad.map (·.add (i0.toNat*τ.sz))) (b.toNat-i0.toNat) (c.toNat-i0.toNat))) w by simp[execOp,hrun]]
    refine hN _ hx _ _ _ (gm (v := .sl τ ((l.drop i0.toNat).take (b.toNat-i0.toNat))) hr (by simp[St.add,hb.2,qT,List.nil_append]) ?_)
    have ac:((l.drop i0.toNat).take (b.toNat-i0.toNat)).length=b.toNat-i0.toNat:=by simp;omega
    refine⟨_,_,by rw[ac],by rw[ac];omega,?_⟩
    rcases hl with rfl|⟨B,o,rfl,hcells⟩
    ·exact .inl oC
    ·by_cases hci:c.toNat=i0.toNat
     ·exact .inl (List.eq_nil_of_length_eq_zero (by rw[ac];omega))
     ·refine .inr ⟨B,o+i0.toNat*τ.sz,by rw[qW hci];simp[lj],fun k y hy => ?_⟩
      rw[List.getElem?_take]at hy;split at hy
      ·rw[List.getElem?_drop]at hy;have:=hcells _ _ hy
       rwa [show o+i0.toNat*τ.sz+k*τ.sz=o+(i0.toNat+k)*τ.sz by rw[Nat.add_mul];omega]
      ·cases hy
   ·cases h
  ·cases h
 ·cases h
end
def zkv(P:Program)(T:TypeId):Bool:=match P.underlying T with
 |some (.struct fs)=>match fs.toList with
  |[f,g]=>match P.underlying f.type,P.underlying g.type with|some (.pointer T'),some (.slice _)=>Nat.beq T' T|_,_=>false
  |_=>false
 |_=>false
def qn8:AV->Bool|.val (.pointer none)=>true|_=>false
def zit(n:Nat):List AV->List AV|[]=>[]|x::cs=>(bif qn8 x then .pn n else x)::cs
def q26(P:Program)(s:St)(o:Oper):Option St:=
 match o.op,o.dst with
 | .alloc T,some t=>bif zkv P T then(match oy P s .none o with
  |some ([],s1)=>match af s1.hp (s.nx+32*t) with|some (.cells cs T')=>some { s1 with hp:=(s.nx+32*t,.cells (zit (s.nx+32*t) cs) T')::s1.hp }|_=>none
  | _=>none) else none
 |_,_=>none
section
variable{P:Program}{vhe:World}{vg8:Gh}{vhb:List (Nat×ag)}{G:Gh}{s:St}{a:Act}{w:World}
def ai.rebox{n:Nat}{bx bx':ag}(hr:ai vhe vg8 vhb G s a w)(h:af s.hp n=some bx)(hat:G.at n bx'=G.at n bx)(hok:cy G w n bx') :
  ai vhe vg8 vhb G { s with hp:=(n,bx')::s.hp } a w:=by
 have key:∀m b,af ((n,bx')::s.hp) m=some b->(m=n/\b=bx')\/af s.hp m=some b:=fun m b hh=>by
  simp[af]at hh;cases hb:Nat.beq n m
  ·rw[hb]at hh;exact .inr hh
  ·rw[hb]at hh;simp at hh;exact .inl ⟨(qN hb).symm,hh.symm⟩
 have old:∀m b,af ((n,bx')::s.hp) m=some b->∃b0,af s.hp m=some b0/\G.at m b0=G.at m b:=fun m b hh=>by
  rcases key m b hh with⟨rfl,rfl⟩|h1
  ·exact⟨bx,h,hat.symm⟩
  ·exact⟨b,h1,rfl⟩
 refine⟨hr.defers,hr.size,hr.frame,fun m hm hl=>hr.fresh m hm ?_,⟨⟨hr.fin.mem.agree,hr.fin.mem.one,fun m b hh => ?_,fun m m' b b' c h1 h2 h3 h4 => ?_,hr.fin.mem.tab⟩,hr.fin.bel,hr.fin.imm_le,hr.fin.imm_new,fun m b c h1 h2 => ?_,hr.fin.keep,hr.fin.keepOwn⟩⟩
 ·simp[af]at hl;cases hb:Nat.beq n m
  ·rw[hb]at hl;exact hl
  ·rw[hb]at hl;cases hl
 ·rcases key m b hh with⟨rfl,rfl⟩|h1
  ·exact hok
  ·exact hr.fin.mem.holds m b h1
 ·obtain⟨c1,k1,e1⟩:=old m b h1;obtain⟨c2,k2,e2⟩:=old m' b' h2;exact hr.fin.mem.apart m m' c1 c2 c k1 k2 (e1.trans h3) (e2.trans h4)
 ·obtain⟨c1,k1,e1⟩:=old m b h1;exact hr.fin.base m c1 c k1 (e1.trans h2)
def zwe{x:AV}(h:qn8 x=true):x = .val (.pointer none):=by
 unfold qn8 at h;split at h
 ·rfl
 ·cases h
def zzk{n B:Nat}(hB:G.box n=some B):∀{cs:List AV}{vs:List Value},ak cs G vs->ak (zit n cs) G vs
 |[],[],_=>trivial|x::cs,v::vs,⟨h1,h2⟩=>by
  refine⟨?_,h2⟩;cases hb:qn8 x
  ·exact h1
  ·have:=zwe hb;subst this;exact⟨B,hB,.inl h1⟩
 |[],_::_,h=>h.elim|_::_,[],h=>h.elim
def zz5(hr:ai vhe vg8 vhb G s a w){o:Oper}{s':St}(h:q26 P s o=some s'){N:Act->World->Prop}(hN:∀G' a' w',ai vhe vg8 vhb G' s' a' w'->N a' w'):fj P o a w N:=by
 unfold q26 at h;split at h
 ·rename_i T t _ _;cases hs:zkv P T<;>rw[hs]at h<;>simp at h
  split at h
  ·rename_i s1 ha;split at h
   ·rename_i cs T' hl;simp at h;subst h;refine qmi hr ha trivial fun G' a' w' hr'=>hN G' a' w' ?_
    obtain⟨B,vs,h1,h2,h3,h4,h5⟩:=hr'.fin.mem.holds _ _ hl;exact hr'.rebox hl rfl ⟨B,vs,h1,h2,zzk h1 h3,h4,h5⟩
   ·cases h
  ·cases h
 ·cases h
end
def q1b:Operand->Bool|.const .nilIface=>true|_=>false
def qm6(P:Program)(s:St)(t:TypeId)(x y:Operand):Option Bool:=
 match P.underlying t with
 | some (.interface _)=>bif q1b y then(match s.ev x with
  |some (.val .nilIface)=>some true|some (.iface _ _)=>some false| _=>none) else none
 |_=>none
def zhk(P:Program)(T:TypeId):Bool:=match P.underlying T with
 |some (.array _ E)=>match P.underlying E with|some .string=>true|some (.struct _)=>true|_=>false
 |_=>false
def qz6(P:Program)(s:St)(o:Oper):Option St:=
 match o.op,o.dst with
 | .binOp op t x y _,some tt=>bif Nat.blt tt s.n then(match op with
  |.eql=>match qm6 P s t x y with|some b=>some { s with fr:=(tt,.val (.bool b))::s.fr }|none=>none
  |.neq=>match qm6 P s t x y with|some b=>some { s with fr:=(tt,.val (.bool (!b)))::s.fr }|none=>none
  | _=>none) else none
 | .store T (.tmp t) _,none=>bif zhk P T&&Nat.blt t s.n then(match af s.fr t with
  |some (.ptr b 0)=>match oy P s .none o with
   |some ([],s1)=>match af s1.hp b,af s1.fr t with|some (.cells cs _),some (.ptr b' 0)=>bif Nat.beq b' b&&Nat.blt t s1.n then(bif allData (cs.map AV.sym) then some { s1 with fr:=(t,.rop (cs.map AV.sym))::s1.fr,hp:=(b,.dead)::s1.hp } else none) else none|_,_=>none
   |_=>none
  | _=>none) else none
 |_,_=>none
section
variable{P:Program}{vhe:World}{vg8:Gh}{vhb:List (Nat×ag)}{G:Gh}{s:St}{a:Act}{w:World}
def ai.ropBox(hr:ai vhe vg8 vhb G s a w){b t:Nat}{cs:List AV}{T:TypeId}(hb:af s.hp b=some (.cells cs T))(hd:allData (cs.map AV.sym)=true)(ht:af s.fr t=some (.ptr b 0)) :
  ∃G',ai vhe vg8 vhb G' { s with fr:=(t,.rop (cs.map AV.sym))::s.fr,hp:=(b,.dead)::s.hp } a w:=by
 obtain⟨B,vs,h1,h2,h3,h4,h5⟩:=hr.fin.mem.holds _ _ hb
 let G':Gh:={ imm:=fun c o=>if c=B then vs[o]? else G.imm c o,box:=G.box,own:=G.own }
 have hi:∀c o v,G.imm c o=some v->G'.imm c o=some v:=fun c o v h=>by
  show(if c=B then vs[o]? else G.imm c o)=some v
  split
  ·rename_i e;subst e;rw[h5]at h;cases h
  ·exact h
 have hB:∀o,G'.imm B o=vs[o]? := fun o=>qX rfl
 have hne:∀c,c≠B->∀o,G'.imm c o=G.imm c o:=fun c h o=>qW h
 have hle:G.le G':=⟨hi,fun _ _ h=>h,fun _ _ h=>h⟩
 have hat:∀n bx,G'.at n bx=G.at n bx:=fun n bx=>by cases bx<;>rfl
 have hatB:G.at b (.cells cs T)=some B:=h1;have hlook:∀n bx,af ((b,ag.dead)::s.hp) n=some bx->bx = .dead\/(n≠b/\af s.hp n=some bx):=fun n bx h=>by
  simp[af]at h;cases hq:Nat.beq b n
  ·rw[hq]at h;exact .inr ⟨fun e=>by subst e;simp at hq,h⟩
  ·rw[hq]at h;simp at h;exact .inl h.symm
 have hother:∀n bx c,n≠b->af s.hp n=some bx->G.at n bx=some c->(∀o,G.imm c o=none)->∀o,G'.imm c o=none:=fun n bx c hn k1 k2 k3 o=>by
  by_cases e:c=B
  ·subst e;exact absurd (hr.fin.mem.apart n b bx _ _ k1 hb k2 hatB) hn
  ·rw[hne c e];exact k3 o
 have hcell:∀o v,vs[o]? = some v->w.cell? ⟨B,o,none⟩=some v:=fun o v h=>cell_of_heap h2 (by simpa using h)
 refine⟨G',⟨hr.defers,hr.size,fun i x hx => ?_,fun m hm hl => ?_,⟨⟨fun c o v h => ?_,fun c o v h => ?_,fun n bx hn => ?_,fun n m bx bx' c k1 k2 k3 k4 => ?_,LC.mono hi (fun _ _ _ _=>rfl) hr.fin.mem.tab⟩,hr.fin.bel,fun c o v h=>hi _ _ _ (hr.fin.imm_le c o v h),fun c o v h => ?_,fun n bx c k1 k2 => ?_,hr.fin.keep,hr.fin.keepOwn⟩⟩⟩
 ·simp[af]at hx;cases hq:Nat.beq t i
  ·rw[hq]at hx;obtain⟨v,k1,k2⟩:=hr.frame i x hx;exact⟨v,k1,k2.le hle⟩
  ·rw[hq]at hx;simp at hx;subst hx;have:=qN hq;subst this;obtain⟨v,k1,B',k2,k3⟩:=hr.frame t _ ht;rw[h1]at k2;injection k2 with k2;subst k2
   refine⟨v,k1,B,0,k3,q2r hi (q2u hd (qow h3)) fun i u hu => ?_⟩
   rw[wO,hB];simpa using hu
 ·refine hr.fresh m hm ?_;simp[af]at hl;cases hq:Nat.beq b m
  ·rw[hq]at hl;exact hl
  ·rw[hq]at hl;cases hl
 ·by_cases e:c=B
  ·subst e;rw[hB]at h;exact hcell o v h
  ·rw[hne c e]at h;exact hr.fin.mem.agree c o v h
 ·by_cases e:c=B
  ·subst e;rw[hB]at h;exact h4 v (by obtain⟨k,e⟩:=Array.getElem?_eq_some_iff.1 h;rw[← e];simp)
  ·rw[hne c e]at h;exact hr.fin.mem.one c o v h
 ·rcases hlook n bx hn with rfl|⟨hnb,k0⟩
  ·trivial
  ·have hb0:=hr.fin.mem.holds n bx k0;have ho:=hother n bx
   cases bx with
   |cells cs T=>
    obtain⟨C,vs,q1,q2,q3,q4,q5⟩:=hb0;exact⟨C,vs,q1,q2,q3.le hle,q4,ho C hnb k0 (by simp[Gh.at,q1]) q5⟩
   |loop st pe f j fr ps tag D=>
    obtain⟨C,tmps,DB,q1,q2,q3,q4,q5,q6⟩:=hb0;exact⟨C,tmps,DB,q1,q2,q3,q4,fun i x hx=>by obtain⟨v,r1,r2⟩:=q5 i x hx;exact⟨v,r1,r2.le hle⟩,ho C hnb k0 (by simp[Gh.at,q1]) q6⟩
   |dfr=>
    obtain⟨C,q1,q2,q3⟩:=hb0;exact⟨C,q1,q2,ho C hnb k0 (by simp[Gh.at,q1]) q3⟩
   |it s0 p0=>
    obtain⟨C,q1,q2,q3⟩:=hb0;exact⟨C,q1,q2,ho C hnb k0 (by simp[Gh.at,q1]) q3⟩
   |row τ1 l1 E1=>
    obtain⟨ad,c,q1,q3⟩:=hb0;refine⟨ad,c,q1,?_⟩;rcases q3 with q3|⟨g,vs,fz,r1,r2,r3,r4,r5,r6,r7,r8,r9⟩
    ·exact .inl q3
    ·exact .inr ⟨g,vs,fz,r1,r2,r3,r4,r5,r6,ak.data_le hi r7,r8,ho g hnb k0 (by subst r1;simp[Gh.at,q1]) r9⟩
   |dead=>trivial
 ·rcases hlook n bx k1 with rfl|⟨hn,j1⟩
  ·cases k3
  ·rcases hlook m bx' k2 with rfl|⟨hm,j2⟩
   ·cases k4
   ·rw[hat]at k3 k4;exact hr.fin.mem.apart n m bx bx' c j1 j2 k3 k4
 ·by_cases e:c=B
  ·subst e;exact .inr (hr.fin.base b _ _ hb hatB)
  ·rw[hne c e]at h;exact hr.fin.imm_new c o v h
 ·rcases hlook n bx k1 with rfl|⟨hn,j1⟩
  ·cases k2
  ·rw[hat]at k2;exact hr.fin.base n bx c j1 k2
def zfy{t:TypeId}{x y:Operand}{p:String}{b:Bool}(hx:∀v,s.ev x=some v->aj v G (a.eval x))(h:qm6 P s t x y=some b) :
  (∀q:Unit,(do eqGuard .eql t x y (a.eval x) (a.eval y);binOp .eql t (a.eval x) (a.eval y):Sem Value).run P w = .ok (.bool b) w) /\
  (do eqGuard .neq t x y (a.eval x) (a.eval y);binOp .neq t (a.eval x) (a.eval y):Sem Value).run P w = .ok (.bool (!b)) w:=by
 unfold qm6 at h;split at h
 ·rename_i ms hu;cases hy:q1b y<;>rw[hy]at h<;>simp at h
  have hy:y = .const .nilIface:=by
   unfold q1b at hy;split at hy
   ·rfl
   ·cases hy
  subst hy;have hye:a.eval (.const .nilIface) = .nilIface:=rfl;have q1:∀d,(Op.equalIn (d+1) t .nilIface .nilIface).run P w = .ok true w:=fun d=>by simp[Op.equalIn,bh hu]
  have q2:∀d t' v,(Op.equalIn (d+1) t (.iface t' v) .nilIface).run P w = .ok false w:=fun d t' v=>by simp[Op.equalIn,bh hu]
  have eq1:(Op.equal t .nilIface .nilIface).run P w = .ok true w:=q1 9999;have eq2:∀t' v,(Op.equal t (.iface t' v) .nilIface).run P w = .ok false w:=q2 9999;split at h
  ·rename_i e;simp at h;subst h;have:=hx _ e;simp[aj]at this;rw[this,hye];constructor<;>simp[eqGuard,binOp,eq1]
  ·rename_i e;simp at h;subst h;obtain⟨u,hu2,_⟩:=hx _ e;rw[hu2,hye];constructor<;>simp[eqGuard,binOp,eq2]
  ·cases h
 ·cases h
def zt0(hr:ai vhe vg8 vhb G s a w){o:Oper}{s':St}(h:qz6 P s o=some s'){N:Act->World->Prop}(hN:∀G' a' w',ai vhe vg8 vhb G' s' a' w'->N a' w'):fj P o a w N:=by
 obtain⟨dst,op,ty,pos,after,guard⟩:=o;unfold qz6 at h;split at h
 ·rename_i op t x y p tt e1 e2;simp only at e1 e2;subst e1 e2;cases hb:Nat.blt tt s.n<;>rw[hb]at h<;>simp only[qT,qF,reduceCtorEq]at h
  have go:∀(q:Bool),(do eqGuard op t x y (a.eval x) (a.eval y);binOp op t (a.eval x) (a.eval y):Sem Value).run P w = .ok (.bool q) w->s'={ s with fr:=(tt,.val (.bool q))::s.fr }->fj P ⟨some tt,.binOp op t x y p,ty,pos,after,guard⟩ a w N:=by
   intro q hq hs';subst hs';refine er oC ?_
   unfold Oper.wp;have hrun:(execOp a.eval ⟨some tt,.binOp op t x y p,ty,pos,after,guard⟩).run P w = .ok (.value (.bool q)) w:=by
    simp only[execOp,Sem.run_bind,hq,Result.andThen_ok];rfl
   rw[hrun];exact hN G _ _ (gm (v := .val (.bool q)) hr (by simp[St.add,hb,qT,List.nil_append]) rfl)
  split at h
  ·split at h
   ·rename_i b hc;simp at h;exact go b ((zfy (p := "") (fun v hv => bi hr hv) hc).1 ()) h.symm
   ·cases h
  ·split at h
   ·rename_i b hc;simp at h;exact go (!b) (zfy (p := "") (fun v hv => bi hr hv) hc).2 h.symm
   ·cases h
  ·cases h
 ·rename_i T t y e1 e2;simp only at e1 e2;subst e1 e2;cases hb:zhk P T&&Nat.blt t s.n<;>rw[hb]at h<;>simp at h
  split at h
  ·rename_i b _;split at h
   ·rename_i s1 ha;split at h
    ·rename_i cs T' b' hl ht;cases hq:Nat.beq b' b&&Nat.blt t s1.n<;>rw[hq]at h<;>simp at h
     simp only[qA]at hq;have:=qN hq.1;subst this;cases hs:allData (cs.map AV.sym)<;>rw[hs]at h<;>simp at h
     subst h;refine qmi hr ha trivial fun G' a' w' hr' => ?_
     obtain⟨G2,hr2⟩:=hr'.ropBox hl hs ht;exact hN _ _ _ hr2
    ·cases h
   ·cases h
  ·cases h
 ·cases h
end
end Go.Sym
namespace Go.Sym
open Go.RowKit
variable{TT:List PanicEntry->Act->World->Prop}[LC]
structure Md:Type where
 f:List (Nat×AV)
 h:List (Nat×ag)
def St.addM(s:St)(m:Md):St:={ s with fr:=m.f++s.fr,hp:=m.h++s.hp }
def qhu(K:List Nat):List (Nat×ag)->List (Nat×ag)|[]=>[]|(n,b)::r=>bif bm K n then qhu K r else(n,b)::qhu K r
def St.hide(s:St)(K:List Nat):St:={ s with hp:=qhu K s.hp }
def q1o{K:List Nat}:∀{l:List (Nat×ag)}{n:Nat}{b:ag},af (qhu K l) n=some b->af l n=some b/\n∉K
 |[],n,b,h=>by cases h
 |(k,v)::r,n,b,h=>by
  simp[qhu]at h;cases hm:bm K k<;>rw[hm]at h<;>simp at h
  ·simp[af]at h ⊢;cases hb:Nat.beq k n<;>rw[hb]at h<;>simp at h ⊢
   ·exact q1o h
   ·refine⟨h,fun hn => ?_⟩
    rw[← qN hb]at hn;rw[fh.2 hn]at hm;cases hm
  ·obtain⟨h1,h2⟩:=q1o h;refine⟨?_,h2⟩;simp[af];cases hb:Nat.beq k n
   ·exact h1
   ·exfalso;apply h2;rw[← qN hb];exact fh.1 hm
def t6(s:St)(q:Prop)(ys:List AV)(names:List (Nat×Nat))(xs:List AV)(hp:List (Nat×ag))(r:AV)(hp':List (Nat×ag))(t:Nat):Option (List Prop×Md):=
 bif dr names&&nz names&&a7 (s.nx+32*t) s.hp&&Nat.blt t s.n then
  match gv (ar names) s.hp names,bn false [] (AV.rens (ar names) ys) xs with
  |some hpv,some ps1=>match ix hpv hp with|some ps2=>some (q::(ps1++ps2),⟨[(t,r.ren (lm names hp' (s.nx+32*t)))],ln (lm names hp' (s.nx+32*t)) hp'++mr names⟩)|none=>none
  |_,_=>none
 else none
def zig{s:St}{q:Prop}{ys:List AV}{names:List (Nat×Nat)}{xs:List AV}{hp:List (Nat×ag)}{r:AV}{hp':List (Nat×ag)}{t:Nat}{ps:List Prop}{m:Md}(h:t6 s q ys names xs hp r hp' t=some (ps,m)):py s q ys names xs hp r hp' t=some (ps,s.addM m):=by
 unfold t6 at h;unfold py;cases hc:dr names&&nz names&&a7 (s.nx+32*t) s.hp&&Nat.blt t s.n<;>rw[hc]at h<;>simp only[qT,qF,reduceCtorEq]at h ⊢
 split at h
 ·rename_i hpv ps1 h1 h2;split at h
  ·rename_i ps2 h3;simp only[qI,qP]at h;obtain⟨rfl,rfl⟩:=h;rw[h1,h2];simp[h3,St.addM,wM,qS]
  ·cases h
 ·cases h
def q3t{ρ:Nat->Option Nat}{hp hp':List (Nat×ag)}(hhp:∀n b,af hp n=some b->af hp' n=some b):∀{l:List (Nat×Nat)}{r:List (Nat×ag)},gv ρ hp l=some r->gv ρ hp' l=some r
 |[],_,h=>h|(m,n)::l,r,h=>by
  simp[gv]at h ⊢;split at h
  ·rename_i b l' h1 h2;rw[hhp _ _ h1,q3t hhp h2];exact h
  ·cases h
def zih{t s:St}{q:Prop}{ys:List AV}{names:List (Nat×Nat)}{xs:List AV}{hp:List (Nat×ag)}{r:AV}{hp':List (Nat×ag)}{tt:Nat}{R:List Prop×Md}(hhp:∀n b,af t.hp n=some b->af s.hp n=some b)(hroom:a7 (s.nx+32*tt) s.hp=true)(hnx:t.nx=s.nx)(hn:t.n=s.n)
  (h:t6 t q ys names xs hp r hp' tt=some R):t6 s q ys names xs hp r hp' tt=some R:=by
 unfold t6 at h ⊢;cases hc:dr names&&nz names&&a7 (t.nx+32*tt) t.hp&&Nat.blt tt t.n<;>rw[hc]at h<;>simp at h
 simp only[qA]at hc;rw[hroom,← hn,hc.1.1.1,hc.1.1.2,hc.2,← hnx];split at h
 ·rename_i hpv ps1 h1 h2;rw[q3t hhp h1,h2];exact h
 ·cases h
def zj(P:Program)(t:St)(d:D)(o:Oper):Option (List Prop×Md):=
 match o.op,o.dst with
 |.store T x y,none=>match t.ev x,t.ev y,ee P T with
  |some (.ptr b off),some v,some n=>match af t.hp b with|some (.cells cs T')=>bif Nat.beq v.cells.length n&&AV.ones v.cells&&Nat.ble (off+n) cs.length then some ([],⟨[],[(b,.cells (fq cs off v.cells) T')]⟩) else none|_=>none
  |_,_,_=>none
 |.call { callee := .builtin .append,args,argTypes },some tt=>match args.toList,argTypes.toList with
  |[x,y],[ty,ty2]=>match t.ev x,t.ev y with
   |some (.own k),some v=>match af t.hp k with
    |some (.row τ0 l0 E0)=>match nt P t d ty ty2 (l0.flatMap τ0.enc) l0.length v with|some (ps,.row τ l E)=>bif a7 (t.nx+32*tt) t.hp&&Nat.beq τ.sz τ0.sz&&Nat.beq E E0&&Nat.blt tt t.n then some (ps,⟨[(tt,.own (t.nx+32*tt))],[(t.nx+32*tt,.row τ l E),(k,.dead)]⟩) else none|_=>none
    |_=>none
   |_,_=>none
  |_,_=>none
 |.call { callee := .value g,args,argTypes:=_ },some tt=>match t.ev g,t.evs args.toList,d with|some (.fn (.func f) [] cap),some ys,.mem names xs hp r hp'=>t6 t (Plain P f/\ce P f xs hp r hp') (ys++cap) names xs hp r hp' tt|_,_,_=>none
 |_,_=>none
def zin{P:Program}{t:St}{d:D}{o:Oper}{ps:List Prop}{m:Md}(h:zj P t d o=some (ps,m)):oy P t d o=some (ps,t.addM m):=by
 obtain⟨dst,op,ty,pos,after,guard⟩:=o;unfold zj at h;split at h
 ·rename_i T x y ho hd;simp only at ho hd;subst ho hd;split at h
  ·rename_i b off v n hx hy hn;split at h
   ·rename_i cs T' hb;cases hc:Nat.beq v.cells.length n&&AV.ones v.cells&&Nat.ble (off+n) cs.length<;>rw[hc]at h<;>simp at h
    obtain⟨rfl,rfl⟩:=h;unfold oy;rw[show fp P t d ⟨none,.store T x y,ty,pos,after,guard⟩=none from rfl]
    simp[oz,hx,hy,hn,hb,hc,qT];rfl
   ·cases h
  ·cases h
 ·rename_i args argTypes tt ho hd;simp only at ho hd;subst ho hd;split at h
  ·rename_i x y t1 t2 ha ht;split at h
   ·rename_i k v hx hy;split at h
    ·rename_i τ0 l0 E0 hk;split at h
     ·rename_i ps' τ l E hap;cases hc:a7 (t.nx+32*tt) t.hp&&Nat.beq τ.sz τ0.sz&&Nat.beq E E0&&Nat.blt tt t.n<;>rw[hc]at h<;>simp at h
      obtain⟨rfl,rfl⟩:=h;have hadd:fp P t d ⟨some tt,.call { callee := .builtin .append,args:=args,argTypes:=argTypes },ty,pos,after,guard⟩=none:=by
       simp[fp,dh,ip,ha,ht,hx,hy]
      unfold oy;rw[hadd];simp[oz,ha,ht,hx,hy,hk,hap,hc,qT];rfl
     ·cases h
    ·cases h
   ·cases h
  ·cases h
 ·rename_i g args argTypes tt ho hd;simp only at ho hd;subst ho hd;split at h
  ·rename_i f cap ys names xs hp r hp' hg hys;have hadd:fp P t (.mem names xs hp r hp') ⟨some tt,.call { callee := .value g,args:=args,argTypes:=argTypes },ty,pos,after,guard⟩=none:=by
    simp[fp,dh,ip,hg,hys]
   unfold oy;rw[hadd];simp[oz,hg,hys];exact zig h
  ·cases h
 ·cases h
def zxf{P:Program}{t st:St}{d:D}{o:Oper}{R:List Prop×Md}(hs:ow o t st)(hn:t.n=st.n)(h:zj P t d o=some R):zj P st d o=some R:=by
 obtain⟨dst,op,ty,pos,after,guard⟩:=o;have hev:=hs.ev;have hhp:=hs.hp;have hroom:=hs.room;have hnx:=hs.nx;simp only at hev hroom;unfold zj at h ⊢;split at h
 ·rename_i T x y ho hd;simp only at ho hd;subst ho hd;rw[hev x oF,hev y oF]at h
  split at h
  ·rename_i b off v n hx hy hn;split at h
   ·rename_i cs T' hb;simp[hhp _ _ hb];exact h
   ·cases h
  ·cases h
 ·rename_i args argTypes tt ho hd;simp only at ho hd;subst ho hd;have hm:∀z∈args.toList,t.ev z=st.ev z:=fun z hz=>hev z (by simp[Op.operands,Call.operands];simpa using hz)
  split at h
  ·rename_i x y t1 t2 ha ht;rw[hm x (by rw[ha];simp),hm y (by rw[ha];simp)]at h
   split at h
   ·rename_i k v hx hy;split at h
    ·rename_i τ0 l0 E0 hk;simp[hhp _ _ hk];split at h
     ·rename_i ps' τ l E hap;simp[zd6 hhp hap];cases hc:a7 (t.nx+32*tt) t.hp&&Nat.beq τ.sz τ0.sz&&Nat.beq E E0&&Nat.blt tt t.n<;>rw[hc]at h<;>simp only[qT,qF,reduceCtorEq]at h
      simp only[qA]at hc;rw[hroom tt rfl,← hn,hc.1.1.2,hc.1.2,hc.2,← hnx];exact h
     ·cases h
    ·cases h
   ·cases h
  ·cases h
 ·rename_i g args argTypes tt ho hd;simp only at ho hd;subst ho hd;have h1:t.ev g=st.ev g:=hev g oK
  have h2:t.evs args.toList=st.evs args.toList:=qcq (fun x hx=>hev x (by simp[Op.operands,Call.operands];exact .inr (by simpa using hx)))
  rw[h1,h2]at h;split at h
  ·exact zih hhp (hroom tt rfl) hnx hn h
  ·cases h
 ·cases h
def gn{β:Type}(A:Nat->List (Nat×β)):List Nat->List (Nat×β)->List (Nat×β)|[],b=>b|i::L,b=>A i++gn A L b
def qoe{β:Type}(l r:List (Nat×β))(n:Nat):af (l++r) n=match af l n with|some b=>some b|none=>af r n:=by
 induction l with
 |nil=>rfl|cons x l ih=>
  obtain⟨k,v⟩:=x;simp[wK,af];cases Nat.beq k n<;>simp[ih]
def ob{β:Type}:∀{l:List (Nat×β)}{m:Nat},af l m≠none->∃e∈l,e.1=m
 |[],m,h=>absurd rfl h|(k,v)::r,m,h=>by
  simp[af]at h;cases hb:Nat.beq k m
  ·rw[hb]at h;obtain⟨e,h1,h2⟩:=ob h;exact⟨e,qE _ h1,h2⟩
  ·exact⟨(k,v),qH,qN hb⟩
def zfs{β:Type}(A:Nat->List (Nat×β)):∀(L M:List Nat)(b:List (Nat×β)),gn A (L++M) b=gn A L (gn A M b)|[],M,b=>rfl|i::L,M,b=>by simp[wK,gn,zfs A L M b]
def qce{β:Type}{A:Nat->List (Nat×β)}{x:Nat}{b:List (Nat×β)}:∀{L:List Nat},(∀j∈L,af (A j) x=none)->af (gn A L b) x=af b x
 |[],_=>rfl|i::L,h=>by
  simp[gn];rw[qoe,h i qH];exact qce (fun j hj=>h j (qE _ hj))
def zij{β:Type}{A:Nat->List (Nat×β)}{b:List (Nat×β)}:∀{L:List Nat}{e:Nat×β},e∈gn A L b->(∃j∈L,e∈A j)\/e∈b
 |[],e,h => .inr h|i::L,e,h=>by
  rcases List.mem_append.1 h with h|h
  ·exact .inl ⟨i,qH,h⟩
  ·rcases zij h with⟨j,h1,h2⟩|h
   ·exact .inl ⟨j,qE _ h1,h2⟩
   ·exact .inr h
def lh(pr:Nat->List Nat):List Nat->Prop|[]=>True|i::L=>i∉L/\(∀j∈pr i,j∈L)/\lh pr L
def lh.closed{pr:Nat->List Nat}:∀{L:List Nat},lh pr L->∀i∈L,∀j∈pr i,j∈L
 |[],_,i,hi,_,_=>by cases hi
 |k::L,h,i,hi,j,hj=>by
  rcases List.mem_cons.1 hi with rfl|hi
  ·exact qE _ (h.2.1 j hj)
  ·exact qE _ (h.2.2.closed i hi j hj)
def qz1{β:Type}{A:Nat->List (Nat×β)}{x:Nat}{b:List (Nat×β)}{pr:Nat->List Nat}:∀{L:List Nat},lh pr L->(∀i∈L,∀j∈L,i<j->af (A i) x≠none->af (A j) x≠none->i∈pr j) ->
  ∀j∈L,af (A j) x≠none->(∀k∈L,af (A k) x≠none->k<=j)->af (gn A L b) x=af (A j) x
 |[],_,_,j,hj,_,_=>by cases hj
 |i::L,hg,hd,j,hj,hx,hm=>by
  simp[gn];rw[qoe]
  cases hq:af (A i) x with
  |some v=>
   have hij:i<=j:=hm i qH (by rw[hq];simp)
   rcases Nat.lt_or_eq_of_le hij with h|h
   ·exfalso;have hjL:j∈L:=by
     rcases List.mem_cons.1 hj with e|e
     ·omega
     ·exact e
    exact hg.1 (hg.2.2.closed j hjL i (hd i qH j hj h (by rw[hq];simp) hx))
   ·subst h;rw[hq]
  |none=>
   have hjL:j∈L:=by
    rcases List.mem_cons.1 hj with e|e
    ·subst e;exact absurd hq hx
    ·exact e
   exact qz1 hg.2.2 (fun a ha c hc=>hd a (qE _ ha) c (qE _ hc)) j hjL hx (fun k hk=>hm k (qE _ hk))
def zgk(p:Nat->Prop):∀(L:List Nat),(∃j∈L,p j)->∃j∈L,p j/\∀k∈L,p k->k<=j
 |[],h=>by obtain⟨j,hj,_⟩:=h;cases hj
 |i::L,h=>by
  by_cases hL:∃j∈L,p j
  ·obtain⟨j,hj,pj,hm⟩:=zgk p L hL;by_cases hi:p i/\j<i
   ·exact⟨i,qH,hi.1,fun k hk pk=>by
     rcases List.mem_cons.1 hk with e|e
     ·omega
     ·have:=hm k e pk;omega⟩
   ·exact⟨j,qE _ hj,pj,fun k hk pk=>by
     rcases List.mem_cons.1 hk with e|e
     ·subst e;have:¬j<k:=fun h=>hi ⟨pk,h⟩
      omega
     ·exact hm k e pk⟩
  ·obtain⟨j,hj,pj⟩:=h;rcases List.mem_cons.1 hj with e|e
   ·subst e;exact⟨j,qH,pj,fun k hk pk=>by
     rcases List.mem_cons.1 hk with e|e
     ·omega
     ·exact absurd ⟨k,e,pk⟩ hL⟩
   ·exact absurd ⟨j,e,pj⟩ hL
def qm2{β:Type}{A:Nat->List (Nat×β)}{x:Nat}{b:List (Nat×β)}{pr:Nat->List Nat}{L L':List Nat}(hg:lh pr L)(hg':lh pr L')(hd:∀i j,(i∈L\/i∈L')->(j∈L\/j∈L')->i<j->af (A i) x≠none->af (A j) x≠none->i∈pr j)
  (hs:∀j,af (A j) x≠none->(j∈L↔j∈L')):af (gn A L b) x=af (gn A L' b) x:=by
 by_cases hex:∃j∈L,af (A j) x≠none
 ·obtain⟨j,hj,hx,hm⟩:=zgk (fun j=>af (A j) x≠none) L hex
  rw[qz1 hg (fun i hi j hj=>hd i j (.inl hi) (.inl hj)) j hj hx hm,qz1 hg' (fun i hi j hj=>hd i j (.inr hi) (.inr hj)) j ((hs j hx).1 hj) hx (fun k hk hk2=>hm k ((hs k hk2).2 hk) hk2)]
 ·have h1:∀j∈L,af (A j) x=none:=fun j hj=>by
   cases hq:af (A j) x with|none=>rfl|some v=>exact absurd ⟨j,hj,by rw[hq];simp⟩ hex
  have h2:∀j∈L',af (A j) x=none:=fun j hj=>by
   cases hq:af (A j) x with|none=>rfl|some v=>exact absurd ⟨j,(hs j (by rw[hq];simp)).2 hj,by rw[hq];simp⟩ hex
  rw[qce h1,qce h2]
def q05{sel:List Nat}{pr:Nat->List Nat}:∀(m:Nat),(∀i,i<m->i∈sel->∀j∈pr i,j<i/\j∈sel)->lh pr (((List.range' 0 m).filter (bm sel)).reverse)
 |0,_=>trivial|m+1,h=>by
  have ih:=q05 m (fun i hi=>h i oA)
  rw[List.range'_1_concat,List.filter_append,List.reverse_append,wO];cases hm:bm sel m
  ·rw[List.filter_cons_of_neg (by simp[hm])];exact ih
  ·rw[List.filter_cons_of_pos hm];refine⟨fun hin => ?_,fun j hj => ?_,ih⟩
   ·have hin:m∈((List.range' 0 m).filter (bm sel)).reverse:=hin;simp only[List.mem_reverse,List.mem_filter,List.mem_range'_1]at hin;omega
   ·have:=h m oA (fh.1 hm) j hj
    show j∈((List.range' 0 m).filter (bm sel)).reverse;rw[List.mem_reverse,List.mem_filter,List.mem_range'_1,fh];exact⟨⟨oA,oA⟩,this.2⟩
def f8(Rs:List HR)(Ms:List (Nat×Md))(j:Nat):List (Nat×AV):=match af Ms j with
 |some md=>md.f|none=>match Rs[j]? with|some r=>[(r.dst,r.v)]|none=>[]
def f9(Rs:List HR)(Ms:List (Nat×Md))(j:Nat):List (Nat×ag):=match af Ms j with
 |some md=>md.h|none=>match Rs[j]? with|some r=>r.new|none=>[]
def ij(Rs:List HR)(j:Nat):List Nat:=match Rs[j]? with|some r=>r.pred|none=>[]
def gy(Rs:List HR)(Ms:List (Nat×Md))(L:List Nat)(s:St):St:={ s with fr:=gn (f8 Rs Ms) L s.fr,hp:=gn (f9 Rs Ms) L s.hp }
def d7(Ms:List (Nat×Md))(sel:List Nat):List HR->Nat->St->St
 |[],_,t=>t| r::rs,j,t=>d7 Ms sel rs (j+1) (bif bm sel j then(match af Ms j with
  |some md=>t.addM md| none=>t.addR r) else t)
def qgw{Rs:List HR}{Ms:List (Nat×Md)}{sel:List Nat}:∀(rs:List HR)(j:Nat)(t:St),(∀k,k<rs.length->Rs[j+k]? = rs[k]?)->d7 Ms sel rs j t=gy Rs Ms (((List.range' j rs.length).filter (bm sel)).reverse) t
 |[],j,t,_=>rfl|r::rs,j,t,h=>by
  have h0:Rs[j]? = some r:=by simpa using h 0 oC
  rw[d7,qgw rs (j+1) _ (fun k hk=>by have:=h (k+1) oD;rw[show j+1+k=j+(k+1) by omega,this];simp),qL,List.range'_succ]
  cases hm:bm sel j
  ·rw[List.filter_cons_of_neg (by simp[hm])];rfl
  ·rw[List.filter_cons_of_pos hm,List.reverse_cons];simp only[gy,zfs,gn,qT,f8,f9,h0];cases af Ms j<;>rfl
def ie(Cs:List (Nat×List Nat×List Nat))(pred:List Nat)(i:Nat):List Nat:=match Cs with|[]=>[]|(m,K,Pm)::r=>bif Nat.beq m i||bm pred m||bm Pm i then ie r pred i else K++ie r pred i
def zik{pred:List Nat}{i x:Nat}:∀{Cs:List (Nat×List Nat×List Nat)}{m:Nat}{K Pm:List Nat},(m,K,Pm)∈Cs->m≠i->m∉pred->i∉Pm->x∈K->x∈ie Cs pred i
 |(m',K',P')::Cs,m,K,Pm,h,h1,h2,h3,h4=>by
  simp[ie];rcases List.mem_cons.1 h with e|h
  ·simp at e;obtain⟨rfl,rfl,rfl⟩:=e;have hc:(Nat.beq m i||bm pred m||bm Pm i)=false:=by
    simp;refine⟨⟨?_,?_⟩,?_⟩
    ·cases hb:Nat.beq m i
     ·rfl
     ·exact absurd (qN hb) h1
    ·cases hb:bm pred m
     ·rfl
     ·exact absurd (fh.1 hb) h2
    ·cases hb:bm Pm i
     ·rfl
     ·exact absurd (fh.1 hb) h3
   rw[hc];exact List.mem_append.2 (.inl h4)
  ·have ih:=zik h h1 h2 h3 h4;cases Nat.beq m' i||bm pred m' || bm P' i
   ·exact List.mem_append.2 (.inr ih)
   ·exact ih
def lv(lo k:Nat):Prop:=lo<=k/\k<lo+32
def qoo{Rs:List HR}:∀{es:List Edge}{l:List Nat},l5 Rs es=some l->∀e∈es,Region.binds .any e=true->∀r,Rs[e.on]? = some r->∀j∈r.pred,j∈l
 |[],l,_,e,he,_,_,_,_,_=>by cases he
 |e0::es,l,h,e,he,hb,r,hr,j,hj=>by
  simp[l5]at h;cases hb0:Region.binds .any e0<;>rw[hb0]at h<;>simp at h
  ·rcases List.mem_cons.1 he with rfl|he
   ·rw[hb0]at hb;cases hb
   ·exact qoo h e he hb r hr j hj
  ·split at h
   ·rename_i r' l' h1 h2;simp at h;subst h;rw[qh9];rcases List.mem_cons.1 he with rfl|he
    ·rw[hr]at h1;cases h1;exact .inl (qE _ hj)
    ·exact .inr (qoo h2 e he hb r hr j hj)
   ·cases h
section
variable{P:Program}{vhe:World}{vg8:Gh}{vhb:List (Nat×ag)}{s:St}
structure nq(ops:Array Oper)(s:St)(Rs:List HR)(Ms:List (Nat×Md))(Cs:List (Nat×List Nat×List Nat))(i:Nat)(o:Oper)(r:HR):Prop where
 get:Rs[i]? = some r
 room:a7 (s.nx+32*r.dst) s.hp=true
 pred:l5 (Rs.take i) o.after.toList=some r.pred
 fresh:oa r.dst (Rs.take i)=true
 reads:p6 r.pred (iw ops o) (Rs.take i) 0=true
 writes:qh ops r.dst r.pred i=true
 f:∀e∈f8 Rs Ms i,e.1=r.dst
 h:∀e∈f9 Rs Ms i,lv (s.nx+32*r.dst) e.1\/(af Ms i≠none/\(∃K Pm,(i,K,Pm)∈Cs/\e.1∈K/\∀j∈Pm,j∈r.pred)/\((∃b,af s.hp e.1=some b)\/∃c rc,c∈r.pred/\Rs[c]? = some rc/\lv (s.nx+32*rc.dst) e.1)/\∀j,j<i->af Ms j≠none->j∈r.pred)
def jl(s:St)(Rs:List HR)(Ms:List (Nat×Md))(Cs:List (Nat×List Nat×List Nat))(i:Nat)(r:HR):St:=(d7 Ms r.pred (Rs.take i) 0 s).hide (ie Cs r.pred i)
def qjn(P:Program)(o:Oper)(t:St)(md:Md):Prop:=∀(st:St),ow o t st->t.n=st.n->∀(vhe:World)(vg8:Gh)(vhb:List (Nat×ag))(G:Gh)(a:Act)(w:World),ai vhe vg8 vhb G st a w->∀N:Act->World->Prop,(∀G' a' w',ai vhe vg8 vhb G' (st.addM md) a' w'->N a' w')->fj P o a w N
def zxe{P:Program}{t:St}{d:D}{o:Oper}{ps:List Prop}{md:Md}(h:zj P t d o=some (ps,md))(hp:ap ps):qjn P o t md:=
 fun _ hs hn _ _ _ _ _ _ hr _ hN=>qmi hr (zin (zxf hs hn h)) hp hN
def qyp(P:Program)(TT:List PanicEntry->Act->World->Prop)(vhe:World)(vg8:Gh)(vhb:List (Nat×ag))(n:Nat)(s:St)(Rs:List HR)(Ms:List (Nat×Md))(Cs:List (Nat×List Nat×List Nat))(i:Nat)(o:Oper)(r:HR):Prop:=
 o.guard=none/\(∀t,o.dst=some t->t=r.dst/\t<s.n)/\∀L:List Nat,(∀j∈L,j<n)->ow o (jl s Rs Ms Cs i r) (gy Rs Ms L s)->∀(G:Gh)(a:Act)(w:World),ai vhe vg8 vhb G (gy Rs Ms L s) a w->∀N:Act->World->Prop,qd P TT o a w N
def yv(P:Program)(ops:Array Oper)(s:St)(Rs:List HR)(Ms:List (Nat×Md))(Cs:List (Nat×List Nat×List Nat))(i:Nat)(o:Oper)(r:HR):Prop:=
 (af Ms i=none/\o.dst=some r.dst/\r.dst<s.n/\∃ps,∃c:uo,mq P ops (jl s Rs Ms Cs i r) c o=some (ps,r.v,r.new)/\ap ps) \/
 (∃md,af Ms i=some md/\o.guard=none/\(∀t,o.dst=some t->t=r.dst/\t<s.n)/\qjn P o (jl s Rs Ms Cs i r) md)
def zg6{B:Nat->Prop}{ops:Array Oper}{n:Nat}{Rs:List HR}{Ms:List (Nat×Md)}{Cs:List (Nat×List Nat×List Nat)}{N:Act->World->Prop}(hn:n<=ops.size)(hed:kj ops.toList 0=true)(ac:Rs.length=n)
  (hbnd:∀(L:List Nat)(listed:Array Bool)(i:Nat)(o:Oper),Inv ops n L listed->(∀j∈L,¬B j)->ops[i]? = some o->(∀e∈o.after,Region.binds .any e=true->e.on∈L)->(∃i0,i0<n/\i0∉L)->i<n)
  (hO:∀i o,i<n->ops[i]? = some o->∃r,nq ops s Rs Ms Cs i o r/\((¬B i/\yv P ops s Rs Ms Cs i o r)\/(B i/\qyp P TT vhe vg8 vhb n s Rs Ms Cs i o r)))
  (htail:(∀i,i<n->¬B i)->∀(G:Gh)(a:Act)(w:World)(listed:Array Bool),ai vhe vg8 vhb G (d7 Ms (List.range n) Rs 0 s) a w->uy ops n listed->jx P TT ops N (ops.size-n) listed a w) :
  ∀(g:Nat)(L:List Nat)(listed:Array Bool)(G:Gh)(a:Act)(w:World),ops.size=g+L.length->Inv ops n L listed->lh (ij Rs) L->(∀j∈L,¬B j)->ai vhe vg8 vhb G (gy Rs Ms L s) a w->jx P TT ops N g listed a w:=by
 have hop:∀i,i<n->ops[i]? = some (ops[i]?.getD default):=fun i hi=>by
  have:i<ops.size:=oA
  simp[this]
 -- predecessors
 have hpreds:∀{L:List Nat},(∀i∈L,∀o,ops[i]? = some o->∀e∈o.after,Region.binds .any e=true->e.on∈L)->∀(i:Nat)(o:Oper)(r:HR),i<n->ops[i]? = some o->Rs[i]? = some r->(∀e∈o.after,Region.binds .any e=true->e.on∈L)->(∀j∈r.pred,j∈L/\j<i):=by
  intro L hcl i
  induction i using Nat.strongRecOn with
  |ind i ih=>
   intro o r hi ho hr hall j hj;obtain⟨r',ok,_⟩:=hO i o hi ho;have h1:=ok.get;rw[hr]at h1;injection h1 with h1;subst h1
   obtain⟨e,he,hb,hje⟩:=(qih ok.pred).2 j hj;have hlt:=n7 hed i o (by simpa using ho) e (by simpa using he) hb
   have hlt':e.on<i:=oA
   have heL:=hall e (by simpa using he) hb
   rcases hje with rfl|⟨re,hre,hje⟩
   ·exact⟨heL,hlt'⟩
   ·have hre':Rs[e.on]? = some re:=by rw[List.getElem?_take]at hre;rw[qX hlt']at hre;exact hre
    have hoe:ops[e.on]? = some ops[e.on]:=oC
    have:=ih e.on hlt' ops[e.on] re oA hoe hre' (hcl e.on heL _ hoe) j hje
    exact⟨this.1,oA⟩
 have hlt:∀(i:Nat)(r:HR),i<n->Rs[i]? = some r->∀j∈r.pred,j<i:=fun i r hi hr j hj=>by
  refine(hpreds (L:=List.range n) (fun k hk o ho e he hb => ?_) i _ r hi (hop i hi) hr (fun e he hb => ?_) j hj).2
  ·have:=n7 hed k o (by simpa using ho) e (by simpa using he) hb
   have hk':=List.mem_range.1 hk;exact List.mem_range.2 oA
  ·have:=n7 hed i _ (by simpa using hop i hi) e (by simpa using he) hb
   exact List.mem_range.2 oA
 have htrans:∀(i:Nat)(r:HR),i<n->Rs[i]? = some r->∀k∈r.pred,∀rk:HR,Rs[k]? = some rk->∀c∈rk.pred,c∈r.pred:=by
  intro i
  induction i using Nat.strongRecOn with
  |ind i ih=>
   intro r hi hr k hk rk hrk c hc;obtain⟨r',ok,_⟩:=hO i _ hi (hop i hi);have h1:=ok.get;rw[hr]at h1;injection h1 with h1;subst h1
   obtain⟨e,he,hb,hje⟩:=(qih ok.pred).2 k hk;have hle:=n7 hed i _ (by simpa using hop i hi) e (by simpa using he) hb
   have hle':e.on<i:=oA
   rcases hje with rfl|⟨re,hre,hje⟩
   ·exact qoo ok.pred e he hb rk (by rw[List.getElem?_take,qX hle'];exact hrk) c hc
   ·have hre':Rs[e.on]? = some re:=by rw[List.getElem?_take,qX hle']at hre;exact hre
    exact qoo ok.pred e he hb re hre c (ih e.on hle' re oA hre' k hje rk hrk c hc)
 have hdst:∀(i j:Nat)(r r':HR),i<n->j<n->Rs[i]? = some r->Rs[j]? = some r'->r.dst=r'.dst->i=j:=fun i j r r' hi hj hr hr' hd=>by
  rcases Nat.lt_trichotomy i j with h|h|h
  ·obtain⟨r2,ok,_⟩:=hO j _ hj (hop j hj);have h1:=ok.get;rw[hr']at h1;injection h1 with h1;subst h1
   exact absurd hd (vv.1 ok.fresh r (List.mem_of_getElem? (i:=i) (by rw[List.getElem?_take,qX h];exact hr)))
  ·exact h
  ·obtain⟨r2,ok,_⟩:=hO i _ hi (hop i hi);have h1:=ok.get;rw[hr]at h1;injection h1 with h1;subst h1
   exact absurd hd.symm (vv.1 ok.fresh r' (List.mem_of_getElem? (i:=j) (by rw[List.getElem?_take,qX h];exact hr')))
 have hrs:∀i,i<n->∃r,Rs[i]? = some r/\nq ops s Rs Ms Cs i (ops[i]?.getD default) r:=fun i hi=>by
  obtain⟨r,ok,_⟩:=hO i _ hi (hop i hi);exact⟨r,ok.get,ok⟩
 -- two that touch the same are ordered
 have old:∀(i:Nat)(r:HR)(x:Nat),nq ops s Rs Ms Cs i (ops[i]?.getD default) r->lv (s.nx+32*r.dst) x->af s.hp x=none:=fun i r x ok hx=>by
  cases hq:af s.hp x with
  |none=>rfl|some b=>
   have:=wo.1 ok.room _ (zg hq);unfold lv at hx;simp only at this;omega
 have hC1:∀(x i j:Nat),i<n->j<n->i<j->af (f9 Rs Ms i) x≠none->af (f9 Rs Ms j) x≠none->i∈ij Rs j:=fun x i j hi hj hij h1 h2=>by
  obtain⟨ri,gi,oki⟩:=hrs i hi;obtain⟨rj,gj,okj⟩:=hrs j hj;have hpj:ij Rs j=rj.pred:=by unfold ij;rw[gj]
  rw[hpj];obtain⟨e1,m1,rfl⟩:=ob h1;obtain⟨e2,m2,hx⟩:=ob h2;rcases oki.h e1 m1 with a1|⟨n1,_,c1,_⟩
  ·rcases okj.h e2 m2 with a2|⟨n2,_,c2,_⟩
   ·rw[hx]at a2;exact absurd (hdst i j ri rj hi hj gi gj (by unfold lv at a1 a2;omega)) oA
   ·rw[hx]at c2;rcases c2 with⟨b,hb⟩|⟨c,rc,c3,c4,c5⟩
    ·rw[old i ri _ oki a1]at hb;cases hb
    ·have hcn:c<n:=by have:=hlt j rj hj gj c c3;omega
     have:c=i:=hdst c i rc ri hcn hi c4 gi (by unfold lv at a1 c5;omega)
     exact this▸c3
  ·rcases okj.h e2 m2 with a2|⟨n2,_,c2,c6⟩
   ·rw[hx]at a2;rcases c1 with⟨b,hb⟩|⟨c,rc,c3,c4,c5⟩
    ·rw[old j rj _ okj a2]at hb;cases hb
    ·have hcn:c<i:=hlt i ri hi gi c c3;have:c=j:=hdst c j rc rj oA hj c4 gj (by unfold lv at a2 c5;omega)
     omega
   ·exact c6 i hij n1
 have hC2:∀(d i j:Nat),i<n->j<n->i<j->af (f8 Rs Ms i) d≠none->af (f8 Rs Ms j) d≠none->i∈ij Rs j:=fun d i j hi hj hij h1 h2=>by
  obtain⟨ri,gi,oki⟩:=hrs i hi;obtain⟨rj,gj,okj⟩:=hrs j hj;obtain⟨e1,m1,rfl⟩:=ob h1;obtain⟨e2,m2,hx⟩:=ob h2;have:=oki.f e1 m1;have:=okj.f e2 m2;exact absurd (hdst i j ri rj hi hj gi gj oA) oA
 -- all have run
 have fin:∀(L:List Nat)(listed:Array Bool)(G:Gh)(a:Act)(w:World),(∀i,i<n->i∈L)->Inv ops n L listed->lh (ij Rs) L->(∀j∈L,¬B j)->ai vhe vg8 vhb G (gy Rs Ms L s) a w->jx P TT ops N (ops.size-n) listed a w:=by
  intro L listed G a w hall hinv hgood hB hr;refine htail (fun i hi=>hB i (hall i hi)) G a w listed (hr.eqv ?_) ⟨hinv.size,fun j hj=>by rw[hinv.iff j hj];exact⟨fun h=>hinv.lt j h,fun h=>hall j h⟩⟩
  rw[qgw (Rs:=Rs) Rs 0 s (fun k _=>by rw[wO]),ac]
  have hmem:∀j,j∈((List.range' 0 n).filter (bm (List.range n))).reverse↔j∈L:=fun j=>by
   rw[List.mem_reverse,List.mem_filter,fh,List.mem_range'_1,List.mem_range];exact⟨fun h=>hall j h.2,fun h=>by have:=hinv.lt j h;exact⟨⟨oA,oA⟩,this⟩⟩
  have hg2:lh (ij Rs) (((List.range' 0 n).filter (bm (List.range n))).reverse):=q05 n (fun i hi _ j hj=>by
   obtain⟨r,gr,_⟩:=hrs i hi;have hp:ij Rs i=r.pred:=by unfold ij;rw[gr]
   rw[hp]at hj;have:=hlt i r hi gr j hj;exact⟨this,List.mem_range.2 oA⟩)
  have hb:∀i,(i∈L\/i∈((List.range' 0 n).filter (bm (List.range n))).reverse)->i<n:=fun i h=>by
   rcases h with h|h
   ·exact hinv.lt i h
   ·exact hinv.lt i ((hmem i).1 h)
  exact⟨rfl,rfl,fun d=>qm2 hgood hg2 (fun i j hi hj=>hC2 d i j (hb i hi) (hb j hj)) (fun j _=>(hmem j).symm),fun x=>qm2 hgood hg2 (fun i j hi hj=>hC1 x i j (hb i hi) (hb j hj)) (fun j _=>(hmem j).symm),rfl⟩
 intro g
 induction g with
 |zero=>
  intro L listed G a w hg hinv hgood hB hr;have h1:=wq n L hinv.nodup hinv.lt;have hnn:n=ops.size:=oA
  have hall:∀i,i<n->i∈L:=fun i hi=>by
   by_cases hm:i∈L
   ·exact hm
   ·have:=wq n (i::L) (List.nodup_cons.2 ⟨hm,hinv.nodup⟩) (fun j hj=>by
     rcases List.mem_cons.1 hj with rfl|hj;· exact hi
     ·exact hinv.lt j hj)
    simp at this;omega
  have:=fin L listed G a w hall hinv hgood hB hr
  rwa [hnn,Nat.sub_self]at this
 |succ g ih=>
  intro L listed G a w hg hinv hgood hB hr;by_cases hall:∀i,i<n->i∈L
  ·have h1:=wq n L hinv.nodup hinv.lt;have h2:=q1l n L hall;have:=fin L listed G a w hall hinv hgood hB hr
   rwa [show ops.size-n=g+1 by omega]at this
  ·have hex:∃i,i<n/\i∉L/\∀j,j<i->j∈L:=by
    have:∃i,i<n/\i∉L:=by
     simpa using hall
    obtain⟨i,hi,hm⟩:=this;clear hall
    induction i using Nat.strongRecOn with
    |ind i ih=>
     by_cases hsm:∀j,j<i->j∈L
     ·exact⟨i,hi,hm,hsm⟩
     ·have:∃j,j<i/\j∉L:=by simpa using hsm
      obtain⟨j,hj,hjm⟩:=this;exact ih j hj oA hjm
   obtain⟨i0,hi0,hm0,hsm0⟩:=hex;have hi0s:i0<ops.size:=oA
   have h0r:i0∈Region.ready .any ops listed:=by
    refine zi.2 ⟨hi0s,?_,ops[i0],oC,fun e he hb => ?_⟩
    ·cases hq:listed.getD i0 true
     ·rfl
     ·exact absurd ((hinv.iff i0 hi0s).1 hq) hm0
    ·have:=n7 hed i0 ops[i0] oC e he hb
     have hlt:e.on<i0:=oA
     exact(hinv.getD_false oA).2 (hsm0 _ hlt)
   refine⟨fun hnil=>(by rw[hnil]at h0r;cases h0r),fun i hi => ?_⟩
   obtain⟨i1,i2,o,i3,i4⟩:=zi.1 hi;have hiL:i∉L:=fun h=>by rw[(hinv.iff i i1).2 h]at i2;cases i2
   have hedge:∀e∈o.after,Region.binds .any e=true->e.on∈L:=fun e he hb=>by
    have hlt:=n7 hed i o (by simpa using i3) e he hb
    exact(hinv.getD_false oA).1 (i4 e he hb)
   have hin:i<n:=hbnd L listed i o hinv hB i3 hedge ⟨i0,hi0,hm0⟩;obtain⟨r,ok,st⟩:=hO i o hin i3;have gr:=ok.get;have hpred:=hpreds hinv.closed i o r hin i3 gr hedge;have hpr:ij Rs i=r.pred:=by unfold ij;rw[gr]
   have hgood':lh (ij Rs) (i::L):=⟨hiL,fun j hj=>by rw[hpr]at hj;exact(hpred j hj).1,hgood⟩
   have hnext:Inv ops n (i::L) (listed.setIfInBounds i true):=by
    refine⟨List.nodup_cons.2 ⟨hiL,hinv.nodup⟩,fun j hj => ?_,by simp[hinv.size],fun j hj => ?_,fun j hj oj hoj e he hb => ?_⟩
    ·rcases List.mem_cons.1 hj with rfl|hj
     ·exact hin
     ·exact hinv.lt j hj
    ·rw[Array.getD_eq_getD_getElem?,Array.getElem?_setIfInBounds];by_cases hij:i=j
     ·subst hij;simp[hinv.size,i1]
     ·rw[qW hij];have:=hinv.iff j hj;rw[Array.getD_eq_getD_getElem?]at this;rw[this,wE];exact⟨fun h => .inr h,fun h=>h.resolve_left (fun e=>hij e.symm)⟩
    ·rcases List.mem_cons.1 hj with rfl|hj
     ·rw[i3]at hoj;injection hoj with hoj;subst hoj
      exact qE _ (hedge e he hb)
     ·exact qE _ (hinv.closed j hj oj hoj e he hb)
   have htk:(Rs.take i).length=i:=by simp;omega
   have hlen':∀k,k<(Rs.take i).length->Rs[0+k]? = (Rs.take i)[k]? := fun k hk=>by
    rw[List.getElem?_take,qX (by rw[htk]at hk;omega),wO]
   have hseen:jl s Rs Ms Cs i r=(gy Rs Ms (((List.range' 0 i).filter (bm r.pred)).reverse) s).hide (ie Cs r.pred i):=by
    unfold jl;rw[qgw (Rs:=Rs) (Rs.take i) 0 s hlen',htk]
   have hsel:∀j,j∈((List.range' 0 i).filter (bm r.pred)).reverse↔j∈r.pred:=fun j=>by
    rw[List.mem_reverse,List.mem_filter,fh];refine⟨fun h=>h.2,fun h=>⟨?_,h⟩⟩
    rw[List.mem_range'_1];exact⟨oA,by have:=(hpred j h).2;omega⟩
   have hgsel:lh (ij Rs) (((List.range' 0 i).filter (bm r.pred)).reverse):=q05 i (fun k hk hks j hj=>by
    obtain⟨rk,gk,_⟩:=hrs k oA
    have hpk:ij Rs k=rk.pred:=by unfold ij;rw[gk]
    rw[hpk]at hj;exact⟨hlt k rk oA gk j hj,htrans i r hin gr k hks rk gk j hj⟩)
   have hbn:∀k,(k∈((List.range' 0 i).filter (bm r.pred)).reverse\/k∈L)->k<n:=fun k h=>by
    rcases h with h|h
    ·have:=(hpred k ((hsel k).1 h)).2;omega
    ·exact hinv.lt k h
   -- an operation that has run already,and is no predecessor,writes nothing that is looked at
   have late:∀(j:Nat)(rj:HR),Rs[j]? = some rj->j∈L->rj.dst∈iw ops o->j∈r.pred:=by
    intro j rj hj h hd;have hjn:=hinv.lt j h;have hji:j≠i:=fun e=>hiL (e▸h)
    rcases Nat.lt_or_gt_of_ne hji with hlt'|hgt
    ·rcases q2q ok.reads j rj (by rw[List.getElem?_take,qX hlt'];exact hj) with h'|h'
     ·simpa using h'
     ·exact absurd hd h'
    ·have hoj:=hop j hjn;obtain⟨rj',okj,_⟩:=hO j _ hjn hoj;have k1:=okj.get;rw[hj]at k1;injection k1 with k1;subst k1
     rcases q32 okj.writes i o hgt i3 with h'|h'
     ·have:=hpreds hinv.closed j _ rj hjn hoj hj (hinv.closed j h _ hoj) i h';exact absurd this.1 hiL
     ·exact absurd hd h'
   have hreads:∀d∈iw ops o,af (jl s Rs Ms Cs i r).fr d=af (gy Rs Ms L s).fr d:=fun d hd=>by
    rw[hseen];show af (gn (f8 Rs Ms) _ s.fr) d=af (gn (f8 Rs Ms) L s.fr) d;refine qm2 hgsel hgood (fun a b ha hb=>hC2 d a b (hbn a ha) (hbn b hb)) (fun j hj=>⟨fun h=>(hpred j ((hsel j).1 h)).1,fun h=>(hsel j).2 ?_⟩)
    obtain⟨rj,gj,okj⟩:=hrs j (hinv.lt j h);obtain⟨e,he,rfl⟩:=ob hj;exact late j rj gj h (by rw[← okj.f e he];exact hd)
   have hhp:∀x b,af (jl s Rs Ms Cs i r).hp x=some b->af (gy Rs Ms L s).hp x=some b:=fun x b hb=>by
    rw[hseen]at hb;obtain⟨b1,b2⟩:=q1o hb;have b1':af (gn (f9 Rs Ms) (((List.range' 0 i).filter (bm r.pred)).reverse) s.hp) x=some b:=b1;rw[← b1'];refine(qm2 hgsel hgood (fun a b ha hb=>hC1 x a b (hbn a ha) (hbn b hb)) (fun j hj=>⟨fun h=>(hpred j ((hsel j).1 h)).1,fun h=>(hsel j).2 ?_⟩)).symm
    have hjn:=hinv.lt j h;obtain⟨rj,gj,okj⟩:=hrs j hjn;obtain⟨e,he,hex⟩:=ob hj;by_cases hjp:j∈r.pred
    ·exact hjp
    ·exfalso;have hji:j≠i:=fun e=>hiL (e▸h)
     rcases okj.h e he with a1|⟨_,⟨K,Pm,k1,k2,k3⟩,_,_⟩
     ·rw[hex]at a1;by_cases hk:∃k∈((List.range' 0 i).filter (bm r.pred)).reverse,af (f9 Rs Ms k) x≠none
      ·obtain⟨k,hk1,hk2⟩:=hk;have hkp:=(hsel k).1 hk1;have hkn:k<n:=hbn k (.inl hk1);obtain⟨rk,gk,okk⟩:=hrs k hkn;obtain⟨e2,he2,hex2⟩:=ob hk2;rcases okk.h e2 he2 with a2|⟨_,_,c1,_⟩
       ·rw[hex2]at a2;have:j=k:=hdst j k rj rk hjn hkn gj gk (by unfold lv at a1 a2;omega)
        exact hjp (this▸hkp)
       ·rw[hex2]at c1;rcases c1 with⟨b',hb'⟩|⟨c,rc,c3,c4,c5⟩
        ·rw[old j rj x okj a1]at hb';cases hb'
        ·have hcn:c<n:=by have:=hlt k rk hkn gk c c3;omega
         have:c=j:=hdst c j rc rj hcn hjn c4 gj (by unfold lv at a1 c5;omega)
         exact hjp (htrans i r hin gr k hkp rk gk j (this▸c3))
      ·have hnone:∀k∈((List.range' 0 i).filter (bm r.pred)).reverse,af (f9 Rs Ms k) x=none:=fun k hk1=>by
        cases hq:af (f9 Rs Ms k) x with|none=>rfl|some v=>exact absurd ⟨k,hk1,by rw[hq];simp⟩ hk
       rw[qce hnone,old j rj x okj a1]at b1';cases b1'
     ·refine b2 (zik k1 hji hjp (fun hiP=>hiL ?_) (hex▸k2))
      exact hgood.closed j h i (by unfold ij;rw[gj];exact k3 i hiP)
   have hroom:a7 (s.nx+32*r.dst) (gy Rs Ms L s).hp=true:=by
    rw[wo];intro e he;rcases zij he with⟨j,hj,he⟩|he
    ·have hjn:=hinv.lt j hj;have hji:j≠i:=fun e=>hiL (e▸hj)
     obtain⟨rj,gj,okj⟩:=hrs j hjn;rcases okj.h e he with a1|⟨_,_,c1,_⟩
     ·have:rj.dst≠r.dst:=fun hq=>hji (hdst j i rj r hjn hin gj gr hq)
      unfold lv at a1;omega
     ·rcases c1 with⟨b',hb'⟩|⟨c,rc,c3,c4,c5⟩
      ·exact wo.1 ok.room (e.1,b') (zg hb')
      ·have hcL:c∈L:=hgood.closed j hj c (by unfold ij;rw[gj];exact c3)
       have hcn:=hinv.lt c hcL;have:rc.dst≠r.dst:=fun hq=>hiL ((hdst c i rc r hcn hin c4 gr hq)▸hcL)
       unfold lv at c5;omega
    ·exact wo.1 ok.room _ he
   have hsees:(∀d,o.dst=some d->d=r.dst)->ow o (jl s Rs Ms Cs i r) (gy Rs Ms L s):=fun hd=>by
    refine⟨by rw[hseen];rfl,fun x hx => ?_,hhp,fun d hd' => ?_⟩
    ·cases x with
     |tmp t=>
      exact hreads t (by simp only[iw];refine List.mem_append.2 (.inl ?_);rw[List.mem_filterMap];exact⟨.tmp t,hx,rfl⟩)
     |_=>rfl
    ·rw[hd d hd'];exact hroom
   rcases st with⟨nB,st⟩|⟨_,s2,s3,s4⟩
   rotate_left
   ·exact qnc i3 (by simp[Region.wanted,s2]) (s4 L hinv.lt (hsees (fun d hd=>(s3 d hd).1)) G a w hr _)
   have hB':∀j∈i::L,¬B j:=fun j hj=>by
    rcases List.mem_cons.1 hj with rfl|hj
    ·exact nB
    ·exact hB j hj
   rcases st with⟨s1,s2,s3,ps,c,s4,s5⟩|⟨md,s1,s2,s3,s4⟩
   ·have h9':=zey (hsees (fun d hd=>by rw[s2]at hd;injection hd with hd;exact hd.symm)) hreads s4
    have hadd:(gy Rs Ms L s).add o.dst r.v r.new=some (gy Rs Ms (i::L) s):=by
     rw[s2];have hbl:Nat.blt r.dst s.n=true:=by simpa using s3
     simp only[St.add,gy,hbl,qT,gn,f8,f9,s1,gr,wM]
    exact zex hr i3 h9' s5 hadd (fun G' a' w' hr'=>ih (i::L) _ G' a' w' oD hnext hgood' hB' hr')
   ·refine q0e i3 (by simp[Region.wanted,s2]) (s4 _ (hsees (fun d hd=>(s3 d hd).1)) (by rw[hseen];rfl) _ _ _ _ _ _ hr _ (fun G' a' w' hr'=>ih (i::L) _ G' a' w' oD hnext hgood' hB' ?_))
    have:(gy Rs Ms L s).addM md=gy Rs Ms (i::L) s:=by
     simp[St.addM,gy,gn,f8,f9,s1]
    rw[← this];exact hr'
def zvs{ops:Array Oper}{n:Nat}{Rs:List HR}{Ms:List (Nat×Md)}{Cs:List (Nat×List Nat×List Nat)}{N:Act->World->Prop}(hn:n<=ops.size)(hed:kj ops.toList 0=true)(ht:nh ops n=true)(ac:Rs.length=n)
  (hO:∀i o,i<n->ops[i]? = some o->∃r,nq ops s Rs Ms Cs i o r/\yv P ops s Rs Ms Cs i o r)
  (htail:∀(G:Gh)(a:Act)(w:World)(listed:Array Bool),ai vhe vg8 vhb G (d7 Ms (List.range n) Rs 0 s) a w->uy ops n listed->jx P TT ops N (ops.size-n) listed a w)
  (g:Nat) (L:List Nat) (listed:Array Bool) (G:Gh) (a:Act) (w:World) (hg:ops.size=g+L.length) (hinv:Inv ops n L listed) (hgood:lh (ij Rs) L) (hr:ai vhe vg8 vhb G (gy Rs Ms L s) a w):jx P TT ops N g listed a w:=by
 refine zg6 (B:=fun _=>False) (Cs:=Cs) hn hed ac (fun L listed i o hinv _ i3 i4 hex => ?_) (fun i o hi ho=>by obtain⟨r,h1,h2⟩:=hO i o hi ho;exact⟨r,h1,.inl ⟨id,h2⟩⟩) (fun _=>htail) g L listed G a w hg hinv hgood (fun _ _ h=>h) hr
 obtain⟨i0,hi0,hm0⟩:=hex;have hso:i<ops.size:=(Array.getElem?_eq_some_iff.1 i3).1;rcases Nat.lt_or_ge i n with h|h
 ·exact h
 ·rcases Nat.lt_or_ge n i with h|h
  ·obtain⟨e,he1,he2,he3⟩:=q3z (q3m ht h i3);have:=hinv.lt _ (i4 e he1 he3);omega
  ·have:i=n:=oA
   subst this;exact absurd (zlj ht i3 hinv.closed i4 i0 hi0) hm0
def zvr{ops:Array Oper}{j:Nat}{Rs:List HR}{Ms:List (Nat×Md)}{Cs:List (Nat×List Nat×List Nat)}{N:Act->World->Prop}(hj:j<ops.size)(hed:kj ops.toList 0=true)(hlate:∀i o,j<i->ops[i]? = some o->∃e∈o.after,Region.binds .any e=true/\j<=e.on)(ac:Rs.length=j+1)
  (hO:∀i o,i<j->ops[i]? = some o->∃r,nq ops s Rs Ms Cs i o r/\yv P ops s Rs Ms Cs i o r)
  (hT:∀o,ops[j]? = some o->∃r,nq ops s Rs Ms Cs j o r/\qyp P TT vhe vg8 vhb (j+1) s Rs Ms Cs j o r)
  (g:Nat) (L:List Nat) (listed:Array Bool) (G:Gh) (a:Act) (w:World) (hg:ops.size=g+L.length) (hinv:Inv ops (j+1) L listed) (hgood:lh (ij Rs) L) (hB:∀k∈L,k≠j) (hr:ai vhe vg8 vhb G (gy Rs Ms L s) a w):jx P TT ops N g listed a w:=by
 refine zg6 (B:=fun k=>k=j) (n:=j+1) (Cs:=Cs) hj hed ac (fun L listed i o hinv hB i3 i4 hex => ?_) (fun i o hi ho => ?_) (fun h=>absurd rfl (h j (Nat.lt_succ_self j))) g L listed G a w hg hinv hgood hB hr
 ·rcases Nat.lt_or_ge i (j+1) with h|h
  ·exact h
  ·obtain⟨e,e1,e2,e3⟩:=hlate i o h i3;have h1:=i4 e e1 e2;have h2:=hinv.lt _ h1;exact absurd (show e.on=j by omega) (hB _ h1)
 ·by_cases hij:i=j
  ·subst hij;obtain⟨r,h1,h2⟩:=hT o ho;exact⟨r,h1,.inr ⟨rfl,h2⟩⟩
  ·obtain⟨r,h1,h2⟩:=hO i o oA ho
   exact⟨r,h1,.inl ⟨hij,h2⟩⟩
end
end Go.Sym
namespace Go.Sym
open Go.RowKit
variable[LC]
def qqn(P:Program)(T:TypeId):Option AV:=match P.info? T with
 |some i=>match i.zero with|some (.agg vs)=>some (.agg (qc2 vs.toList))|_=>none
 |none=>none
def q1a(P:Program)(T:TypeId):Bool:=match P.info? T,P.underlying T with|some i,some (.int _)=>i.comparable|_,_=>false
def qn6(P:Program):AV->AV->Option AV
 |.val .nilIface,.iface _ _=>some (.val (.bool false))| .iface t x,.iface t' y=>bif Nat.beq t t' then(match x,y with
   |.byte a,.byte b=>bif q1a P t then some (.bool (a==b)) else none| _,_=>none) else some (.val (.bool false))
 |_,_=>none
def q18:AV->Option AV|.val (.bool b)=>some (.val (.bool (!b)))|.bool b=>some (.bool (!b))|_=>none
def ifV(P:Program)(s:St)(op:BinOp)(x y:Operand):Option AV:=match s.ev x,s.ev y with
 |some u,some v=>match op with
  |.eql=>qn6 P u v|.neq=>match qn6 P u v with|some r=>q18 r|none=>none
  |_=>none
 |_,_=>none
def taV(P:Program)(s:St)(x:Operand)(T:TypeId):Option AV:=match P.underlying T with
 | some d=>bif qif d then(match s.ev x with
   | some (.iface t v)=>bif Nat.beq t T then some (.tup [v,.val (.bool true)]) else(match qqn P T with
    |some z=>some (.tup [z,.val (.bool false)])| none=>none)
   | some (.val .nilIface)=>(match qqn P T with
    |some z=>some (.tup [z,.val (.bool false)])| none=>none)
   | _=>none) else none
 |none=>none
def zhd(P:Program)(s:St):Op->Option AV
 |.typeAssert x _ T true=>taV P s x T|.binOp op t x y _=>match P.underlying t with|some (.interface _)=>ifV P s op x y|_=>none
 |_=>none
def q06(P:Program)(s:St)(o:Oper):Option St:=match o.dst with
 |some tt=>match zhd P s o.op with|some v=>bif Nat.blt tt s.n then some { s with fr:=(tt,v)::s.fr } else none|none=>none
 |none=>none
section
variable{P:Program}{vhe:World}{vg8:Gh}{vhb:List (Nat×ag)}{G:Gh}{s:St}{a:Act}{w:World}
def zpx{T:TypeId}{z:AV}(h:qqn P T=some z)(w:World)(G:Gh):∃v,(zeroValue T).run P w = .ok v w/\aj z G v:=by
 unfold qqn at h;split at h
 ·rename_i i hi;split at h
  ·rename_i vs hz;simp only[qI]at h;subst h;exact⟨.agg vs,by simp[zeroValue,rr hi,hz],vs,rfl,q2x G _⟩
  ·cases h
 ·cases h
def z08{x:Operand}{T xT:TypeId}{r:AV}(hx:∀v,s.ev x=some v->aj v G (a.eval x))(h:taV P s x T=some r):∃v,(Instr.typeAssert (a.eval x) xT T true).run P w = .ok v w/\aj r G v:=by
 unfold taV at h;split at h
 ·rename_i d hd;cases hn:qif d<;>rw[hn]at h<;>simp only[qT,qF,reduceCtorEq]at h
  have hnot:∀ms,d ≠ .interface ms:=fun ms e=>by subst e;cases hn
  split at h
  ·rename_i t v e;obtain⟨u,hu,hr⟩:=hx _ e;rw[hu];cases hb:Nat.beq t T<;>rw[hb]at h<;>simp only[qT,qF]at h
   ·have hne:t≠T:=fun e=>by subst e;simp at hb
    split at h
    ·rename_i z hz;simp only[qI]at h;subst h;obtain⟨zv,h1,h2⟩:=zpx hz w G;refine⟨.tuple #[zv,.bool false],?_,_,rfl,h2,rfl,trivial⟩;cases d<;>first
      |exact absurd rfl (hnot _)
      |simp[Instr.typeAssert,bh hd,hne,h1]
    ·cases h
   ·have:=qN hb;subst this;simp only[qI]at h;subst h;refine⟨.tuple #[u,.bool true],?_,_,rfl,hr,rfl,trivial⟩;cases d<;>first
     |exact absurd rfl (hnot _)
     |simp[Instr.typeAssert,bh hd]
  ·rename_i e;have hu:=hx _ e;simp only[aj]at hu;rw[hu];split at h
   ·rename_i z hz;simp only[qI]at h;subst h;obtain⟨zv,h1,h2⟩:=zpx hz w G;refine⟨.tuple #[zv,.bool false],?_,_,rfl,h2,rfl,trivial⟩;cases d<;>first
     |exact absurd rfl (hnot _)
     |simp[Instr.typeAssert,bh hd,h1]
   ·cases h
  ·cases h
 ·cases h
def zhb{t:TypeId}{ms:Array (String×TypeId)}(hu:P.underlying t=some (.interface ms)){u v r:AV}(h:qn6 P u v=some r){x y:Value}(hx:aj u G x)(hy:aj v G y) :
  ∃b,aj r G (.bool b)/\∀(p q:Operand),(do eqGuard .eql t p q x y;binOp .eql t x y:Sem Value).run P w = .ok (.bool b) w/\(do eqGuard .neq t p q x y;binOp .neq t x y:Sem Value).run P w = .ok (.bool (!b)) w:=by
 have key:∀b,(∀d,(Op.equalIn (d+2) t x y).run P w = .ok b w)->(Op.equal t x y).run P w = .ok b w:=fun b h=>h 9998
 unfold qn6 at h;split at h
 ·rename_i t' x';simp only[qI]at h;subst h;simp only[aj]at hx;obtain⟨u',hy,_⟩:=hy;subst hx hy;have k:=key false fun d=>by simp[Op.equalIn,bh hu]
  exact⟨false,rfl,fun p q=>⟨by simp[eqGuard,binOp,k],by simp[eqGuard,binOp,k]⟩⟩
 ·rename_i t1 x1 t2 y1;obtain⟨u1,e1,r1⟩:=hx;obtain⟨u2,e2,r2⟩:=hy;subst e1 e2;cases hb:Nat.beq t1 t2<;>rw[hb]at h<;>simp only[qT,qF]at h
  ·have hne:t1≠t2:=fun e=>by subst e;simp at hb
   simp only[qI]at h;subst h;have k:=key false fun d=>by simp[Op.equalIn,bh hu,hne]
   exact⟨false,rfl,fun p q=>⟨by simp[eqGuard,binOp,k],by simp[eqGuard,binOp,k]⟩⟩
  ·have:=qN hb;subst this;split at h
   ·rename_i b1 b2;cases hc:q1a P t1<;>rw[hc]at h<;>simp only[qT,qF,reduceCtorEq,qI]at h
    subst h;simp only[aj]at r1 r2;subst r1 r2;unfold q1a at hc;split at hc
    ·rename_i i k hi hk;have k:=key (b1==b2) ?_;exact⟨b1==b2,rfl,fun p q=>⟨by simp[eqGuard,binOp,k],by simp[eqGuard,binOp,k]⟩⟩
     intro d;have e:((b1.toNat:Int)==(b2.toNat:Int))=(b1==b2):=by
      by_cases hq:b1=b2
      ·subst hq;simp
      ·have:b1.toNat≠b2.toNat:=fun e=>hq (UInt8.toNat_inj.1 e)
       have h1:((b1.toNat:Int)==(b2.toNat:Int))=false:=by
        rw[beq_eq_false_iff_ne];exact fun e=>this (Int.ofNat_inj.1 e)
       have h2:(b1==b2)=false:=by simpa using hq
       rw[h1,h2]
     have hin:(Op.equalIn (d+1) t1 (.int .u8 b1.toNat) (.int .u8 b2.toNat)).run P w = .ok (b1==b2) w:=by
      rw[← e];simp[Op.equalIn,bh hk]
     obtain⟨m,hm⟩:∃m,m=d+1:=⟨_,rfl⟩;rw[← hm]at hin;rw[show d+2=m+1 by omega]
     simp[Op.equalIn,bh hu,rr hi,hc,hin]
    ·cases hc
   ·cases h
 ·cases h
def zxs{r r':AV}(h:q18 r=some r'){b:Bool}(hr:aj r G (.bool b)):aj r' G (.bool (!b)):=by
 unfold q18 at h;split at h
 ·simp only[qI]at h;subst h;simp only[aj,Value.bool.injEq]at hr;subst hr;rfl
 ·simp only[qI]at h;subst h;simp only[aj,Value.bool.injEq]at hr;subst hr;rfl
 ·cases h
def zvz(hr:ai vhe vg8 vhb G s a w){o:Oper}{s':St}(h:q06 P s o=some s'){N:Act->World->Prop}(hN:∀G' a' w',ai vhe vg8 vhb G' s' a' w'->N a' w'):fj P o a w N:=by
 obtain⟨dst,op,ty,pos,after,guard⟩:=o;unfold q06 at h;split at h
 ·rename_i tt e1;simp only at e1;subst e1;split at h
  ·rename_i v hv;cases hb:Nat.blt tt s.n<;>rw[hb]at h<;>simp only[qT,qF,reduceCtorEq,qI]at h
   subst h;simp only at hv;have fin:∀u,(execOp a.eval ⟨some tt,op,ty,pos,after,guard⟩).run P w = .ok (.value u) w->aj v G u->(∀c,op ≠ .defer c)->fj P ⟨some tt,op,ty,pos,after,guard⟩ a w N:=by
    intro u hrun hru hd;refine er hd ?_;unfold Oper.wp;rw[hrun];exact hN G _ _ (gm (v:=v) hr (by simp[St.add,hb,qT,List.nil_append]) hru)
   unfold zhd at hv;split at hv
   ·rename_i x xT T;obtain⟨u,h1,h2⟩:=z08 (xT:=xT) (w:=w) (fun v hv=>bi hr hv) hv
    exact fin u (by simp[execOp,h1]) h2 oC
   ·rename_i op t x y p;split at hv
    ·rename_i ms hu;unfold ifV at hv;split at hv
     ·rename_i u1 u2 e1 e2;have r1:=bi hr e1;have r2:=bi hr e2;split at hv
      ·obtain⟨b,h2,h3⟩:=zhb (w:=w) hu hv r1 r2;exact fin (.bool b) (by simp only[execOp,Sem.run_bind,(h3 x y).1,Result.andThen_ok];rfl) h2 oC
      ·split at hv
       ·rename_i r hr';obtain⟨b,h2,h3⟩:=zhb (w:=w) hu hr' r1 r2;exact fin (.bool (!b)) (by simp only[execOp,Sem.run_bind,(h3 x y).2,Result.andThen_ok];rfl) (zxs hv h2) oC
       ·cases hv
      ·cases hv
     ·cases hv
    ·cases hv
   ·cases hv
  ·cases h
 ·cases h
end
structure g8(vhe:World)(vg8:Gh)(vhb:List (Nat×ag))(G:Gh)(s:St)(a:Act)(w:World):Prop where
 defers:∃bs:List Nat,a.defers=bs.map (fun b=>{ target := .collected b,args:=#[] })/\bs.map some=s.df.map G.box
 frame:∀i x,af s.fr i=some x->∃v,a.tmps[i]? = some v/\aj x G v
 fin:Fin vhe vg8 vhb G s.hp w
def ai.lt{vhe:World}{vg8:Gh}{vhb:List (Nat×ag)}{G:Gh}{s:St}{a:Act}{w:World}(h:ai vhe vg8 vhb G s a w):g8 vhe vg8 vhb G s a w:=⟨h.defers,h.frame,h.fin⟩
def g8.less{vhe:World}{vg8:Gh}{vhb:List (Nat×ag)}{G:Gh}{s s':St}{a:Act}{w:World}(h:g8 vhe vg8 vhb G s a w)(h1:s'.df=s.df)(h2:∀i x,af s'.fr i=some x->af s.fr i=some x)(h3:∀i x,af s'.hp i=some x->x = .dead\/af s.hp i=some x):g8 vhe vg8 vhb G s' a w:=
 ⟨by rw[h1];exact h.defers,fun i x hx=>h.frame i x (h2 i x hx),⟨⟨h.fin.mem.agree,h.fin.mem.one,fun n b hb=>by
  rcases h3 _ _ hb with rfl|hb
  ·trivial
  ·exact h.fin.mem.holds n b hb,fun n m b b' c k1 k2 e1 e2=>by
  rcases h3 _ _ k1 with rfl|k1
  ·cases e1
  ·rcases h3 _ _ k2 with rfl|k2
   ·cases e2
   ·exact h.fin.mem.apart n m b b' c k1 k2 e1 e2,h.fin.mem.tab⟩,h.fin.bel,h.fin.imm_le,h.fin.imm_new,fun n b c k1 e1=>by
  rcases h3 _ _ k1 with rfl|k1
  ·cases e1
  ·exact h.fin.base n b c k1 e1,h.fin.keep,h.fin.keepOwn⟩⟩
def qh2(f:FuncId):ov->Bool|.thr f' _=>Nat.beq f' f|_=>false
def zwp{f:FuncId}{k:ov}(h:qh2 f k=true):∃ks,k = .thr f ks:=by
 cases k with|thr f' ks=>exact⟨ks,by rw[qN (show Nat.beq f' f=true from h)]⟩|_=>cases h
def zlq(s:St)(f:FuncId)(ys:List AV)(e:cm):Option Rq:=bif qh2 f e.key then qh6 s ys [] e else none
def qac(tb:Tb)(s:St)(o:Oper):Option (Rq×List AV×Nat):=
 match o.op,o.dst with
 |.call { callee := .value g,args,argTypes:=_ },some t=>match s.ev g,s.evs args.toList with
  |some (.fn (.func f) [] cap),some xs=>match vp (zlq s f (xs++cap)) tb.ents with|some q=>some (q,xs++cap,t)|none=>none
  |_,_=>none
 |_,_=>none
def qpc{R:Type}(s:St)(x:Rq×List AV×Nat)(E:AV->St->Option R)(K:St->Option R):Option R:=
 x.1.K fun d=>match d with
  |.mem N xs hp r hp'=>match py s True x.2.1 N xs hp r hp' x.2.2 with
   |some (_,s')=>match kv r with|some (t,n)=>E (eq t n) { s' with fr:=s.fr }|none=>K s'
   |none=>none
  |_=>none
def q2i:AV->Option (TypeId×Int)|.iface t (.agg [.int .i64 n])=>some (t,n)|.iface t (.agg [.val (.int .i64 n)])=>some (t,n)|_=>none
def q2h{R:Type}(s:St)(x:Operand)(E:AV->St->Option R):Option R:=match s.ev x with
 |some v=>match q2i v with|some (t,n)=>E (eq t n) s|none=>none
 |none=>none
section
variable{P:Program}{vhe:World}{vg8:Gh}{vhb:List (Nat×ag)}{G:Gh}{s:St}{a:Act}{w:World}{TT:List PanicEntry->Act->World->Prop}
def zx6{v:AV}{t:TypeId}{n:Int}(h:q2i v=some (t,n)){u:Value}(hr:aj v G u):u=wv t n:=by
 unfold q2i at h;split at h
 ·simp only[qI,qP]at h;obtain⟨rfl,rfl⟩:=h;obtain⟨u1,rfl,vs,rfl,h3⟩:=hr;obtain⟨l⟩:=vs
  match l,h3 with|[x],h3=>have:=h3.1;simp only[aj]at this;rw[this];rfl
 ·simp only[qI,qP]at h;obtain⟨rfl,rfl⟩:=h;obtain⟨u1,rfl,vs,rfl,h3⟩:=hr;obtain⟨l⟩:=vs
  match l,h3 with|[x],h3=>have:=h3.1;simp only[aj]at this;rw[this];rfl
 ·cases h
def zx5{R:Type}(hr:ai vhe vg8 vhb G s a w){x:Operand}{o:Oper}(ho:o.op = .panic x){E:AV->St->Option R}{y:R}(h:q2h s x E=some y){N:Act->World->Prop}
  (hE:∀t n s',E (eq t n) s'=some y->∀G' a' w',g8 vhe vg8 vhb G' s' a' w'->TT [{ v:=wv t n,recovered:=false }] a' w'):qd P TT o a w N:=by
 obtain⟨dst,op,ty,pos,after,guard⟩:=o;simp only at ho;subst ho;unfold q2h at h;split at h
 ·rename_i v hv;split at h
  ·rename_i t n hp;have hu:=zx6 hp (bi hr hv);have hrun:(execOp a.eval ⟨dst,.panic x,ty,pos,after,guard⟩).run P w = .halt (.panic (wv t n)) w:=by
    simp[execOp,Instr.panic,hu,wv,goPanic]
   refine zli oC ?_
   unfold Oper.wp;rw[hrun];exact⟨_,rfl,hE t n s h G a w hr.lt⟩
  ·cases h
 ·cases h
def zlo(hr:ai vhe vg8 vhb G s a w){o:Oper}{g:Operand}{args:Array Operand}{tys:Array TypeId}{t:Tmp}(ho:o.op = .call { callee := .value g,args,argTypes:=tys })(hd:o.dst=some t){f:FuncId}{cap ys:List AV}(hg:s.ev g=some (.fn (.func f) [] cap))(hargs:s.evs args.toList=some ys)(hpl:Plain P f)
  {names:List (Nat×Nat)} {xs:List AV} {hp1 hp2:List (Nat×ag)} {r:AV} {ps:List Prop} {s':St} (hmc:py s True (ys++cap) names xs hp1 r hp2 t=some (ps,s'))
  (k5:∀ps,bn false [] (AV.rens (ar names) (ys++cap)) xs=some ps->ap ps) (k6:∀hpv ps,gv (ar names) s.hp names=some hpv->ix hpv hp1=some ps->ap ps) :
  (ce P f xs hp1 r hp2->∀N:Act->World->Prop,(∀G' a' w',ai vhe vg8 vhb G' s' a' w'->N a' w')->fj P o a w N) /\
  (∀x,qjl P x f xs hp1 hp2->(∀G' w',ai vhe vg8 vhb G' { s' with fr:=s.fr } a w'->TT [{ v:=wv x.1 x.2,recovered:=false }] a w')->∀N:Act->World->Prop,qd P TT o a w N):=by
 obtain⟨dst,op,ty,pos,after,guard⟩:=o;simp only at ho hd;subst ho hd;unfold py at hmc;cases hbb:dr names&&nz names&&a7 (s.nx+32*t) s.hp&&Nat.blt t s.n<;>rw[hbb]at hmc<;>simp only[qT,qF,reduceCtorEq]at hmc
 simp only[qA,Nat.blt_eq]at hbb;obtain⟨⟨⟨hq1',_⟩,hq2⟩,hq3⟩:=hbb;split at hmc
 ·rename_i hpv ps1 hv hvs;split at hmc
  ·rename_i ps2 hvw;simp only[qI,qP]at hmc;obtain⟨rfl,rfl⟩:=hmc;have p1:=k5 _ hvs;have p2:=k6 _ _ hv hvw;obtain⟨fs,cs,hge,hfs,hcs⟩:=bi hr hg;have hfs0:fs=#[]:=Array.eq_empty_of_size_eq_zero (by simpa using hfs.length.symm)
   subst hfs0;have hrun:(execOp a.eval ⟨some t,.call { callee := .value g,args:=args,argTypes:=tys },ty,pos,after,guard⟩).run P w = .ok (.enter f (args.map a.eval++cs)) w:=by
    simp[execOp,resolve,hge,Deferred.ofValue,invoke,hpl _ w]
   have hreps:ak (ys++cap) G ((args.toList.map a.eval)++cs.toList):=ub (vm hr hargs) hcs;have e1:((args.toList.map a.eval)++cs.toList).toArray=args.map a.eval++cs:=oC
   have hm:bp (G.view names) hp1 w:=(hr.fin.mem.view hv (vk hq1')).vw hvw p2;have hreps2:=ke (Gh.le.refl _) (fun e=>by cases e) hvs p1 (ak.ren (G:=G) (G':=G.view names) (fun _ _ _ h=>h) (qf names) (ru names) hreps)
   refine⟨fun hct N hN => ?_,fun x hct hE N => ?_⟩
   ·refine er oC ?_
    unfold Oper.wp;rw[hrun];have:=hct w (G.view names) _ hm hreps2;rw[e1]at this;refine this.mono ?_;intro en w' hpost;obtain⟨G',v,rfl,hG⟩:=qc0 hr hq1' hq2 hq3 hv hvw p2 hpost;exact hN _ _ _ hG
   ·refine zli oC ?_
    unfold Oper.wp;rw[hrun];have:=hct w (G.view names) _ hm hreps2;rw[e1]at this;refine this.mono ?_;intro en w' hpost;obtain⟨rfl,G',hf⟩:=hpost;obtain⟨G2,v,_,_,_,hR⟩:=qh8 (r := .undef) (e := .returned undef) hr hq1' hq2 oA hv hvw p2 ⟨undef,G',rfl,hf,trivial⟩
    exact⟨_,rfl,hE _ _ hR⟩
  ·cases hmc
 ·cases hmc
def zln{tb:Tb}(hT:∀e∈tb.ents,e.Sound P){o:Oper}{q:Rq×List AV×Nat}(hq:qac tb s o=some q){d:D}(hd:q.1.Out d) :
  ∃g args tys t f cap ys names xs hp1 r hp2,o.op = .call { callee := .value g,args,argTypes:=tys }/\o.dst=some t/\s.ev g=some (.fn (.func f) [] cap)/\s.evs args.toList=some ys/\q.2=(ys++cap,t)/\d = .mem names xs hp1 r hp2/\Plain P f /\
   (match kv r with
    |none=>ce P f xs hp1 r hp2| some x=>qjl P x f xs hp1 hp2) /\
   (∀ps,bn false [] (AV.rens (ar names) (ys++cap)) xs=some ps->ap ps)/\(∀hpv ps,gv (ar names) s.hp names=some hpv->ix hpv hp1=some ps->ap ps):=by
 unfold qac at hq;split at hq
 ·rename_i g args tys t e1 e2;split at hq
  ·rename_i f cap ys hg hargs;split at hq
   ·rename_i q1 hq1;have hq:=qJ hq;subst hq;obtain⟨e,hemem,hc⟩:=vq hq1;unfold zlq at hc;cases hkk:qh2 f e.key<;>rw[hkk]at hc<;>simp only[qT,qF,reduceCtorEq]at hc
    obtain⟨names,x1,x1',z,k1,k2,k3,k4,k5,k6⟩:=qh7 hc hd;have hs:=hT e hemem x1 x1' z k1;obtain⟨ks,hks⟩:=zwp hkk;rw[hks]at hs;exact⟨g,args,tys,t,f,cap,ys,names,_,_,_,_,e1,e2,hg,hargs,rfl,k2,hs.1,hs.2,k5,k6⟩
   ·cases hq
  ·cases hq
 ·cases hq
def zlp{tb:Tb}(hT:∀e∈tb.ents,e.Sound P)(hr:ai vhe vg8 vhb G s a w){R:Type}{o:Oper}{q:Rq×List AV×Nat}(hq:qac tb s o=some q){E:AV->St->Option R}{K:St->Option R}{y:R}(h:qpc s q E K=some y){N:Act->World->Prop}
  (hN:∀s',K s'=some y->∀G' a' w',ai vhe vg8 vhb G' s' a' w'->N a' w')
  (hE:∀t n s',E (eq t n) s'=some y->∀G' a' w',g8 vhe vg8 vhb G' s' a' w'->TT [{ v:=wv t n,recovered:=false }] a' w'):qd P TT o a w N:=by
 unfold qpc at h;obtain⟨d,hd,h⟩:=Rq.K_some h;obtain⟨g,args,tys,t,f,cap,ys,names,xs,hp1,r,hp2,ho,hdst,hg,hargs,hq2,rfl,hpl,hct,k5,k6⟩:=zln hT hq hd;simp only[hq2]at h;split at h
 ·rename_i ps s' hmc;obtain⟨c1,c2⟩:=zlo (TT:=TT) hr ho hdst hg hargs hpl hmc k5 k6;split at h
  ·rename_i tx n hmk;rw[hmk]at hct;exact c2 _ hct (fun G' w' hR=>hE tx n _ h _ _ _ hR.lt) N
  ·rename_i hmk;rw[hmk]at hct;intro ops i b rest k cs h1 h2 h3;exact .inl (c1 hct N (fun G' a' w' hR=>hN _ h _ _ _ hR) ops i b rest k cs h1 h2 h3)
 ·cases h
def z1f{tb:Tb}(hT:∀e∈tb.ents,e.Sound P){t:St}{o:Oper}{q:Rq×List AV×Nat}(hq:qac tb t o=some q){N:List (Nat×Nat)}{xs:List AV}{hp1 hp2:List (Nat×ag)}{r:AV}(hd:q.1.Out (.mem N xs hp1 r hp2)){ps:List Prop}{md:Md}(hm:t6 t True q.2.1 N xs hp1 r hp2 q.2.2=some (ps,md)) :
  (kv r=none->qjn P o t md) /\
  ∀x,kv r=some x->∀(st:St),ow o t st->t.n=st.n->∀(G:Gh)(a:Act)(w:World),ai vhe vg8 vhb G st a w->(∀G' w',ai vhe vg8 vhb G' { st with hp:=md.h++st.hp } a w'->TT [{ v:=wv x.1 x.2,recovered:=false }] a w')->∀N:Act->World->Prop,qd P TT o a w N:=by
 obtain⟨g,args,tys,tt,f,cap,ys,names,xs,hp1,r,hp2,ho,hdst,hg,hargs,hq2,e,hpl,hct,k5,k6⟩:=zln hT hq hd;cases e
 rw[hq2]at hm;simp only at hm;have core:∀(vhe:World)(vg8:Gh)(vhb:List (Nat×ag))(st:St),ow o t st->t.n=st.n->∀(G:Gh)(a:Act)(w:World),ai vhe vg8 vhb G st a w->(ce P f xs hp1 r hp2->∀N:Act->World->Prop,(∀G' a' w',ai vhe vg8 vhb G' (st.addM md) a' w'->N a' w')->fj P o a w N) /\
  (∀x,qjl P x f xs hp1 hp2->(∀G' w',ai vhe vg8 vhb G' { st.addM md with fr:=st.fr } a w'->TT [{ v:=wv x.1 x.2,recovered:=false }] a w')->∀N:Act->World->Prop,qd P TT o a w N):=by
  intro vhe vg8 vhb st hs hn G a w hr;have hev:=hs.ev;rw[ho]at hev;have h1:t.ev g=st.ev g:=hev g oK
  have h2:t.evs args.toList=st.evs args.toList:=qcq (fun x hx=>hev x (by simp[Op.operands,Call.operands];exact .inr (by simpa using hx)))
  rw[h1]at hg;rw[h2]at hargs;have hm':=zih hs.hp (hs.room tt hdst) hs.nx hn hm;refine zlo (TT:=TT) hr ho hdst hg hargs hpl (zig hm') k5 fun hpv ps hv hvw => ?_
  unfold t6 at hm;cases hc:dr N&&nz N&&a7 (t.nx+32*tt) t.hp&&Nat.blt tt t.n<;>rw[hc]at hm<;>simp only[qT,qF,reduceCtorEq]at hm
  split at hm
  ·rename_i hpv' ps1 hv' hvs;have:=q3t hs.hp hv';rw[hv]at this;have:=qJ this;subst this;exact k6 _ _ hv' hvw
  ·cases hm
 refine⟨fun hmk st hs hn vhe vg8 vhb G a w hr N hN => ?_,fun x hmk st hs hn G a w hr hE N => ?_⟩
 ·rw[hmk]at hct;exact(core vhe vg8 vhb st hs hn G a w hr).1 hct N hN
 ·rw[hmk]at hct;exact(core vhe vg8 vhb st hs hn G a w hr).2 x hct hE N
end
end Go.Sym
