/- What the claim rests on, part 2: gathered texts. -/
import Derived.RangeFuncRecord
import Derived.Laws.RangeAny
import Derived.Laws.MakeOwn
import Derived.Laws.IdiomStrings
import Derived.Laws.Cover4
import Derived.Test.YtnhhffhkeegdgaaGreatDoorSyN1
set_option linter.defProp false
set_option linter.unusedSimpArgs false
set_option linter.unusedVariables false
namespace Go.Sym
open Go.RowKit
variable{TT:List PanicEntry->Act->World->Prop}[LC]
section
variable{P:Program}{z5m:World}{z5g:Gh}{z5j:List (Nat×ag)}{s:St}
def HOk(P:Program)(ops:Array Oper)(s:St)(Rs:List HR)(i:Nat)(o:Oper):Prop:=
 ∃r ps,∃c:uw,Rs[i]? = some r/\o.dst=some r.dst/\r.dst<s.n/\bh (s.nx+32*r.dst) s.hp=true/\ni (Rs.take i) o.after.toList=some r.pred/\ph r.dst (Rs.take i)=true /\
  rl r.pred (jj ops o) (Rs.take i) 0=true/\rx ops r.dst r.pred i=true/\jx P ops (tf r.pred (Rs.take i) 0 s) c o=some (ps,r.v,r.new)/\aq ps
def yy{d:Nat}:∀{rs:List HR},ph d rs=true↔∀r∈rs,r.dst≠d
 |[]=>by simp[ph]|r::rs=>by
  simp only[ph,qA,Bool.not_eq_true',yy (rs:=rs),wE,forall_eq_or_imp];constructor
  ·rintro⟨h1,h2⟩;exact⟨fun e=>by subst e;simp at h1,h2⟩
  ·rintro⟨h1,h2⟩
   refine⟨?_,h2⟩;cases hb:Nat.beq r.dst d
   ·rfl
   ·exact absurd (qN hb) h1
def qk5{Rs:List HR}:∀{es:List Edge}{l:List Nat},ni Rs es=some l ->
  (∀e∈es,Region.binds .any e=true->e.on∈l)/\(∀j∈l,∃e∈es,Region.binds .any e=true/\(j=e.on\/∃r,Rs[e.on]? = some r/\j∈r.pred))
 |[],l,h=>by simp[ni,qI]at h;subst h;exact⟨fun e he=>(by cases he),fun j hj=>(by cases hj)⟩
 |e::es,l,h=>by
  simp[ni]at h;cases hb:Region.binds .any e<;>rw[hb]at h<;>simp at h
  ·obtain⟨h1,h2⟩:=qk5 h;refine⟨fun e' he' hbe => ?_,fun j hj => ?_⟩
   ·rcases List.mem_cons.1 he' with rfl|he'
    ·rw[hb]at hbe;cases hbe
    ·exact h1 e' he' hbe
   ·obtain⟨e',he',r⟩:=h2 j hj;exact⟨e',qE _ he',r⟩
  ·split at h
   ·rename_i r l' hr hl';simp at h;subst h;obtain⟨h1,h2⟩:=qk5 hl';refine⟨fun e' he' hbe => ?_,fun j hj => ?_⟩
    ·rw[qkt];rcases List.mem_cons.1 he' with rfl|he'
     ·exact .inl qH
     ·exact .inr (h1 e' he' hbe)
    ·rw[qkt]at hj;rcases hj with hj|hj
     ·rcases List.mem_cons.1 hj with rfl|hj
      ·exact⟨e,qH,hb,.inl rfl⟩
      ·exact⟨e,qH,hb,.inr ⟨r,hr,hj⟩⟩
     ·obtain⟨e',he',r⟩:=h2 j hj;exact⟨e',qE _ he',r⟩
   ·cases h
def q1e{pred reads:List Nat}:∀{rs:List HR}{j:Nat},rl pred reads rs j=true->∀k r,rs[k]? = some r->j+k∈pred\/r.dst∉reads
 |[],j,_,k,r,hr=>by simp at hr|r0::rs,j,h,k,r,hr=>by
  simp only[rl,qA,Bool.or_eq_true,Bool.not_eq_true']at h
  cases k with
  |zero=>
   simp at hr;subst hr;rcases h.1 with h|h
   ·exact .inl (fc.1 h)
   ·exact .inr (fun hm=>by rw[fc.2 hm]at h;cases h)
  |succ k=>
   have:=q1e h.2 k r (by simpa using hr)
   rwa [show j+(k+1)=j+1+k by omega]
def q2o{ops:Array Oper}{d:Nat}{pred:List Nat}:∀{i:Nat},rx ops d pred i=true->∀j o,j<i->ops[j]? = some o->j∈pred\/d∉jj ops o
 |0,_,j,o,hj,_=>by omega|i+1,h,j,o,hj,ho=>by
  simp[rx,qA,Bool.or_eq_true]at h;by_cases hij:j=i
  ·subst hij;rcases h.1 with h|h
   ·exact .inl (fc.1 h)
   ·rw[ho]at h;simp at h;exact .inr (fun hm=>by rw[fc.2 hm]at h;cases h)
  ·exact q2o h.2 j o oA ho
def q2m{o:Oper}{j:Nat}(h:qlm o j=true):∃e∈o.after,e.on=j/\Region.binds .any e=true:=by
 obtain⟨e,he,hb⟩:=List.any_eq_true.1 h;simp only[qA]at hb;exact⟨e,by simpa using he,qN hb.1,hb.2⟩
def q8n:∀{l:List Oper}{i:Nat},qo2 l i=true->∀j o,l[j]? = some o->qlm o (i+j-1)=true
 |[],i,_,j,o,ho=>by simp at ho|o0::l,i,h,j,o,ho=>by
  simp[qo2,qA]at h
  cases j with|zero=>simp at ho;subst ho;exact h.1|succ j=>have:=q8n h.2 j o (by simpa using ho);rwa [show i+(j+1)-1=i+1+j-1 by omega]
def qpg{L:List Nat}:∀{es:List Edge},(∀e∈es,Region.binds .any e=true->e.on∈L)->∀j∈qew es,j∈L
 |[],_,j,h=>by cases h
 |e::es,hL,j,h=>by
  simp[qew]at h;cases hb:Region.binds .any e<;>rw[hb]at h<;>simp only[qT,qF]at h
  ·exact qpg (fun e he=>hL e (qE _ he)) j h
  ·rcases List.mem_cons.1 h with rfl|h
   ·exact hL e qH hb
   ·exact qpg (fun e he=>hL e (qE _ he)) j h
def zde{ops:Array Oper}{L:List Nat}(hcl:∀i∈L,∀o,ops[i]? = some o->∀e∈o.after,Region.binds .any e=true->e.on∈L):∀{n:Nat}{S:List Nat},(∀j∈S,j∈L)->∀j∈qqt ops n S,j∈L
 |0,S,hS,j,h=>hS j h|n+1,S,hS,j,h=>by
  simp[qqt]at h;refine zde hcl (fun i hi => ?_) j h
  cases hb:bq S n<;>rw[hb]at hi<;>simp at hi
  ·exact hS i hi
  ·split at hi
   ·rename_i o ho;rcases List.mem_append.1 hi with hi|hi
    ·exact qpg (fun e he hb'=>hcl n (hS n (fc.1 hb)) o ho e (by simpa using he) hb') i hi
    ·exact hS i hi
   ·exact hS i hi
def q7n{S:List Nat}:∀{n:Nat},qok S n=true->∀j,j<n->j∈S
 |0,_,j,h=>by omega|n+1,h,j,hj=>by
  simp[qok,qA]at h;by_cases e:j=n
  ·subst e;exact fc.1 h.1
  ·exact q7n h.2 j oA
def zez{ops:Array Oper}{n:Nat}(h:ol ops n=true){o:Oper}(ho:ops[n]? = some o){L:List Nat}(hcl:∀i∈L,∀o,ops[i]? = some o->∀e∈o.after,Region.binds .any e=true->e.on∈L)
  (hL:∀e∈o.after,Region.binds .any e=true->e.on∈L):∀j,j<n->j∈L:=fun j hj=>by
 unfold ol at h;split at h
 ·rename_i hd;have:n<ops.size:=(Array.getElem?_eq_some_iff.1 ho).1;have:=congrArg List.length hd;simp at this;omega
 ·rename_i o' l hd;have:o'=o:=by
   have:=congrArg (fun l=>l[0]?) hd
   simp at this;rw[ho]at this;injection this with this;exact this.symm
  subst this;simp at h;exact zde hcl (qpg fun e he=>hL e (by simpa using he)) j (q7n h.1 j hj)
def q18{ops:Array Oper}{n:Nat}(h:ol ops n=true){i:Nat}{o:Oper}(hi:n<i)(ho:ops[i]? = some o):qlm o (i-1)=true:=by
 unfold ol at h;split at h
 ·rename_i hd;have:i<ops.size:=(Array.getElem?_eq_some_iff.1 ho).1;have:=congrArg List.length hd;simp at this;omega
 ·rename_i o' l hd;simp at h;have hl:l[i-(n+1)]? = some o:=by
   have:=congrArg (fun l=>l[i-n]?) hd
   simp at this;rw[show n+(i-n)=i by omega,ho,show i-n=(i-(n+1))+1 by omega,List.getElem?_cons_succ]at this
   exact this.symm
  have:=q8n h.2 (i-(n+1)) o hl
  rwa [show n+1+(i-(n+1))-1=i-1 by omega]at this
def o8:∀{l:List Oper}{i:Nat},ld l i=true->∀j o,l[j]? = some o->∀e∈o.after,Region.binds .any e=true->e.on<i+j
 |[],i,_,j,o,ho=>by simp at ho|o0::l,i,h,j,o,ho=>by
  simp only[ld,qA]at h
  cases j with
  |zero=>
   simp at ho;subst ho;intro e he hb;have:=List.all_eq_true.1 h.1 e (by simpa using he)
   simp[hb,Bool.not_true,Bool.false_or,Nat.blt_eq]at this;exact this
  |succ j=>have:=o8 h.2 j o (by simpa using ho);rwa [show i+(j+1)=i+1+j by omega]
def qbm{ops:Array Oper}{listed:Array Bool}{i:Nat}:i∈Region.ready .any ops listed↔i<ops.size/\listed.getD i true=false/\∃o,ops[i]? = some o/\∀e∈o.after,Region.binds .any e=true->listed.getD e.on false=true:=by
 unfold Region.ready;simp only[List.mem_filter,List.mem_range,qA,Bool.not_eq_true'];constructor
 ·rintro⟨h1,h2,h3⟩
  obtain⟨o,ho⟩:∃o,ops[i]? = some o:=⟨ops[i],by simp[h1]⟩
  refine⟨h1,h2,o,ho,fun e he hb => ?_⟩
  rw[ho]at h3;simp only[wQ,Option.getD_some]at h3;have:=Array.all_eq_true'.1 h3 e he;simpa [hb] using this
 ·rintro⟨h1,h2,o,ho,h3⟩
  refine⟨h1,h2,?_⟩;rw[ho];simp only[wQ,Option.getD_some];refine Array.all_eq_true'.2 (fun e he => ?_)
  cases hb:Region.binds .any e
  ·simp
  ·simp[h3 e he hb]
def zj:∀(n:Nat)(L:List Nat),L.Nodup->(∀i∈L,i<n)->L.length<=n
 |0,L,_,h=>by
  cases L with|nil=>simp|cons x L=>have:=h x qH;omega
 |n+1,L,hd,h=>by
  by_cases hm:n∈L
  ·have:=zj n (L.erase n) (hd.erase n) (fun i hi=>by
    have h1:=h i (List.mem_of_mem_erase hi);have h2:i≠n:=fun e=>by subst e;exact(hd.not_mem_erase) hi
    omega)
   rw[List.length_erase_of_mem hm]at this;omega
  ·have:=zj n L hd (fun i hi=>by
    have h1:=h i hi;have h2:i≠n:=fun e=>hm (e▸hi)
    omega)
   omega
def qz3:∀(n:Nat)(L:List Nat),(∀i,i<n->i∈L)->n<=L.length
 |0,L,_=>Nat.zero_le _|n+1,L,h=>by
  have hm:n∈L:=h n oA
  have:=qz3 n (L.erase n) (fun i hi=>(List.mem_erase_of_ne oA).2 (h i oA))
  rw[List.length_erase_of_mem hm]at this;have:0<L.length:=List.length_pos_of_mem hm;omega
structure yc(ops:Array Oper)(m:Nat)(listed:Array Bool):Prop where
 size:listed.size=ops.size
 iff:∀j,j<ops.size->(listed.getD j true=true↔j<m)
def zud{ops:Array Oper}{N:Act->World->Prop}{listed:Array Bool}{a:Act}{w:World}(hu:yc ops ops.size listed)(h:N a w):jz P TT ops N (ops.size-ops.size) listed a w:=by
 rw[Nat.sub_self];refine⟨?_,h⟩
 cases hq:Region.ready .any ops listed with
 |nil=>rfl|cons i r=>
  have hi:i∈Region.ready .any ops listed:=by rw[hq];exact qH
  obtain⟨h1,h2,_⟩:=qbm.1 hi;rw[(hu.iff i h1).2 h1]at h2;cases h2
def zue{ops:Array Oper}{N:Act->World->Prop}{n m:Nat}(he:ld ops.toList 0=true)(ht:ol ops n=true)(hn:n<=m)(hms:m<ops.size){listed:Array Bool}{a:Act}{w:World}(hu:yc ops m listed)
  (h:qq P TT ops m (fun a w=>∀listed,yc ops (m+1) listed->jz P TT ops N (ops.size-(m+1)) listed a w) a w):jz P TT ops N (ops.size-m) listed a w:=by
 obtain⟨k,hk⟩:∃k,ops.size-m=k+1:=⟨ops.size-m-1,oA⟩
 obtain⟨o,ho⟩:∃o,ops[m]? = some o:=⟨ops[m],by simp[hms]⟩
 have hli:=hu.iff;have hsz:=hu.size;rw[hk];have hmr:m∈Region.ready .any ops listed:=by
  refine qbm.2 ⟨hms,?_,o,ho,fun e hee hb => ?_⟩
  ·cases hq:listed.getD m true
   ·rfl
   ·have:=(hli m hms).1 hq;omega
  ·have:=o8 he m o (by simpa using ho) e hee hb
   have hlt:e.on<m:=oA
   have h5:=(hli e.on oA).2 hlt
   rw[Array.getD_eq_getD_getElem?]at h5 ⊢;have:listed[e.on]? = some listed[e.on]:=by simp[show e.on<listed.size by omega]
   rw[this]at h5 ⊢;exact h5
 refine⟨fun hnil=>(by rw[hnil]at hmr;cases hmr),fun i hi => ?_⟩
 have him:i=m:=by
  obtain⟨i1,i2,oi,i3,i4⟩:=qbm.1 hi;rcases Nat.lt_trichotomy i m with hlt|heq|hgt
  ·rw[(hli i i1).2 hlt]at i2;cases i2
  ·exact heq
  ·have hw:=q18 ht (show n<i by omega) i3
   obtain⟨e,he1,he2,he3⟩:=q2m hw;have:=i4 e he1 he3;rw[he2]at this;have hf:listed.getD (i-1) true=false:=by
    cases hq:listed.getD (i-1) true
    ·rfl
    ·have:=(hli (i-1) oA).1 hq;omega
   rw[Array.getD_eq_getD_getElem?]at this hf;have h6:listed[i-1]? = some listed[i-1]:=by simp[show i-1<listed.size by omega]
   rw[h6]at this hf;simp at this hf;rw[this]at hf;cases hf
 subst him;refine q82 (fun a w h => ?_) h
 have:=h (listed.setIfInBounds i true) ⟨by simp[hsz],fun j hj => ?_⟩
 ·rwa [show ops.size-(i+1)=k by omega]at this
 ·rw[Array.getD_eq_getD_getElem?,Array.getElem?_setIfInBounds];by_cases hij:i=j
  ·subst hij;simp[show i<listed.size by omega]
  ·rw[qW hij];have:=hli j hj;rw[Array.getD_eq_getD_getElem?]at this;rw[this];omega
structure Inv(ops:Array Oper)(n:Nat)(L:List Nat)(listed:Array Bool):Prop where
 nodup:L.Nodup
 lt:∀i∈L,i<n
 size:listed.size=ops.size
 iff:∀j,j<ops.size->(listed.getD j true=true↔j∈L)
 closed:∀i∈L,∀o,ops[i]? = some o->∀e∈o.after,Region.binds .any e=true->e.on∈L
def Inv.getD_false{ops:Array Oper}{n:Nat}{L:List Nat}{listed:Array Bool}(h:Inv ops n L listed){j:Nat}(hj:j<ops.size):listed.getD j false=true↔j∈L:=by
 rw[← h.iff j hj,Array.getD_eq_getD_getElem?,Array.getD_eq_getD_getElem?];have hj':j<listed.size:=by rw[h.size];exact hj
 have:listed[j]? = some listed[j]:=by simp[hj']
 rw[this];simp
def q7d{Rs:List HR}(hh:qaz s Rs){n:Nat}(ac:Rs.length=n){L:List Nat}(hlt:∀i∈L,i<n)(hall:∀i,i<n->i∈L):(cy Rs L s).eqv (mq Rs s):=by
 have he:=q7a (Rs:=Rs) Rs 0 s (fun k _=>by rw[wO])
 rw[he];have hmem:∀j,j∈(List.range' 0 Rs.length).reverse↔j∈L:=fun j=>by
  rw[List.mem_reverse,List.mem_range'_1,ac];exact⟨fun h=>hall j oA,fun h=>⟨oA,by have:=hlt j h;omega⟩⟩
 refine⟨by rw[(qj Rs _ s).1,(qj Rs _ s).1],by rw[(qj Rs _ s).2,(qj Rs _ s).2],fun d => ?_,fun m => ?_,by rw[qoi,qoi]⟩
 ·by_cases hw:∃j,j∈L/\∃rj:HR,Rs[j]? = some rj/\rj.dst=d
  ·obtain⟨j,hj,rj,hrj,rfl⟩:=hw;rw[qed hh hj hrj,qed hh ((hmem j).2 hj) hrj]
  ·rw[qjg (fun j hj rj hrj e=>hw ⟨j,hj,rj,hrj,e⟩),qjg (fun j hj rj hrj e=>hw ⟨j,(hmem j).1 hj,rj,hrj,e⟩)]
 ·cases hq:ae (cy Rs L s).hp m with
  |some b=>exact(qxd hh (fun j hj=>(hmem j).2 hj) hq).symm
  |none=>
   cases hq':ae (cy Rs (List.range' 0 Rs.length).reverse s).hp m with|none=>rfl|some b=>rw[qxd hh (fun j hj=>(hmem j).1 hj) hq']at hq;cases hq
def zc2{ops:Array Oper}{n:Nat}{Rs:List HR}(hn:n<=ops.size)(hed:ld ops.toList 0=true)(hH:∀i o,i<n->ops[i]? = some o->HOk P ops s Rs i o){L:List Nat}
  (hcl:∀i∈L,∀o,ops[i]? = some o->∀e∈o.after,Region.binds .any e=true->e.on∈L):∀(i:Nat)(o:Oper)(r:HR),i<n->ops[i]? = some o->Rs[i]? = some r->(∀e∈o.after,Region.binds .any e=true->e.on∈L)->(∀j∈r.pred,j∈L/\j<i):=by
 intro i
 induction i using Nat.strongRecOn with
 |ind i ih=>
  intro o r hi ho hr hall j hj;obtain⟨r',ps,_,h1,_,_,_,h5,_⟩:=hH i o hi ho;rw[hr]at h1;injection h1 with h1;subst h1
  obtain⟨e,he,hb,hje⟩:=(qk5 h5).2 j hj;have hlt:=o8 hed i o (by simpa using ho) e (by simpa using he) hb
  have hlt':e.on<i:=oA
  have heL:=hall e (by simpa using he) hb
  rcases hje with rfl|⟨re,hre,hje⟩
  ·exact⟨heL,hlt'⟩
  ·have hre':Rs[e.on]? = some re:=by rw[List.getElem?_take]at hre;rw[qX hlt']at hre;exact hre
   have hoe:ops[e.on]? = some ops[e.on]:=oC
   have:=ih e.on hlt' ops[e.on] re oA hoe hre' (hcl e.on heL _ hoe) j hje
   exact⟨this.1,oA⟩
def zn9{ops:Array Oper}{n:Nat}{Rs:List HR}{N:Act->World->Prop}(hn:n<=ops.size)(hed:ld ops.toList 0=true)(ht:ol ops n=true)(ac:Rs.length=n)
  (hH:∀i o,i<n->ops[i]? = some o->HOk P ops s Rs i o) (hh:qaz s Rs)
  (htail:∀(G:Gh)(a:Act)(w:World)(listed:Array Bool),ai z5m z5g z5j G (mq Rs s) a w->yc ops n listed->jz P TT ops N (ops.size-n) listed a w) :
  ∀(g:Nat)(L:List Nat)(listed:Array Bool)(G:Gh)(a:Act)(w:World),ops.size=g+L.length->Inv ops n L listed->ai z5m z5g z5j G (cy Rs L s) a w->jz P TT ops N g listed a w:=by
 intro g
 induction g with
 |zero=>
  intro L listed G a w hg hinv hr;have h1:=zj n L hinv.nodup hinv.lt;have hnn:n=ops.size:=oA
  have hall:∀i,i<n->i∈L:=fun i hi=>by
   by_cases hm:i∈L
   ·exact hm
   ·have:=zj n (i::L) (List.nodup_cons.2 ⟨hm,hinv.nodup⟩) (fun j hj=>by
     rcases List.mem_cons.1 hj with rfl|hj;· exact hi
     ·exact hinv.lt j hj)
    simp at this;omega
  have:=htail G a w listed (hr.eqv (q7d hh ac hinv.lt hall)) ⟨hinv.size,fun j hj=>by rw[hinv.iff j hj];exact⟨fun h=>hinv.lt j h,fun h=>hall j h⟩⟩
  rwa [hnn,Nat.sub_self]at this
 |succ g ih=>
  intro L listed G a w hg hinv hr;by_cases hall:∀i,i<n->i∈L
  ·have h1:=zj n L hinv.nodup hinv.lt;have h2:=qz3 n L hall;have:=htail G a w listed (hr.eqv (q7d hh ac hinv.lt hall)) ⟨hinv.size,fun j hj=>by rw[hinv.iff j hj];exact⟨fun h=>hinv.lt j h,fun h=>hall j h⟩⟩
   rwa [show ops.size-n=g+1 by omega]at this
  ·
   have hex:∃i,i<n/\i∉L/\∀j,j<i->j∈L:=by
    have:∃i,i<n/\i∉L:=by
     simpa using hall
    obtain⟨i,hi,hm⟩:=this;clear hall
    induction i using Nat.strongRecOn with
    |ind i ih=>
     by_cases hsm:∀j,j<i->j∈L
     ·exact⟨i,hi,hm,hsm⟩
     ·have:∃j,j<i/\j∉L:=by simpa using hsm
      obtain⟨j,hj,hjm⟩:=this;exact ih j hj oA hjm
   obtain⟨i0,hi0,hm0,hsm0⟩:=hex;have hi0s:i0<ops.size:=oA
   have h0r:i0∈Region.ready .any ops listed:=by
    refine qbm.2 ⟨hi0s,?_,ops[i0],oC,fun e he hb => ?_⟩
    ·cases hq:listed.getD i0 true
     ·rfl
     ·exact absurd ((hinv.iff i0 hi0s).1 hq) hm0
    ·have:=o8 hed i0 ops[i0] oC e he hb
     have hlt:e.on<i0:=oA
     exact(hinv.getD_false oA).2 (hsm0 _ hlt)
   refine⟨fun hnil=>(by rw[hnil]at h0r;cases h0r),fun i hi => ?_⟩
   obtain⟨i1,i2,o,i3,i4⟩:=qbm.1 hi;have hiL:i∉L:=fun h=>by rw[(hinv.iff i i1).2 h]at i2;cases i2
   have hin:i<n:=by
    rcases Nat.lt_or_ge i n with h|h
    ·exact h
    ·rcases Nat.lt_or_ge n i with h|h
     ·obtain⟨e,he1,he2,he3⟩:=q2m (q18 ht h i3);have:=i4 e he1 he3;rw[he2,hinv.getD_false oA]at this
      have:=hinv.lt _ this;omega
     ·have:i=n:=oA
      subst this;exact absurd (zez ht i3 hinv.closed (fun e he hb=>by
       have hlt:=o8 hed i o (by simpa using i3) e he hb
       exact(hinv.getD_false oA).1 (i4 e he hb)) i0 hi0) hm0
   have hedge:∀e∈o.after,Region.binds .any e=true->e.on∈L:=fun e he hb=>by
    have hlt:=o8 hed i o (by simpa using i3) e he hb
    exact(hinv.getD_false oA).1 (i4 e he hb)
   obtain⟨r,ps,c,h1,h2,h3,h4,h5,h6,h7,h8,h9,h10⟩:=hH i o hin i3;have hpred:=zc2 hn hed hH hinv.closed i o r hin i3 h1 hedge;have hlen':∀k,k<(Rs.take i).length->Rs[0+k]? = (Rs.take i)[k]? := fun k hk=>by
    rw[List.getElem?_take,qX (by simp at hk;omega),wO]
   have htk:(Rs.take i).length=i:=by simp;omega
   rw[qxi (Rs:=Rs) (Rs.take i) 0 s hlen',htk]at h9
   -- which slots and boxes the operation sees
   have hsel:∀j,j∈((List.range' 0 i).filter (bq r.pred)).reverse↔j∈r.pred:=fun j=>by
    rw[List.mem_reverse,List.mem_filter,fc];constructor
    ·exact fun h=>h.2
    ·intro h;refine⟨?_,h⟩;rw[List.mem_range'_1];exact⟨oA,by have:=(hpred j h).2;omega⟩
   have hreads:∀d∈jj ops o,ae (cy Rs ((List.range' 0 i).filter (bq r.pred)).reverse s).fr d=ae (cy Rs L s).fr d:=fun d hd=>by
    by_cases hw:∃j rj,Rs[j]? = some rj/\rj.dst=d/\(j∈r.pred\/j∈L)
    ·obtain⟨j,rj,hj,rfl,hjj⟩:=hw;have hjp:j∈r.pred:=by
      rcases hjj with h|h
      ·exact h
      ·
       have hjn:=hinv.lt j h;have hji:j≠i:=fun e=>hiL (e▸h)
       rcases Nat.lt_or_gt_of_ne hji with hlt|hgt
       ·rcases q1e h7 j rj (by rw[List.getElem?_take,qX hlt];exact hj) with h'|h'
        ·simpa using h'
        ·exact absurd hd h'
       ·have hoj:ops[j]? = some ops[j]:=oC
        obtain⟨rj',psj,cj,k1,k2,_,_,_,_,_,k8,_⟩:=hH j ops[j] hjn hoj;rw[hj]at k1;injection k1 with k1;subst k1
        rcases q2o k8 i o hgt i3 with h'|h'
        ·have:=zc2 hn hed hH hinv.closed j ops[j] rj hjn hoj hj (hinv.closed j h _ hoj) i h';exact absurd this.1 hiL
        ·exact absurd hd h'
     rw[qed hh ((hsel j).2 hjp) hj,qed hh (hpred j hjp).1 hj]
    ·rw[qjg (fun j hj rj hrj e=>hw ⟨j,rj,hrj,e,.inl ((hsel j).1 hj)⟩),qjg (fun j hj rj hrj e=>hw ⟨j,rj,hrj,e,.inr hj⟩)]
   have hsees:qi o (cy Rs ((List.range' 0 i).filter (bq r.pred)).reverse s) (cy Rs L s):=by
    refine⟨by rw[(qj Rs _ s).2,(qj Rs _ s).2],fun x hx => ?_,fun m b hb=>qxd hh (fun j hj=>(hpred j ((hsel j).1 hj)).1) hb,fun d hd => ?_⟩
    ·cases x with
     |tmp t=>
      exact hreads t (by simp only[jj];refine List.mem_append.2 (.inl ?_);rw[List.mem_filterMap];exact⟨.tmp t,hx,rfl⟩)
     |_=>rfl
    ·rw[h2]at hd;injection hd with hd;subst hd
     rw[(qj Rs _ s).2];exact q7e hh h1 hiL
   have h9':=q7z hsees hreads h9;have hadd:(cy Rs L s).add o.dst r.v r.new=some (cy Rs (i::L) s):=by
    rw[h2];have hbl:Nat.blt r.dst s.n=true:=by simpa using h3
    simp only[St.add,(qj Rs L s).1,hbl,qT,cy,h1,St.addR]
   refine qxs hr i3 h9' h10 hadd (fun G' a' w' hr'=>ih (i::L) _ G' a' w' oE ?_ hr')
   refine⟨List.nodup_cons.2 ⟨hiL,hinv.nodup⟩,fun j hj => ?_,by simp[hinv.size],fun j hj => ?_,fun j hj oj hoj e he hb => ?_⟩
   ·rcases List.mem_cons.1 hj with rfl|hj
    ·exact hin
    ·exact hinv.lt j hj
   ·rw[Array.getD_eq_getD_getElem?,Array.getElem?_setIfInBounds];by_cases hij:i=j
    ·subst hij;simp[hinv.size,i1]
    ·rw[qW hij];have:=hinv.iff j hj;rw[Array.getD_eq_getD_getElem?]at this;rw[this,wE];exact⟨fun h => .inr h,fun h=>h.resolve_left (fun e=>hij e.symm)⟩
   ·rcases List.mem_cons.1 hj with rfl|hj
    ·rw[i3]at hoj;injection hoj with hoj;subst hoj
     exact qE _ (hedge e he hb)
    ·exact qE _ (hinv.closed j hj oj hoj e he hb)
def zm9{ops:Array Oper}{n:Nat}{Rs:List HR}{N:Act->World->Prop}(hn:n<=ops.size)(hed:ld ops.toList 0=true)(ht:ol ops n=true)(hm:P.follows .mixedOrders=true)(ac:Rs.length=n)
  (hH:∀i o,i<n->ops[i]? = some o->HOk P ops s Rs i o)
  (htail:∀(G:Gh)(a:Act)(w:World)(listed:Array Bool),ai z5m z5g z5j G (mq Rs s) a w->yc ops n listed->jz P TT ops N (ops.size-n) listed a w) {G:Gh} {a:Act} {w:World} (hr:ai z5m z5g z5j G s a w) (id:Nat)
  (b:Frame) (k:List Item) (cs:List Frame) (hk:b.kind = .normal) :
  (∃a' w',N a' w'/\Steps P (lone (b.atR a.bs (.code (.region id ops true)::k)) cs w) (lone (b.atR a'.bs k) cs w'))\/jd P b.fn TT (lone (b.atR a.bs (.code (.region id ops true)::k)) cs w) cs:=by
 have hop:∀i,i<n->ops[i]? = some (ops[i]?.getD default):=fun i hi=>by
  have:i<ops.size:=oA
  simp[this]
 have hh:qaz s Rs:=by
  refine⟨fun i j r r' hi hj hd => ?_,fun i r hi => ?_,fun i r hi => ?_⟩
  ·have hi':i<n:=by have:=(List.getElem?_eq_some_iff.1 hi).1;omega
   have hj':j<n:=by have:=(List.getElem?_eq_some_iff.1 hj).1;omega
   obtain⟨ri,_,_,k1,_,_,_,_,k6,_⟩:=hH i _ hi' (hop i hi');obtain⟨rj,_,_,l1,_,_,_,_,l6,_⟩:=hH j _ hj' (hop j hj');rw[hi]at k1;injection k1 with k1;subst k1
   rw[hj]at l1;injection l1 with l1;subst l1
   rcases Nat.lt_trichotomy i j with hlt|heq|hgt
   ·exact absurd hd (yy.1 l6 r (List.mem_of_getElem? (i:=i) (by rw[List.getElem?_take,qX hlt];exact hi)))
   ·exact heq
   ·exact absurd hd.symm (yy.1 k6 r' (List.mem_of_getElem? (i:=j) (by rw[List.getElem?_take,qX hgt];exact hj)))
  ·have hi':i<n:=by have:=(List.getElem?_eq_some_iff.1 hi).1;omega
   obtain⟨ri,ps,_,k1,k2,_,_,_,_,_,_,k9,_⟩:=hH i _ hi' (hop i hi');rw[hi]at k1;injection k1 with k1;subst k1
   have:=q7y k2 k9;have hlen':∀k,k<(Rs.take i).length->Rs[0+k]? = (Rs.take i)[k]? := fun k hk=>by
    rw[List.getElem?_take,qX (by simp at hk;omega),wO]
   rw[qxi (Rs:=Rs) (Rs.take i) 0 s hlen',(qj Rs _ s).2]at this;exact this
  ·have hi':i<n:=by have:=(List.getElem?_eq_some_iff.1 hi).1;omega
   obtain⟨ri,_,_,k1,_,_,k4,_⟩:=hH i _ hi' (hop i hi');rw[hi]at k1;injection k1 with k1;subst k1
   exact k4
 refine q83 hm ?_ b k cs hk;refine zn9 (z5m:=z5m) (z5g:=z5g) (z5j:=z5j) (N:=N) hn hed ht ac hH hh htail ops.size [] _ G a _ oC ?_ ?_
 ·refine⟨List.nodup_nil,fun i hi=>(by cases hi),oC,fun j hj => ?_,fun i hi=>(by cases hi)⟩
  rw[Array.getD_eq_getD_getElem?];simp[hj]
 ·exact⟨hr.defers,hr.size,hr.frame,hr.fresh,⟨⟨hr.fin.mem.agree,hr.fin.mem.one,hr.fin.mem.holds,hr.fin.mem.apart,hr.fin.mem.tab⟩,⟨hr.fin.bel.os,hr.fin.bel.tape,hr.fin.bel.output,hr.fin.bel.size,hr.fin.bel.block⟩,hr.fin.imm_le,hr.fin.imm_new,hr.fin.base,hr.fin.keep,hr.fin.keepOwn⟩⟩
end
end Go.Sym
namespace Go.Sym
open Go.RowKit
variable[LC]
def St.ownNew(s:St)(k:Nat)(τ:Ty)(E:TypeId):St:={ s with hp:=(k,.row τ [] E)::s.hp }
def nd:AV->Bool|.val (.slice none 0 0)=>true|_=>false
def St.ownNil(s:St)(i:Nat)(τ:Ty)(E:TypeId):Option St:=
 match ae s.fr i with
 |some x=>bif nd x&&bh (s.nx+32*i) s.hp then
   some { n:=s.n,fr:=(i,.own (s.nx+32*i))::s.fr,hp:=(s.nx+32*i,.row τ [] E)::s.hp,nx:=s.nx+32*s.n,df:=s.df } else none
 |none=>none
def St.ownCell(s:St)(b off:Nat)(τ:Ty)(E:TypeId):Option St:=
 match ae s.hp b with
 |some (.cells cs T)=>match cs[off]? with
  |some x=>bif nd x&&bh s.nx s.hp then
    some { n:=s.n,fr:=s.fr,hp:=(b,.cells (cs.set off (.own s.nx)) T)::(s.nx,.row τ [] E)::s.hp,nx:=s.nx+32*s.n,df:=s.df } else none
  |none=>none
 |_=>none
section
variable{P:Program}{z5m:World}{z5g:Gh}{z5j:List (Nat×ag)}{G:Gh}{s:St}{a:Act}{w:World}
def ai.bump(hr:ai z5m z5g z5j G s a w):ai z5m z5g z5j G s.bump a w:=⟨hr.defers,hr.size,hr.frame,fun m hm hl=>hr.fresh m (by simp[St.bump]at hm;omega) hl,hr.fin⟩
mutual
def aj.frz{k:Nat}{y:AV}{G':Gh}(hle:G.le G')(hy:∀v,aj (.own k) G v->aj y G' v):∀{x:AV}{v:Value},aj x G v->aj (AV.frz k y x) G' v
 |.undef,_,_=>trivial|.int _ _,_,h=>h|.byte _,_,h=>h|.bool _,_,h=>h|.str _,_,h=>h|.val _,_,h=>h|.sl τ l,v,h=>(show aj (.sl τ l) G v from h).le hle|.yld n,v,h=>(show aj (.yld n) G v from h).le hle|.pn n,v,h=>(show aj (.pn n) G v from h).le hle|.arr τ l,v,h=>(show aj (.arr τ l) G v from h).le hle|.rop cs,v,h=>(show aj (.rop cs) G v from h).le hle|.ptr b off,v,h=>(show aj (.ptr b off) G v from h).le hle|.oel n sz i off,v,h=>(show aj (.oel n sz i off) G v from h).le hle|.osl n sz lo,v,h=>(show aj (.osl n sz lo) G v from h).le hle|.asl b n c,v,h=>(show aj (.asl b n c) G v from h).le hle|.agg cs,_,⟨vs,h1,h2⟩=>⟨vs,h1,am.frz hle hy h2⟩|.tup cs,_,⟨vs,h1,h2⟩=>⟨vs,h1,am.frz hle hy h2⟩|.own n,v,h=>by
  simp[AV.frz];cases hb:Nat.beq n k
  ·exact(show aj (.own n) G v from h).le hle
  ·have:=qN hb;subst this;exact hy v h
 |.fn f first cap,_,⟨fs,cs,h1,h2,h3⟩=>⟨fs,cs,h1,am.frz hle hy h2,am.frz hle hy h3⟩
 |.iface t x,_,⟨u,h1,h2⟩=>⟨u,h1,aj.frz hle hy h2⟩
def am.frz{k:Nat}{y:AV}{G':Gh}(hle:G.le G')(hy:∀v,aj (.own k) G v->aj y G' v):∀{xs:List AV}{vs:List Value},am xs G vs->am (AV.frzs k y xs) G' vs|[],[],_=>trivial|_x::_xs,_v::_vs,h=>⟨aj.frz hle hy h.1,am.frz hle hy h.2⟩|[],_::_,h=>h.elim|_::_,[],h=>h.elim
end
def qzh{k:Nat}{y:AV}:∀{fr:List (Nat×AV)}{i:Nat}{x:AV},ae (qj7 k y fr) i=some x->∃x0,ae fr i=some x0/\x=AV.frz k y x0
 |[],i,x,h=>by cases h
 |(n,z)::r,i,x,h=>by
  simp[qj7,ae]at h ⊢;cases hb:Nat.beq n i
  ·rw[hb]at h;exact qzh h
  ·rw[hb]at h;simp only[qT,qI]at h ⊢;exact⟨z,rfl,h.symm⟩
def qzi{k:Nat}{y:AV}:∀{hp:List (Nat×ag)}{i:Nat},ae (qj8 k y hp) i=(ae hp i).map (qpz k y)
 |[],i=>rfl|(n,b)::r,i=>by
  simp[qj8,ae];cases hb:Nat.beq n i<;>simp[qzi (hp:=r)]
def ai.freeze(hr:ai z5m z5g z5j G s a w){k:Nat}{s':St}(h:s.freeze k=some s'):∃G',ai z5m z5g z5j G' s' a w:=by
 unfold St.freeze at h;split at h
 ·rename_i τ l E hk;simp at h;subst h;have hl1:∀n bx,ae [(k,ag.row τ l E)] n=some bx->n=k/\bx = .row τ l E:=fun n bx h=>by
   simp[ae]at h;cases hb:Nat.beq k n
   ·rw[hb]at h;cases h
   ·rw[hb]at h;simp at h;exact⟨(qN hb).symm,h.symm⟩
  have hlk:ae [(k,ag.row τ l E)] k=some (.row τ l E):=by simp only[ae];rw[show Nat.beq k k=true by simp];rfl
  have hf1:Fin z5m z5g z5j G ({ s with hp:=[(k,.row τ l E)] }:St).hp w:=by
   refine⟨⟨hr.fin.mem.agree,hr.fin.mem.one,fun n bx hb => ?_,fun n m bx bx' b h1 h2 _ _ => ?_,hr.fin.mem.tab⟩,hr.fin.bel,hr.fin.imm_le,hr.fin.imm_new,fun n bx b h1 h2 => ?_,hr.fin.keep,hr.fin.keepOwn⟩
   ·obtain⟨rfl,rfl⟩:=hl1 n bx hb;exact hr.fin.mem.holds _ _ hk
   ·obtain⟨rfl,_⟩:=hl1 n bx h1;obtain⟨rfl,_⟩:=hl1 m bx' h2;rfl
   ·obtain⟨rfl,rfl⟩:=hl1 n bx h1;exact hr.fin.base _ _ b hk h2
  obtain⟨z1,z2,z3,z4⟩:=qxk hf1
  let G':=G.allData [(k,.row τ l E)] w
  have hown:∀v,aj (.own k) G v->aj (.sl τ l) G' v:=fun v hv=>z4 k τ l E v hlk hv
  have hnew:∀b o v,G'.imm b o=some v->G.imm b o=some v\/G.at k (.row τ l E)=some b:=fun b o v h=>by
   simp[G',Gh.allData]at h
   cases hq:G.imm b o with
   |some u=>rw[hq]at h;exact .inl h|none=>
    rw[hq]at h;simp only at h;split at h
    ·rename_i hin;obtain⟨n,τ1,l1,E1,i1,i2,_⟩:=hin;obtain⟨rfl,e⟩:=hl1 n _ i1;rw[e]at i2;exact .inr i2
    ·cases h
  have hother:∀n bx B,n≠k->ae s.hp n=some bx->G.at n bx=some B->(∀o,G.imm B o=none)->∀o,G'.imm B o=none:=fun n bx B hn h1 h2 h3 o=>by
   cases hq:G'.imm B o with
   |none=>rfl|some v=>
    rcases hnew B o v hq with h|h
    ·rw[h3]at h;cases h
    ·exact absurd (hr.fin.mem.apart n k bx _ B h1 hk h2 h) hn
  have hlook:∀n bx,ae ((k,ag.dead)::qj8 k (.sl τ l) s.hp) n=some bx->bx = .dead\/(n≠k/\∃b0,ae s.hp n=some b0/\bx=qpz k (.sl τ l) b0):=fun n bx h=>by
   simp[ae]at h;cases hb:Nat.beq k n
   ·rw[hb]at h;simp at h;rw[qzi]at h
    cases hq:ae s.hp n with
    |none=>rw[hq]at h;cases h
    |some b0=>rw[hq]at h;simp at h;exact .inr ⟨fun e=>by subst e;simp at hb,b0,rfl,h.symm⟩
   ·rw[hb]at h;simp at h;exact .inl h.symm
  have hat:∀n b0,G'.at n (qpz k (.sl τ l) b0)=G.at n b0:=fun n b0=>by cases b0<;>rfl
  refine⟨G',⟨hr.defers,hr.size,fun i x hx => ?_,fun m hm hl => ?_,⟨⟨z2.agree,z2.one,fun n bx hb => ?_,fun n m bx bx' b h1 h2 h3 h4 => ?_,z2.tab⟩,hr.fin.bel,fun b o v h=>z1.imm _ _ _ (hr.fin.imm_le b o v h),fun b o v h => ?_,fun n bx b h1 h2 => ?_,hr.fin.keep,hr.fin.keepOwn⟩⟩⟩
  ·obtain⟨x0,h1,rfl⟩:=qzh hx;obtain⟨v,h2,h3⟩:=hr.frame i x0 h1;exact⟨v,h2,aj.frz z1 hown h3⟩
  ·refine hr.fresh m hm ?_;simp[ae]at hl;cases hb:Nat.beq k m
   ·rw[hb]at hl;simp at hl;rw[qzi]at hl
    cases hq:ae s.hp m with|none=>rfl|some b0=>rw[hq]at hl;cases hl
   ·rw[hb]at hl;cases hl
  ·rcases hlook n bx hb with rfl|⟨hn,b0,h0,rfl⟩
   ·trivial
   ·have hb0:=hr.fin.mem.holds n b0 h0;have ho:=hother n b0
    cases b0 with
    |cells cs T=>
     obtain⟨B,vs,h1,h2,h3,h4,h5⟩:=hb0;exact⟨B,vs,h1,h2,am.frz z1 hown h3,h4,ho B hn h0 (by simp[Gh.at,h1]) h5⟩
    |loop st pe f j fr ps tag D=>
     obtain⟨B,tmps,DB,h1,h2,h3,h4,h5,h6⟩:=hb0;refine⟨B,tmps,DB,h1,h2,h3,h4,fun i x hx => ?_,ho B hn h0 (by simp[Gh.at,h1]) h6⟩
     obtain⟨x0,q1,rfl⟩:=qzh hx;obtain⟨v,q2,q3⟩:=h5 i x0 q1;exact⟨v,q2,aj.frz z1 hown q3⟩
    |dfr=>
     obtain⟨B,h1,h2,h3⟩:=hb0;exact⟨B,h1,h2,ho B hn h0 (by simp[Gh.at,h1]) h3⟩
    |it s0 p0=>
     obtain⟨B,h1,h2,h3⟩:=hb0;exact⟨B,h1,h2,ho B hn h0 (by simp[Gh.at,h1]) h3⟩
    |row τ1 l1 E1=>
     obtain⟨ad,c,h1,h3⟩:=hb0;refine⟨ad,c,h1,?_⟩;rcases h3 with h3|⟨g,vs,fz,k1,k2,k3,k4,k5,k6,k7,k8,k9⟩
     ·exact .inl h3
     ·exact .inr ⟨g,vs,fz,k1,k2,k3,k4,k5,k6,am.data_le z1.imm k7,k8,ho g hn h0 (by subst k1;simp[Gh.at,h1]) k9⟩
    |dead=>trivial
  ·rcases hlook n bx h1 with rfl|⟨hn,b0,h0,rfl⟩
   ·cases h3
   ·rcases hlook m bx' h2 with rfl|⟨hm,b1,h5,rfl⟩
    ·cases h4
    ·rw[hat]at h3 h4;exact hr.fin.mem.apart n m b0 b1 b h0 h5 h3 h4
  ·rcases hnew b o v h with h|h
   ·exact hr.fin.imm_new b o v h
   ·exact .inr (hr.fin.base k _ b hk h)
  ·rcases hlook n bx h1 with rfl|⟨hn,b0,h0,rfl⟩
   ·cases h2
   ·rw[hat]at h2;exact hr.fin.base n b0 b h0 h2
 ·cases h
def zat{x:AV}(h:nd x=true):x = .val (.slice none 0 0):=by
 unfold nd at h;split at h
 ·rfl
 ·cases h
def ai.ownNew(hr:ai z5m z5g z5j G s a w){k:Nat}(τ:Ty)(E:TypeId)(hk:ae s.hp k=none)(hkx:s.nx<=k):∃G',G.le G'/\G'.own k=some (none,0,0)/\ai z5m z5g z5j G' (s.ownNew k τ E) a w:=by
 obtain⟨hkb,hko⟩:=hr.fresh k hkx hk;have hle:G.le (G.addOwn k (none,0,0)):=Gh.addOwn_le hko;have hl1:∀n bx,ae [(k,ag.row τ [] E)] n=some bx->n=k/\bx = .row τ [] E:=fun n bx h=>by
  simp[ae]at h;cases hb:Nat.beq k n
  ·rw[hb]at h;cases h
  ·rw[hb]at h;simp at h;exact⟨(qN hb).symm,h.symm⟩
 refine⟨G.addOwn k (none,0,0),hle,Gh.addOwn_self,⟨by obtain⟨bs,q1,q2⟩:=hr.defers;exact⟨bs,q1,tp hle.box q2⟩,hr.size,fun j x hx => ?_,fun m hm hlm => ?_,?_⟩⟩
 ·obtain⟨v,h1,h2⟩:=hr.frame j x hx;exact⟨v,h1,h2.le hle⟩
 ·simp[St.ownNew,ae]at hlm;cases hq:Nat.beq k m
  ·rw[hq]at hlm;obtain⟨h1,h2⟩:=hr.fresh m hm hlm;refine⟨h1,?_⟩;show(bif Nat.beq m k then some _ else G.own m)=none
   cases hbm:Nat.beq m k
   ·exact h2
   ·have:=qN hbm;subst this;simp at hq
  ·rw[hq]at hlm;cases hlm
 ·refine hr.fin.extend (new:=[(k,.row τ [] E)]) hle ⟨rfl,rfl,rfl,wF _,fun _ _ _=>rfl⟩ (fun _ _ _ h => .inl h) hr.fin.mem.agree hr.fin.mem.one ?_ ?_ ?_
  ·intro n bx h;obtain⟨rfl,_⟩:=hl1 n bx h;exact hk
  ·intro n bx h;obtain⟨rfl,rfl⟩:=hl1 n bx h;exact⟨⟨none,0,Gh.addOwn_self,.inl ⟨rfl,rfl,rfl⟩⟩,fun b hb=>by simp only[Gh.at,Gh.addOwn_self]at hb;cases hb⟩
  ·intro n m bx bx' b h1 h2 _ _;obtain⟨rfl,_⟩:=hl1 n bx h1;obtain⟨rfl,_⟩:=hl1 m bx' h2;rfl
def ai.ownNil(hr:ai z5m z5g z5j G s a w){i:Nat}{τ:Ty}{E:TypeId}{s':St}(h:s.ownNil i τ E=some s'):∃G',ai z5m z5g z5j G' s' a w:=by
 unfold St.ownNil at h;split at h
 ·rename_i x hi;cases hb:nd x&&bh (s.nx+32*i) s.hp<;>rw[hb]at h<;>simp at h
  subst h;simp at hb;have hx:=zat hb.1;subst hx;obtain⟨G',hle,ho,hr'⟩:=hr.ownNew τ E (ng hb.2 _ (wF _) oA) oA
  refine⟨G',⟨hr'.defers,hr'.size,fun j x hx => ?_,fun m hm hl=>hr'.fresh m (by simp only at hm;show s.nx<=m;omega) hl,hr'.fin⟩⟩
  simp[ae]at hx;cases hq:Nat.beq i j
  ·rw[hq]at hx;exact hr'.frame j x hx
  ·rw[hq]at hx;simp at hx;subst hx;have:=qN hq;subst this;obtain⟨v,h1,h2⟩:=hr'.frame i _ hi;exact⟨v,h1,none,0,0,ho,h2⟩
 ·cases h
def ai.ownCell(hr:ai z5m z5g z5j G s a w){b off:Nat}{τ:Ty}{E:TypeId}{s':St}(h:s.ownCell b off τ E=some s'):∃G',ai z5m z5g z5j G' s' a w:=by
 unfold St.ownCell at h;split at h
 ·rename_i cs T hb0;split at h
  ·rename_i x hx0;cases hb:nd x&&bh s.nx s.hp<;>rw[hb]at h<;>simp at h
   subst h;simp at hb;have hx:=zat hb.1;subst hx;have hk:=ng hb.2 s.nx (wF _) oA
   obtain⟨G',hle,ho,hr'⟩:=hr.ownNew τ E hk (wF _);have hne:s.nx≠b:=fun e=>by rw[e,hb0]at hk;cases hk
   have hb1:ae (s.ownNew s.nx τ E).hp b=some (.cells cs T):=by
    simp[St.ownNew,ae];cases hq:Nat.beq s.nx b
    ·exact hb0
    ·exact absurd (qN hq) hne
   obtain⟨B,vs,k1,k2,k3,k4,k5⟩:=hr'.fin.mem.holds _ _ hb1;refine⟨G',⟨hr'.defers,hr'.size,hr'.frame,fun m hm hl=>hr'.fresh m (by simp only at hm;show s.nx<=m;omega) ?_,?_⟩⟩
   ·simp[ae]at hl;cases hq:Nat.beq b m
    ·rw[hq]at hl;exact hl
    ·rw[hq]at hl;cases hl
   ·have hv:vs.toList[off]? = some (.slice none 0 0):=by
     obtain⟨v,h1,h2⟩:=ki k3 hx0;simp[aj]at h2;subst h2;exact h1
    have hset:vs.toList.set off (.slice none 0 0)=vs.toList:=by
     obtain⟨hlt,he⟩:=List.getElem?_eq_some_iff.1 hv;rw[← he,List.set_getElem_self]
    refine hr'.fin.update (bx := .cells cs T) (bx' := .cells (cs.set off (.own s.nx)) T) hb1 (B:=B) k1 k1 ⟨rfl,rfl,rfl,wF _,fun _ _ _=>rfl⟩ ⟨B,vs,k1,k2,?_,k4,k5⟩ k5
    have:=qk7 off k3 (x := .own s.nx) (v := .slice none 0 0) ⟨none,0,0,ho,rfl⟩
    rwa [hset]at this
  ·cases h
 ·cases h
end
def Ty.dec:(τ:Ty)->List AV->Option (τ.den×List AV)
 |.int k,x::r=>match x with|.int k' n=>bif decide (k'=k) then some (n,r) else none|.val (.int k' n)=>bif decide (k'=k) && !decide (k' = .u8) then some (n,r) else none|_=>none
 |.byte,x::r=>match x with|.byte c=>some (c,r)|.val (.int .u8 n)=>bif decide (0<=n)&&decide (n<256) then some (UInt8.ofNat n.toNat,r) else none|_=>none
 |.bool,x::r=>match x with|.bool b=>some (b,r)|.val (.bool b)=>some (b,r)|_=>none
 |.str,x::r=>match x with|.str s=>some (s,r)|_=>none
 |.unit,r=>some ((),r)|.prod a b,cs=>match a.dec cs with
  |some (x,r)=>match b.dec r with|some (y,r')=>some ((x,y),r')|none=>none
  |none=>none
 |.list a,x::r=>match x with
  |.sl a' l=>match Ty.eq? a' a with|some ⟨h⟩=>some (h▸l,r)|none=>none
  |.val (.slice none 0 0)=>some (([]:List a.den),r)|_=>none
 |.tree a,cs=>match a.dec cs with
  |some (v,x::r)=>match x with
   |.sl a' l=>match Ty.eq? a' (.tree a) with|some ⟨h⟩=>some (Tree.node v (h▸l:List (Ty.tree a).den),r)|none=>none
   |.val (.slice none 0 0)=>some (Tree.node v [],r)|_=>none
  |_=>none
 |_,[]=>none
def zfs{b:Bool}{hp:List (Nat×ag)}:∀{xs ys xs' ys':List AV}{ps ps':List Prop},bt b hp xs ys=some ps->bt b hp xs' ys'=some ps'->bt b hp (xs++xs') (ys++ys')=some (ps++ps')
 |[],[],_,_,ps,ps',h,h'=>by simp[bt,qI]at h;subst h;exact h'|x::xs,y::ys,xs',ys',ps,ps',h,h'=>by
  simp[bt,wK]at h ⊢;split at h
  ·rename_i p1 h1;split at h
   ·rename_i p2 h2;simp at h;subst h;rw[zfs h2 h',qS]
   ·cases h
  ·cases h
 |[],_::_,_,_,_,_,h,_=>by simp[bt]at h|_::_,[],_,_,_,_,h,_=>by simp[bt]at h
def f5(xs ys:List AV):Prop:=(∀ρ,AV.rens ρ xs=xs)/\∃ps,bt false [] xs ys=some ps/\aq ps
def f5.append{xs ys xs' ys':List AV}(h:f5 xs ys)(h':f5 xs' ys'):f5 (xs++xs') (ys++ys'):=by
 obtain⟨h1,ps,h2,h3⟩:=h;obtain⟨h1',ps',h2',h3'⟩:=h';exact⟨fun ρ=>by rw[AV.rens_append,h1,h1'],_,zfs h2 h2',dp.2 ⟨h3,h3'⟩⟩
def f5.one{x y:AV}(h:∀ρ,x.ren ρ=x){ps:List Prop}(hv:vw false [] x y=some ps)(hp:aq ps):f5 [x] [y]:=
 ⟨fun ρ=>by simp[AV.rens,h],ps++[],by simp[bt,hv],dp.2 ⟨hp,trivial⟩⟩
def f5.same{x:AV}(h:∀ρ,x.ren ρ=x)(hv:vw false [] x x=some [x=x]):f5 [x] [x]:=f5.one h hv ⟨rfl,trivial⟩
def q8l{a' a:Ty}(h:a'=a)(l:List a'.den):AV.sl a (h▸l)=AV.sl a' l:=by subst h;rfl
def wj:∀{τ:Ty}{cs:List AV}{d:τ.den}{r:List AV},τ.dec cs=some (d,r)->∃ab,cs=ab++r/\f5 ab (τ.enc d)
 |.int k,x::cs,d,r,h=>by
  simp[Ty.dec]at h;split at h
  ·rename_i k' n;cases hk:decide (k'=k)<;>rw[hk]at h<;>simp at h
   obtain⟨rfl,rfl⟩:=h;have:k'=k:=by simpa using hk
   subst this;exact⟨[.int k' d],rfl,f5.same (fun ρ=>rfl) rfl⟩
  ·rename_i k' n;cases hk:decide (k'=k) && !decide (k' = .u8)<;>rw[hk]at h<;>simp at h
   obtain⟨rfl,rfl⟩:=h;simp at hk;obtain⟨rfl,hk⟩:=hk;refine⟨[.val (.int k' d)],rfl,f5.one (y := .int k' d) (ps:=[AV.int k' d=nh (.int k' d)]) (fun ρ=>rfl) rfl ⟨?_,trivial⟩⟩
   cases k'<;>first|rfl|exact absurd rfl hk
  ·cases h
 |.byte,x::cs,d,r,h=>by
  simp[Ty.dec]at h;split at h
  ·rename_i c;simp at h;obtain⟨rfl,rfl⟩:=h;exact⟨[.byte d],rfl,f5.same (fun ρ=>rfl) rfl⟩
  ·rename_i n;cases hk:decide (0<=n)&&decide (n<256)<;>rw[hk]at h<;>simp at h
   obtain⟨rfl,rfl⟩:=h;refine⟨[.val (.int .u8 n)],rfl,f5.one (y := .byte (UInt8.ofNat n.toNat)) (ps:=[AV.byte (UInt8.ofNat n.toNat)=nh (.int .u8 n)]) (fun ρ=>rfl) rfl ⟨?_,trivial⟩⟩
   simp[nh,hk,qT]
  ·cases h
 |.bool,x::cs,d,r,h=>by
  simp[Ty.dec]at h;split at h
  ·rename_i b;simp at h;obtain⟨rfl,rfl⟩:=h;exact⟨[.bool d],rfl,f5.same (fun ρ=>rfl) rfl⟩
  ·rename_i b;simp at h;obtain⟨rfl,rfl⟩:=h;exact⟨[.val (.bool d)],rfl,f5.one (y := .bool d) (ps:=[AV.bool d=nh (.bool d)]) (fun ρ=>rfl) rfl ⟨rfl,trivial⟩⟩
  ·cases h
 |.str,x::cs,d,r,h=>by
  simp[Ty.dec]at h;split at h
  ·rename_i b;simp at h;obtain⟨rfl,rfl⟩:=h;exact⟨[.str d],rfl,f5.same (fun ρ=>rfl) rfl⟩
  ·cases h
 |.unit,cs,d,r,h=>by
  simp[Ty.dec,qI]at h;obtain⟨_,rfl⟩:=h;exact⟨[],rfl,fun ρ=>rfl,[],rfl,trivial⟩
 |.prod a b,cs,d,r,h=>by
  simp[Ty.dec]at h;split at h
  ·rename_i x r1 h1;split at h
   ·rename_i y r2 h2;simp at h;obtain⟨rfl,rfl⟩:=h;obtain⟨p1,rfl,s1⟩:=wj h1;obtain⟨p2,rfl,s2⟩:=wj h2;exact⟨p1++p2,oC,s1.append s2⟩
   ·cases h
  ·cases h
 |.list a,x::cs,d,r,h=>by
  simp[Ty.dec]at h;split at h
  ·rename_i a' l;split at h
   ·rename_i hh _;simp at h;obtain⟨rfl,rfl⟩:=h;exact⟨[.sl a' l],rfl,f5.one (y := .sl a (hh▸l)) (ps:=[AV.sl a (hh▸l)=AV.sl a' l]) (fun ρ=>rfl) rfl ⟨q8l hh l,trivial⟩⟩
   ·cases h
  ·simp at h;obtain⟨rfl,rfl⟩:=h;exact⟨[.val (.slice none 0 0)],rfl,f5.one (y := .sl a []) (ps:=[([]:List a.den).length=0]) (fun ρ=>rfl) rfl ⟨rfl,trivial⟩⟩
  ·cases h
 |.tree a,cs,d,r,h=>by
  simp[Ty.dec]at h;split at h
  ·rename_i v x r1 h1;obtain⟨p1,rfl,s1⟩:=wj h1;split at h
   ·rename_i a' l;split at h
    ·rename_i hh _;simp at h;obtain⟨rfl,rfl⟩:=h;exact⟨p1++[.sl a' l],oC,s1.append (f5.one (y := .sl (.tree a) (hh▸l)) (ps:=[AV.sl (.tree a) (hh▸l)=AV.sl a' l]) (fun ρ=>rfl) rfl ⟨q8l hh l,trivial⟩)⟩
    ·cases h
   ·simp at h;obtain⟨rfl,rfl⟩:=h;exact⟨p1++[.val (.slice none 0 0)],oC,s1.append (f5.one (y := .sl (.tree a) []) (ps:=[([]:List (Ty.tree a).den).length=0]) (fun ρ=>rfl) rfl ⟨rfl,trivial⟩)⟩
   ·cases h
  ·cases h
 |.int _,[],_,_,h=>by simp[Ty.dec]at h|.byte,[],_,_,h=>by simp[Ty.dec]at h|.bool,[],_,_,h=>by simp[Ty.dec]at h|.str,[],_,_,h=>by simp[Ty.dec]at h|.list _,[],_,_,h=>by simp[Ty.dec]at h
inductive CV:Type
 |nilS
 |int (k:IntKind) (n:Int)
 |bool (b:Bool)
 |unit
 |nilFunc
 |nilIface
 |nilPtr
def CV.val:CV->Value|.nilS => .slice none 0 0|.int k n => .int k n|.bool b => .bool b|.unit => .tuple #[]|.nilFunc => .nilFunc|.nilIface => .nilIface|.nilPtr => .pointer none
def CV.is:CV->AV->Bool|.nilS,.val (.slice none 0 0)=>true|.int k n,.val (.int k' n')=>decide (k'=k)&&decide (n'=n)|.bool b,.val (.bool b')=>b'==b|.unit,.val (.tuple vs)=>Nat.beq vs.size 0|.nilFunc,.val .nilFunc=>true|.nilIface,.val .nilIface=>true|.nilPtr,.val (.pointer none)=>true|_,_=>false
def iv:Nat:=1048576
def pg(f:FuncId)(xs:List AV):AV:=bif Nat.blt f iv then .fn (.func f) [] xs else .fn (.func (f-iv)) xs []
inductive Pt:Type
 |h (τ:Ty)
 |c (v:CV)
 |agg (ps:List Pt)
 |tup (ps:List Pt)
 |ptr (b off:Nat)
 |own (k:Nat)
 |arr (τ:Ty)
 |el (k sz:Nat)
 |iel (t:TypeId) (k sz:Nat)
 |ifc (t:TypeId) (p:Pt)
 |yld (n:Nat)
 |pn (n:Nat)
 |fn (f:FuncId) (cap:List Pt)
 |u
mutual
def Pt.den:Pt->Type|.h τ=>τ.den|.agg ps=>Pts.den ps|.tup ps=>Pts.den ps|.fn _ cap=>Pts.den cap|.ifc _ p=>Pt.den p|.arr τ=>List τ.den|_=>Unit
def Pts.den:List Pt->Type|[]=>Unit|p::ps=>p.den×Pts.den ps
end
def Ty.av:(τ:Ty)->τ.den->AV|.int k,n => .int k n|.byte,c => .byte c|.bool,b => .bool b|.str,s => .str s|.list a,l => .sl a l|.unit,_ => .agg []|.prod a b,x => .agg ((Ty.prod a b).enc x)|.tree a,x => .agg ((Ty.tree a).enc x)
def tk(τ:Ty)(x:AV):Option τ.den:=match τ.dec [x] with|some (d,[])=>some d|_=>none
def qjy(τ:Ty)(x:AV):Option τ.den:=match x with
 |.agg cs=>match τ.dec cs with|some (d,[])=>some d|_=>none
 |_=>none
def Ty.getAV:(τ:Ty)->AV->Option τ.den|.int k,x=>tk (.int k) x|.byte,x=>tk .byte x|.bool,x=>tk .bool x|.str,x=>tk .str x|.list a,x=>tk (.list a) x|.unit,x=>qjy .unit x|.prod a b,x=>qjy (.prod a b) x|.tree a,x=>qjy (.tree a) x
mutual
def Pt.put:(p:Pt)->p.den->AV|.h τ,x=>τ.av x|.c v,_ => .val v.val|.agg ps,x => .agg (Pts.put ps x)|.tup ps,x => .tup (Pts.put ps x)|.ptr b off,_ => .ptr b off|.own k,_ => .own k|.arr τ,l => .arr τ l|.el k sz,_ => .oel k sz 0 0|.iel t k sz,_ => .iface t (.oel k sz 0 0)|.ifc t p,x => .iface t (p.put x)|.yld n,_ => .yld n|.pn n,_ => .pn n|.fn f cap,x=>pg f (Pts.put cap x)|.u,_ => .undef
def Pts.put:(ps:List Pt)->Pts.den ps->List AV|[],_=>[]|p::ps,x=>p.put x.1::Pts.put ps x.2
end
abbrev NM:=List (Nat×Nat)
def qp(nm:NM)(b b':Nat):Option NM:=match bf nm b with|some x=>bif Nat.beq x b' then some nm else none|none=>some ((b,b')::nm)
def asAgg:AV->Option (List AV)|.agg xs=>some xs|_=>none
def qou:AV->Option (List AV)|.tup xs=>some xs|_=>none
def qot:AV->Option (Nat×Nat)|.ptr b off=>some (b,off)|_=>none
def qor:AV->Option Nat|.own k=>some k|_=>none
def qxq(τ:Ty):AV->Option (List τ.den)
 |.arr τ' l=>match Ty.eq? τ' τ with|some ⟨h⟩=>some (h▸l)|none=>none
 |_=>none
def qjn:AV->Option (Nat×Nat)|.oel k sz 0 0=>some (k,sz)|_=>none
def zki{τ:Ty}{x:AV}{l:List τ.den}(h:qxq τ x=some l):x = .arr τ l:=by
 cases x<;>simp[qxq,reduceCtorEq]at h
 split at h
 ·rename_i τ' l' e he;simp at h;subst h;cases e;rfl
 ·cases h
def q7x{x:AV}{k sz:Nat}(h:qjn x=some (k,sz)):x = .oel k sz 0 0:=by
 unfold qjn at h;split at h
 ·simp at h;obtain⟨rfl,rfl⟩:=h;rfl
 ·cases h
def qoq:AV->Option (TypeId×AV)|.iface t x=>some (t,x)|_=>none
def zkl{x:AV}{t:TypeId}{y:AV}(h:qoq x=some (t,y)):x = .iface t y:=by
 cases x<;>simp[qoq,reduceCtorEq]at h
 obtain⟨rfl,rfl⟩:=h;rfl
def qop:AV->Option (TypeId×Nat×Nat)
 |.iface t x=>match qjn x with|some (k,sz)=>some (t,k,sz)|none=>none
 |_=>none
def zkk{x:AV}{t:TypeId}{k sz:Nat}(h:qop x=some (t,k,sz)):x = .iface t (.oel k sz 0 0):=by
 cases x<;>simp[qop,reduceCtorEq]at h
 split at h
 ·rename_i k' sz' e;simp at h;obtain⟨rfl,rfl,rfl⟩:=h;rw[q7x e]
 ·cases h
def qov:AV->Option Nat|.yld k=>some k|_=>none
def qos:AV->Option Nat|.pn k=>some k|_=>none
def qxr:AV->Option (FuncId×List AV)
 |.fn f first xs=>match f with
  |.func f'=>match first with
   |[]=>bif Nat.blt f' iv then some (f',xs) else none|y::ys=>match xs with|[]=>some (f'+iv,y::ys)|_=>none
  |_=>none
 |_=>none
def zkh{x:AV}{xs:List AV}(h:asAgg x=some xs):x = .agg xs:=by
 cases x<;>simp[asAgg,reduceCtorEq,qI]at h;subst h;rfl
def zkp{x:AV}{xs:List AV}(h:qou x=some xs):x = .tup xs:=by
 cases x<;>simp[qou,reduceCtorEq,qI]at h;subst h;rfl
def zko{x:AV}{b off:Nat}(h:qot x=some (b,off)):x = .ptr b off:=by
 cases x<;>simp[qot,reduceCtorEq,qI,qP]at h;obtain⟨rfl,rfl⟩:=h;rfl
def zkm{x:AV}{k:Nat}(h:qor x=some k):x = .own k:=by
 cases x<;>simp[qor,reduceCtorEq,qI]at h;subst h;rfl
def zkq{x:AV}{k:Nat}(h:qov x=some k):x = .yld k:=by
 cases x<;>simp[qov,reduceCtorEq,qI]at h;subst h;rfl
def zkn{x:AV}{k:Nat}(h:qos x=some k):x = .pn k:=by
 cases x<;>simp[qos,reduceCtorEq,qI]at h;subst h;rfl
def zkj{x:AV}{f:FuncId}{xs:List AV}(h:qxr x=some (f,xs)):x=pg f xs:=by
 cases x with
 |fn g first cap=>
  cases g with
  |func f'=>
   cases first with
   |nil=>
    have h:(bif Nat.blt f' iv then some (f',cap) else none)=some (f,xs):=h
    cases hb:Nat.blt f' iv<;>rw[hb]at h<;>simp only[qT,qF,reduceCtorEq]at h
    simp at h;obtain⟨rfl,rfl⟩:=h;unfold pg;rw[hb];rfl
   |cons y ys=>
    cases cap with
    |nil=>
     have h:some (f'+iv,y::ys)=some (f,xs):=h;simp at h;obtain⟨rfl,rfl⟩:=h;have hb:Nat.blt (f'+iv) iv=false:=by
      cases hq:Nat.blt (f'+iv) iv
      ·rfl
      ·rw[Nat.blt_eq]at hq;omega
     unfold pg;rw[hb,qF,Nat.add_sub_cancel]
    |cons z zs=>cases h
  |_=>cases h
 |_=>cases h
mutual
def Pt.get:(p:Pt)->AV->NM->Option (p.den×NM)
 |.h τ,x,nm=>match τ.getAV x with|some d=>some (d,nm)|none=>none
 |.c v,x,nm=>bif v.is x then some ((),nm) else none|.agg ps,x,nm=>match asAgg x with|some xs=>Pts.get ps xs nm|none=>none
 |.tup ps,x,nm=>match qou x with|some xs=>Pts.get ps xs nm|none=>none
 |.ptr b off,x,nm=>match qot x with
  |some (b',off')=>bif Nat.beq off' off then(match qp nm b b' with|some nm'=>some ((),nm')|none=>none) else none
  |none=>none
 |.own k,x,nm=>match qor x with
  |some k'=>match qp nm k k' with|some nm'=>some ((),nm')|none=>none
  |none=>none
 |.arr τ,x,nm=>match qxq τ x with|some d=>some (d,nm)|none=>none
 |.el k sz,x,nm=>match qjn x with
  |some (k',sz')=>bif Nat.beq sz' sz then(match qp nm k k' with|some nm'=>some ((),nm')|none=>none) else none
  |none=>none
 |.iel t k sz,x,nm=>match qop x with
  |some (t',k',sz')=>bif Nat.beq t' t&&Nat.beq sz' sz then(match qp nm k k' with|some nm'=>some ((),nm')|none=>none) else none
  |none=>none
 |.ifc t p,x,nm=>match qoq x with|some (t',y)=>bif Nat.beq t' t then p.get y nm else none|none=>none
 |.yld k,x,nm=>match qov x with
  |some k'=>match qp nm k k' with|some nm'=>some ((),nm')|none=>none
  |none=>none
 |.pn k,x,nm=>match qos x with
  |some k'=>match qp nm k k' with|some nm'=>some ((),nm')|none=>none
  |none=>none
 |.fn f cap,x,nm=>match qxr x with|some (f',xs)=>bif Nat.beq f' f then Pts.get cap xs nm else none|none=>none
 |.u,_,nm=>some ((),nm)
def Pts.get:(ps:List Pt)->List AV->NM->Option (Pts.den ps×NM)
 |[],xs,nm=>match xs with|[]=>some ((),nm)|_=>none
 |p::ps,xs,nm=>match xs with
  |x::xs=>match p.get x nm with
   |some (d,nm')=>match Pts.get ps xs nm' with|some (ds,nm'')=>some ((d,ds),nm'')|none=>none
   |none=>none
  |[]=>none
end
def cn(nm nm':NM):Prop:=∀n m,bf nm n=some m->bf nm' n=some m
def cn.refl(nm:NM):cn nm nm:=fun _ _ h=>h
def cn.trans{a b c:NM}(h:cn a b)(k:cn b c):cn a c:=fun n m x=>k n m (h n m x)
def yh{nm nm':NM}{b b':Nat}(h:qp nm b b'=some nm'):cn nm nm'/\bf nm' b=some b':=by
 unfold qp at h;split at h
 ·rename_i x hx;cases hq:Nat.beq x b'<;>rw[hq]at h<;>simp at h
  subst h;have:=qN hq;subst this;exact⟨cn.refl _,hx⟩
 ·rename_i hx;simp at h;subst h;refine⟨fun n m hn => ?_,by simp[bf]⟩
  simp[bf];cases hq:Nat.beq b n
  ·exact hn
  ·have:=qN hq;subst this;rw[hx]at hn;cases hn
def nt(N:NM)(x y:AV):Prop:=∃ps,vw false [] (x.ren (au N)) y=some ps/\aq ps
def qa3(N:NM)(xs ys:List AV):Prop:=∃ps,bt false [] (AV.rens (au N) xs) ys=some ps/\aq ps
def qa3.cons{N:NM}{x y:AV}{xs ys:List AV}(h:nt N x y)(k:qa3 N xs ys):qa3 N (x::xs) (y::ys):=by
 obtain⟨ps,h1,h2⟩:=h;obtain⟨qs,k1,k2⟩:=k;exact⟨ps++qs,by simp[AV.rens,bt,h1,k1],dp.2 ⟨h2,k2⟩⟩
def f5.seens{xs ys:List AV}(h:f5 xs ys)(N:NM):qa3 N xs ys:=by
 obtain⟨h1,ps,h2,h3⟩:=h;exact⟨ps,by rw[h1];exact h2,h3⟩
def qjx{τ:Ty}{x:AV}{d:τ.den}(h:tk τ x=some d){y:AV}(hy:τ.enc d=[y])(N:NM):nt N x y:=by
 unfold tk at h;split at h
 ·rename_i d' hd;simp at h;subst h;obtain⟨ab,e,hs⟩:=wj hd;simp at e;subst e;rw[hy]at hs;obtain⟨ps,h1,h2⟩:=hs.seens N;simp only[AV.rens,bt]at h1;split at h1
  ·rename_i qs hq;simp only[qI]at h1;subst h1;exact⟨qs,hq,(dp.1 h2).1⟩
  ·cases h1
 ·cases h
def qyr{τ:Ty}{x:AV}{d:τ.den}(h:qjy τ x=some d)(N:NM):nt N x (.agg (τ.enc d)):=by
 unfold qjy at h;split at h
 ·split at h
  ·rename_i d' hd;simp at h;subst h;obtain⟨ab,e,hs⟩:=wj hd;simp at e;subst e;obtain⟨ps,h1,h2⟩:=hs.seens N;exact⟨ps,by simp[AV.ren,vw];exact h1,h2⟩
  ·cases h
 ·cases h
def zn3{N:NM}:∀{τ:Ty}{x:AV}{d:τ.den},τ.getAV x=some d->nt N x (τ.av d)|.int _,_,_,h=>qjx h rfl N|.byte,_,_,h=>qjx h rfl N|.bool,_,_,h=>qjx h rfl N|.str,_,_,h=>qjx h rfl N|.list _,_,_,h=>qjx h rfl N|.unit,_,_,h=>qyr h N|.prod _ _,_,_,h=>qyr h N|.tree _,_,_,h=>qyr h N
def CV.is_seen{v:CV}{x:AV}(h:v.is x=true)(N:NM):nt N x (.val v.val):=by
 have:x = .val v.val:=by
  unfold CV.is at h;split at h
  ·rfl
  ·simp at h;obtain⟨rfl,rfl⟩:=h;rfl
  ·simp at h;subst h;rfl
  ·rename_i vs;have:=Array.eq_empty_of_size_eq_zero (qN h);subst this;rfl
  ·rfl
  ·rfl
  ·rfl
  ·cases h
 subst this;exact⟨[AV.val v.val=AV.val v.val],rfl,rfl,trivial⟩
mutual
def Pt.get_seen:∀{p:Pt}{x:AV}{nm nm':NM}{d:p.den},p.get x nm=some (d,nm')->cn nm nm'/\∀N,dn N=true->cn nm' N->nt N x (p.put d)
 |.h τ,x,nm,nm',d,h=>by
  simp[Pt.get]at h;split at h
  ·rename_i d' hd;simp at h;obtain⟨rfl,rfl⟩:=h;exact⟨cn.refl _,fun N _ _=>zn3 hd⟩
  ·cases h
 |.c v,x,nm,nm',d,h=>by
  simp[Pt.get]at h;cases hv:v.is x<;>rw[hv]at h<;>simp at h
  obtain⟨_,rfl⟩:=h;exact⟨cn.refl _,fun N _ _=>CV.is_seen hv N⟩
 |.u,x,nm,nm',d,h=>by
  simp[Pt.get,qI]at h;obtain⟨_,rfl⟩:=h;refine⟨cn.refl _,fun N _ _=>⟨[],?_,trivial⟩⟩
  show vw false [] _ .undef=_;cases AV.ren (au N) x<;>rfl
 |.agg ps,x,nm,nm',d,h=>by
  simp[Pt.get]at h;split at h
  rotate_left
  ·cases h
  rename_i xs hx;have hx:=zkh hx;subst hx;obtain⟨h1,h2⟩:=Pts.get_seen h;exact⟨h1,fun N hN hs=>by obtain⟨qs,q1,q2⟩:=h2 N hN hs;exact⟨qs,q1,q2⟩⟩
 |.tup ps,x,nm,nm',d,h=>by
  simp[Pt.get]at h;split at h
  rotate_left
  ·cases h
  rename_i xs hx;have hx:=zkp hx;subst hx;obtain⟨h1,h2⟩:=Pts.get_seen h;exact⟨h1,fun N hN hs=>by obtain⟨qs,q1,q2⟩:=h2 N hN hs;exact⟨qs,q1,q2⟩⟩
 |.ptr b off,x,nm,nm',d,h=>by
  simp[Pt.get]at h;split at h
  rotate_left
  ·cases h
  rename_i b' off' hx;have hx:=zko hx;subst hx;cases hq:Nat.beq off' off<;>rw[hq]at h<;>simp at h
  split at h
  ·rename_i nm1 hb;simp at h;obtain⟨_,rfl⟩:=h;obtain⟨h1,h2⟩:=yh hb;have:=qN hq;subst this;refine⟨h1,fun N hN hs => ?_⟩
   have:=w6 hN (hs _ _ h2);refine⟨[AV.ptr b off'=AV.ptr b off'],?_,rfl,trivial⟩;show vw false [] (match au N b' with|some b''=>AV.ptr b'' off'|none => .undef) (AV.ptr b off')=_
   rw[this];rfl
  ·cases h
 |.own k,x,nm,nm',d,h=>by
  simp[Pt.get]at h;split at h
  rotate_left
  ·cases h
  rename_i k' hx;have hx:=zkm hx;subst hx;split at h
  ·rename_i nm1 hb;simp at h;obtain⟨_,rfl⟩:=h;obtain⟨h1,h2⟩:=yh hb;refine⟨h1,fun N hN hs => ?_⟩
   have:=w6 hN (hs _ _ h2);refine⟨[AV.own k=AV.own k],?_,rfl,trivial⟩;show vw false [] (match au N k' with|some b''=>AV.own b''|none => .undef) (AV.own k)=_
   rw[this];rfl
  ·cases h
 |.arr τ,x,nm,nm',d,h=>by
  simp[Pt.get]at h;split at h
  ·rename_i d' hd;simp at h;obtain⟨rfl,rfl⟩:=h;have hd:=zki hd;subst hd;exact⟨cn.refl _,fun N _ _=>⟨[AV.arr τ d=AV.arr τ d],rfl,rfl,trivial⟩⟩
  ·cases h
 |.el k sz,x,nm,nm',d,h=>by
  simp[Pt.get]at h;split at h
  rotate_left
  ·cases h
  rename_i k' sz' hx;have hx:=q7x hx;subst hx;cases hq:Nat.beq sz' sz<;>rw[hq]at h<;>simp at h
  split at h
  ·rename_i nm1 hb;simp at h;obtain⟨_,rfl⟩:=h;obtain⟨h1,h2⟩:=yh hb;have:=qN hq;subst this;refine⟨h1,fun N hN hs => ?_⟩
   have:=w6 hN (hs _ _ h2);refine⟨[AV.oel k sz' 0 0=AV.oel k sz' 0 0],?_,rfl,trivial⟩;show vw false [] (match au N k' with|some b''=>AV.oel b'' sz' 0 0|none => .undef) (AV.oel k sz' 0 0)=_
   rw[this];rfl
  ·cases h
 |.iel t k sz,x,nm,nm',d,h=>by
  simp[Pt.get]at h;split at h
  rotate_left
  ·cases h
  rename_i t' k' sz' hx;have hx:=zkk hx;subst hx;cases hq:Nat.beq t' t&&Nat.beq sz' sz<;>rw[hq]at h<;>simp at h
  simp only[qA]at hq;split at h
  ·rename_i nm1 hb;simp only[qI]at h;obtain⟨_,rfl⟩:=h;obtain⟨h1,h2⟩:=yh hb;have:=qN hq.1;subst this;have:=qN hq.2;subst this;refine⟨h1,fun N hN hs => ?_⟩
   have:=w6 hN (hs _ _ h2);refine⟨[t'=t',AV.oel k sz' 0 0=AV.oel k sz' 0 0],?_,rfl,rfl,trivial⟩;show vw false [] (.iface t' (match au N k' with|some b''=>AV.oel b'' sz' 0 0|none => .undef)) (AV.iface t' (AV.oel k sz' 0 0))=_
   rw[this];rfl
  ·cases h
 |.ifc t p,x,nm,nm',d,h=>by
  simp only[Pt.get]at h;split at h
  rotate_left
  ·cases h
  rename_i t' y hx;have hx:=zkl hx;subst hx;cases hq:Nat.beq t' t
  ·rw[hq]at h;cases h
  ·rw[hq]at h;have h:p.get y nm=some (d,nm'):=h;have:=qN hq;subst this;obtain⟨h1,h2⟩:=Pt.get_seen h;refine⟨h1,fun N hN hs => ?_⟩
   obtain⟨qs,q1,q2⟩:=h2 N hN hs;refine⟨(t'=t')::qs,?_,rfl,q2⟩;show vw false [] (.iface t' (AV.ren (au N) y)) (.iface t' (p.put d))=_;simp only[vw,q1]
 |.yld k,x,nm,nm',d,h=>by
  simp[Pt.get]at h;split at h
  rotate_left
  ·cases h
  rename_i k' hx;have hx:=zkq hx;subst hx;split at h
  ·rename_i nm1 hb;simp at h;obtain⟨_,rfl⟩:=h;obtain⟨h1,h2⟩:=yh hb;refine⟨h1,fun N hN hs => ?_⟩
   have:=w6 hN (hs _ _ h2);refine⟨[AV.yld k=AV.yld k],?_,rfl,trivial⟩;show vw false [] (match au N k' with|some b''=>AV.yld b''|none => .undef) (AV.yld k)=_
   rw[this];rfl
  ·cases h
 |.pn k,x,nm,nm',d,h=>by
  simp[Pt.get]at h;split at h
  rotate_left
  ·cases h
  rename_i k' hx;have hx:=zkn hx;subst hx;split at h
  ·rename_i nm1 hb;simp at h;obtain⟨_,rfl⟩:=h;obtain⟨h1,h2⟩:=yh hb;refine⟨h1,fun N hN hs => ?_⟩
   have:=w6 hN (hs _ _ h2);refine⟨[AV.pn k=AV.pn k],?_,rfl,trivial⟩;show vw false [] (match au N k' with|some b''=>AV.pn b''|none => .undef) (AV.pn k)=_
   rw[this];rfl
  ·cases h
 |.fn f cap,x,nm,nm',d,h=>by
  simp[Pt.get]at h;split at h
  rotate_left
  ·cases h
  rename_i f' xs hx;have hx:=zkj hx;subst hx;cases hq:Nat.beq f' f
  ·rw[hq]at h;exact absurd (show(none:Option ((Pt.fn f cap).den×NM))=some (d,nm') from h) oC
  have h:Pts.get cap xs nm=some (d,nm'):=by rw[hq]at h;exact h
  obtain⟨h1,h2⟩:=Pts.get_seen h;have:=qN hq;subst this;refine⟨h1,fun N hN hs => ?_⟩
  obtain⟨qs,q1,q2⟩:=h2 N hN hs;show nt N (pg f' xs) (pg f' (Pts.put cap d));unfold pg;cases hb:Nat.blt f' iv
  ·refine⟨(Fn.func (f' - iv)=Fn.func (f' - iv))::(qs++[]),?_,rfl,by rw[List.append_nil];exact q2⟩
   show(match bt false [] (AV.rens (au N) xs) (Pts.put cap d),bt false [] (AV.rens (au N) []) [] with
    |some ps,some qs=>some ((Fn.func (f' - iv)=Fn.func (f' - iv))::(ps++qs))| _,_=>none)=_
   rw[q1];rfl
  ·refine⟨(Fn.func f'=Fn.func f')::([]++qs),?_,rfl,q2⟩;show(match bt false [] (AV.rens (au N) []) [],bt false [] (AV.rens (au N) xs) (Pts.put cap d) with
    |some ps,some qs=>some ((Fn.func f'=Fn.func f')::(ps++qs))| _,_=>none)=_
   rw[q1];rfl
def Pts.get_seen:∀{ps:List Pt}{xs:List AV}{nm nm':NM}{d:Pts.den ps},Pts.get ps xs nm=some (d,nm')->cn nm nm'/\∀N,dn N=true->cn nm' N->qa3 N xs (Pts.put ps d)
 |[],xs,nm,nm',d,h=>by
  cases xs with
  |nil=>
   have h:some (((),nm):Unit×NM)=some (d,nm'):=h;have e:nm=nm':=congrArg Prod.snd (qJ h);subst e;exact⟨cn.refl _,fun N _ _=>⟨[],rfl,trivial⟩⟩
  |cons x xs=>exact absurd (show(none:Option (Unit×NM))=some (d,nm') from h) oC
 |p::ps,xs,nm,nm',d,h=>by
  cases xs with
  |nil=>exact absurd (show(none:Option ((p.den×Pts.den ps)×NM))=some (d,nm') from h) oC|cons x xs=>
   have h:(match p.get x nm with
    |some (d,nm')=>match Pts.get ps xs nm' with|some (ds,nm'')=>some ((d,ds),nm'')|none=>none
    | none=>none)=some (d,nm'):=h
   split at h
   ·rename_i d1 nm1 h1;split at h
    ·rename_i d2 nm2 h2;simp at h;obtain⟨rfl,rfl⟩:=h;obtain⟨a1,a2⟩:=Pt.get_seen h1;obtain⟨b1,b2⟩:=Pts.get_seen h2;exact⟨a1.trans b1,fun N hN hs=>qa3.cons (a2 N hN (b1.trans hs)) (b2 N hN hs)⟩
    ·cases h
   ·cases h
end
def qv:List (Nat×Pt)->Type|[]=>Unit|(_,p)::r=>p.den×qv r
def lh:(l:List (Nat×Pt))->qv l->List (Nat×AV)|[],_=>[]|(i,p)::r,x=>(i,p.put x.1)::lh r x.2
def yu(fr:List (Nat×AV)):(l:List (Nat×Pt))->NM->Option (qv l×NM)
 |[],nm=>some ((),nm)|(i,p)::r,nm=>match ae fr i with
  |some x=>match p.get x nm with
   |some (d,nm')=>match yu fr r nm' with|some (ds,nm'')=>some ((d,ds),nm'')|none=>none
   |none=>none
  |none=>none
def qpv{fr:List (Nat×AV)}:∀{l:List (Nat×Pt)}{nm nm':NM}{d:qv l},yu fr l nm=some (d,nm')->cn nm nm'/\∀N,dn N=true->cn nm' N->∀i y,ae (lh l d) i=some y->∃x,ae fr i=some x/\nt N x y
 |[],nm,nm',d,h=>by
  have e:nm=nm':=congrArg Prod.snd (qJ (show some (((),nm):Unit×NM)=some (d,nm') from h))
  subst e;exact⟨cn.refl _,fun N _ _ i y hy=>by cases hy⟩
 |(j,p)::r,nm,nm',d,h=>by
  have h:(match ae fr j with
   |some x=>match p.get x nm with
    |some (d,nm')=>match yu fr r nm' with|some (ds,nm'')=>some ((d,ds),nm'')|none=>none
    |none=>none
   | none=>none)=some (d,nm'):=h
  split at h
  ·rename_i x hx;split at h
   ·rename_i d1 nm1 h1;split at h
    ·rename_i d2 nm2 h2;simp at h;obtain⟨rfl,rfl⟩:=h;obtain⟨a1,a2⟩:=Pt.get_seen h1;obtain⟨b1,b2⟩:=qpv h2;refine⟨a1.trans b1,fun N hN hs i y hy => ?_⟩
     have hy:(bif Nat.beq j i then some (p.put d1) else ae (lh r d2) i)=some y:=hy
     cases hb:Nat.beq j i
     ·rw[hb]at hy;exact b2 N hN hs i y hy
     ·rw[hb]at hy;simp at hy;subst hy;have:=qN hb;subst this;exact⟨x,hx,a2 N hN (b1.trans hs)⟩
    ·cases h
   ·cases h
  ·cases h
inductive bj:Type
 |cells (ps:List Pt) (T:TypeId)
 |row (τ:Ty) (E:TypeId)
 |loop (st:LoopState) (pe:Option dr) (f:FuncId) (n:Nat) (fr:List (Nat×Pt)) (ps:List Tmp) (tag:Nat) (D:Nat)
 |dfr
 |it
 |dead
 |dat (τ:Ty) (T:TypeId)
def bj.den:bj->Type|.cells ps _=>Pts.den ps|.row τ _=>List τ.den|.loop _ _ _ _ fr _ _ _=>qv fr|.dfr=>Unit|.it=>List UInt8×Nat|.dead=>Unit|.dat τ _=>τ.den
def bj.put:(p:bj)->p.den->ag|.cells ps T,x => .cells (Pts.put ps x) T|.row τ E,l => .row τ l E|.loop st pe f n fr ps tag D,x => .loop st pe f n (lh fr x) ps tag D|.dfr,_ => .dfr|.it,x => .it x.1 x.2|.dead,_ => .dead|.dat τ T,x => .cells (τ.enc x) T
def dr.beq:Option dr->Option dr->Bool|none,none=>true|some .ret,some .ret=>true|some (.exit i),some (.exit j)=>Nat.beq i j|_,_=>false
def dr.beq_eq:∀{a b:Option dr},dr.beq a b=true->a=b|none,none,_=>rfl|some .ret,some .ret,_=>rfl|some (.exit i),some (.exit j),h=>by rw[qN (show Nat.beq i j=true from h)]|none,some _,h=>by simp[dr.beq]at h|some _,none,h=>by simp[dr.beq]at h|some .ret,some (.exit _),h=>by simp[dr.beq]at h|some (.exit _),some .ret,h=>by simp[dr.beq]at h
def qr:List Nat->List Nat->Bool|[],[]=>true|x::xs,y::ys=>Nat.beq x y&&qr xs ys|_,_=>false
def qpo:∀{a b:List Nat},qr a b=true->a=b
 |[],[],_=>rfl|x::xs,y::ys,h=>by
  simp only[qr,qA]at h;rw[qN h.1,qpo h.2]
 |[],_::_,h=>by simp[qr]at h|_::_,[],h=>by simp[qr]at h
def bj.get:(p:bj)->ag->NM->Option (p.den×NM)
 |.cells ps T,b,nm=>match b with|.cells cs T'=>bif Nat.beq T' T then Pts.get ps cs nm else none|_=>none
 |.row τ E,b,nm=>match b with
  |.row τ' l E'=>match Ty.eq? τ' τ with|some ⟨h⟩=>bif Nat.beq E' E then some ((h▸l:List τ.den),nm) else none|none=>none
  |_=>none
 |.loop st pe f n fr ps tag D,b,nm=>match b with
  |.loop st' pe' f' n' fr' ps' tag' D'=>bif decide (st'=st)&&dr.beq pe' pe&&Nat.beq f' f&&Nat.beq n' n&&qr ps' ps&&Nat.beq tag' tag then
    (match qp nm D D' with
    |some nm1=>yu fr' fr nm1| none=>none) else none
  |_=>none
 |.dfr,b,nm=>match b with|.dfr=>some ((),nm)|_=>none
 |.it,b,nm=>match b with|.it s p=>some ((s,p),nm)|_=>none
 |.dead,_,nm=>some ((),nm)|.dat τ T,b,nm=>match b with
  | .cells cs T'=>bif Nat.beq T' T then(match τ.dec cs with
    |some (d,[])=>some (d,nm)| _=>none) else none
  |_=>none
def qwy(N:NM)(b b':ag):Prop:=∃ps,zw (d9 (au N) b) b'=some ps/\aq ps
def zd9{N:NM}{fr:List (Nat×AV)}:∀{fr':List (Nat×AV)},(∀e∈fr',∃x,ae fr e.1=some x/\nt N x e.2)->∃ps,qcb (pp (au N) fr) fr'=some ps/\aq ps
 |[],_=>⟨[],rfl,trivial⟩|(i,y)::r,h=>by
  obtain⟨x,hx,ps,h1,h2⟩:=h (i,y) qH;obtain⟨qs,k1,k2⟩:=zd9 (fr':=r) (fun e he=>h e (qE _ he))
  have hl:∀(fr:List (Nat×AV)),ae fr i=some x->ae (pp (au N) fr) i=some (x.ren (au N)):=by
   intro fr
   induction fr with
   |nil=>intro h;cases h
   |cons e r ih=>
    obtain⟨j,z⟩:=e;intro h;simp[pp,ae]at h ⊢;cases hb:Nat.beq j i
    ·rw[hb]at h;exact ih h
    ·rw[hb]at h;simp at h;subst h;rfl
  exact⟨ps++qs,by simp[qcb,hl fr hx,h1,k1],dp.2 ⟨h2,k2⟩⟩
def q9w{fr:List (Nat×AV)}:∀{l:List (Nat×Pt)}{nm nm':NM}{d:qv l},yu fr l nm=some (d,nm')->∀N,dn N=true->cn nm' N->∀e∈lh l d,∃x,ae fr e.1=some x/\nt N x e.2
 |[],nm,nm',d,h,N,_,_,e,he=>by cases he
 |(j,p)::r,nm,nm',d,h,N,hN,hs,e,he=>by
  have h:(match ae fr j with
   |some x=>match p.get x nm with
    |some (d,nm')=>match yu fr r nm' with|some (ds,nm'')=>some ((d,ds),nm'')|none=>none
    |none=>none
   | none=>none)=some (d,nm'):=h
  split at h
  ·rename_i x hx;split at h
   ·rename_i d1 nm1 h1;split at h
    ·rename_i d2 nm2 h2;simp at h;obtain⟨rfl,rfl⟩:=h;rcases List.mem_cons.1 (show e∈(j,p.put d1)::lh r d2 from he) with rfl|he
     ·exact⟨x,hx,(Pt.get_seen h1).2 N hN ((qpv h2).1.trans hs)⟩
     ·exact q9w h2 N hN hs e he
    ·cases h
   ·cases h
  ·cases h
def bj.get_seen:∀{p:bj}{b:ag}{nm nm':NM}{d:p.den},p.get b nm=some (d,nm')->cn nm nm'/\∀N,dn N=true->cn nm' N->qwy N b (p.put d)
 |.cells ps T,b,nm,nm',d,h=>by
  cases b with
  |cells cs T'=>
   have h:(bif Nat.beq T' T then Pts.get ps cs nm else none)=some (d,nm'):=h
   cases hq:Nat.beq T' T
   ·rw[hq]at h;cases h
   ·rw[hq]at h;have h:Pts.get ps cs nm=some (d,nm'):=h;obtain⟨h1,h2⟩:=Pts.get_seen h;have:=qN hq;subst this;refine⟨h1,fun N hN hs => ?_⟩
    obtain⟨qs,q1,q2⟩:=h2 N hN hs;refine⟨qs,?_,q2⟩;show(bif Nat.beq T' T' then bt false [] (AV.rens (au N) cs) (Pts.put ps d) else none)=some qs
    rw[show Nat.beq T' T'=true by simp,q1];rfl
  |_=>exact absurd (show(none:Option ((bj.cells ps T).den×NM))=some (d,nm') from h) oC
 |.row τ E,b,nm,nm',d,h=>by
  cases b with
  |row τ' l E'=>
   have h:(match Ty.eq? τ' τ with
    |some ⟨h⟩=>bif Nat.beq E' E then some ((h▸l:List τ.den),nm) else none| none=>none)=some (d,nm'):=h
   split at h
   ·rename_i hh _;cases hq:Nat.beq E' E
    ·rw[hq]at h;cases h
    ·rw[hq]at h;simp at h;obtain⟨rfl,rfl⟩:=h;have:=qN hq;subst this;subst hh;exact⟨cn.refl _,fun N _ _=>⟨[ag.row τ' l E'=ag.row τ' l E'],rfl,rfl,trivial⟩⟩
   ·cases h
  |_=>exact absurd (show(none:Option ((bj.row τ E).den×NM))=some (d,nm') from h) oC
 |.loop st pe f n fr ps tag D,b,nm,nm',d,h=>by
  cases b with
  |loop st' pe' f' n' fr' ps' tag' D'=>
   have h:(bif decide (st'=st)&&dr.beq pe' pe&&Nat.beq f' f&&Nat.beq n' n&&qr ps' ps&&Nat.beq tag' tag then
    (match qp nm D D' with
    |some nm1=>yu fr' fr nm1| none=>none) else none)=some (d,nm'):=h
   cases hq:decide (st'=st)&&dr.beq pe' pe&&Nat.beq f' f&&Nat.beq n' n&&qr ps' ps&&Nat.beq tag' tag
   ·rw[hq]at h;cases h
   ·rw[hq]at h;simp at h;simp only[qA,decide_eq_true_eq]at hq;obtain⟨⟨⟨⟨⟨q1,q2⟩,q3⟩,q4⟩,q5⟩,q6⟩:=hq;have q2:=dr.beq_eq q2;have q3:=qN q3;have q4:=qN q4;have q5:=qpo q5;have q6:=qN q6;subst q1 q2 q3 q4 q5 q6;split at h
    ·rename_i nm1 hb;obtain⟨b1,b2⟩:=yh hb;obtain⟨c1,_⟩:=qpv h;refine⟨b1.trans c1,fun N hN hs => ?_⟩
     have hD:=w6 hN (hs _ _ (c1 _ _ b2));obtain⟨qs,k1,k2⟩:=zd9 (q9w h N hN hs);refine⟨([st'=st',pe'=pe',f'=f',n'=n',ps'=ps',tag'=tag',D=D]:List Prop)++qs,?_,dp.2 ⟨⟨rfl,rfl,rfl,rfl,rfl,rfl,rfl,trivial⟩,k2⟩⟩;show zw (match au N D' with|some D' => .loop st' pe' f' n' (pp (au N) fr') ps' tag' D'|none => .dead) (.loop st' pe' f' n' (lh fr d) ps' tag' D)=_
     rw[hD];show(match qcb (pp (au N) fr') (lh fr d) with
      |some qs=>some (([st'=st',pe'=pe',f'=f',n'=n',ps'=ps',tag'=tag',D=D]:List Prop)++qs)| none=>none)=_
     rw[k1]
    ·cases h
  |_=>exact absurd (show(none:Option ((bj.loop st pe f n fr ps tag D).den×NM))=some (d,nm') from h) oC
 |.dat τ T,b,nm,nm',d,h=>by
  cases b with
  |cells cs T'=>
   have h:(bif Nat.beq T' T then(match τ.dec cs with
    |some (d,[])=>some (d,nm)| _=>none) else none)=some (d,nm'):=h
   cases hq:Nat.beq T' T
   ·rw[hq]at h;cases h
   ·rw[hq]at h;simp at h;have:=qN hq;subst this;split at h
    ·rename_i d0 hd;have h:(some (d0,nm):Option (τ.den×NM))=some (d,nm'):=h;cases h
     obtain⟨ab,e,hs⟩:=wj hd;rw[List.append_nil]at e;subst e;refine⟨cn.refl _,fun N hN _ => ?_⟩
     obtain⟨qs,q1,q2⟩:=hs.seens N;refine⟨qs,?_,q2⟩;show(bif Nat.beq T' T' then bt false [] (AV.rens (au N) _) (τ.enc d) else none)=some qs
     rw[show Nat.beq T' T'=true by simp,q1];rfl
    ·cases h
  |_=>exact absurd (show(none:Option ((bj.dat τ T).den×NM))=some (d,nm') from h) oC
 |.dfr,b,nm,nm',d,h=>by
  cases b with
  |dfr=>
   have e:nm=nm':=congrArg Prod.snd (qJ (show some (((),nm):Unit×NM)=some (d,nm') from h))
   subst e;exact⟨cn.refl _,fun N _ _=>⟨[],rfl,trivial⟩⟩
  |_=>exact absurd (show(none:Option (bj.dfr.den×NM))=some (d,nm') from h) oC
 |.it,b,nm,nm',d,h=>by
  cases b with
  |it s p=>
   have e:=qJ (show some ((s,p),nm)=some (d,nm') from h)
   have e1:nm=nm':=congrArg Prod.snd e;have e2:(s,p)=d:=congrArg Prod.fst e;subst e1;subst e2;exact⟨cn.refl _,fun N _ _=>⟨[s=s,p=p],rfl,rfl,rfl,trivial⟩⟩
  |_=>exact absurd (show(none:Option (bj.it.den×NM))=some (d,nm') from h) oC
 |.dead,b,nm,nm',d,h=>by
  have e:nm=nm':=congrArg Prod.snd (qJ (show some (((),nm):Unit×NM)=some (d,nm') from h))
  subst e;refine⟨cn.refl _,fun N _ _ => ?_⟩
  show ∃ps,zw (d9 (au N) b) .dead=some ps/\aq ps;cases d9 (au N) b<;>exact⟨[],rfl,trivial⟩
def f8:List (Nat×bj)->Type|[]=>Unit|(_,p)::r=>p.den×f8 r
def bp:(l:List (Nat×bj))->f8 l->List (Nat×ag)|[],_=>[]|(n,p)::r,x=>(n,p.put x.1)::bp r x.2
def th(hp:List (Nat×ag)):(l:List (Nat×bj))->NM->Option (f8 l×NM)
 |[],nm=>some ((),nm)|(n,p)::r,nm=>match bf nm n with
  |some old=>match ae hp old with
   |some b=>match p.get b nm with
    |some (d,nm')=>match th hp r nm' with|some (ds,nm'')=>some ((d,ds),nm'')|none=>none
    |none=>none
   |none=>none
  |none=>none
def qa6{hp:List (Nat×ag)}:∀{l:List (Nat×bj)}{nm nm':NM}{d:f8 l},th hp l nm=some (d,nm')->cn nm nm'/\∀N,dn N=true->cn nm' N ->
  (∀m b',ae (bp l d) m=some b'->∃old b,bf N m=some old/\ae hp old=some b/\qwy N b b')/\∀m,ae (bp l d) m=none->∀e∈l,e.1≠m
 |[],nm,nm',d,h=>by
  have e:nm=nm':=congrArg Prod.snd (qJ (show some (((),nm):Unit×NM)=some (d,nm') from h))
  subst e;exact⟨cn.refl _,fun N _ _=>⟨fun m b' hb=>(by cases hb),fun m _ e he=>(by cases he)⟩⟩
 |(j,p)::r,nm,nm',d,h=>by
  have h:(match bf nm j with
   |some old=>match ae hp old with
    |some b=>match p.get b nm with
     |some (d,nm')=>match th hp r nm' with|some (ds,nm'')=>some ((d,ds),nm'')|none=>none
     |none=>none
    |none=>none
   | none=>none)=some (d,nm'):=h
  split at h
  ·rename_i old ho;split at h
   ·rename_i b hb;split at h
    ·rename_i d1 nm1 h1;split at h
     ·rename_i d2 nm2 h2;simp at h;obtain⟨rfl,rfl⟩:=h;obtain⟨a1,a2⟩:=bj.get_seen h1;obtain⟨b1,b2⟩:=qa6 h2;refine⟨a1.trans b1,fun N hN hs=>⟨fun m b' hm => ?_,fun m hm e he => ?_⟩⟩
      ·have hm:(bif Nat.beq j m then some (p.put d1) else ae (bp r d2) m)=some b':=hm
       cases hq:Nat.beq j m
       ·rw[hq]at hm;exact(b2 N hN hs).1 m b' hm
       ·rw[hq]at hm;simp at hm;subst hm;have:=qN hq;subst this;exact⟨old,b,hs _ _ (b1 _ _ (a1 _ _ ho)),hb,a2 N hN (b1.trans hs)⟩
      ·have hm:(bif Nat.beq j m then some (p.put d1) else ae (bp r d2) m)=none:=hm
       cases hq:Nat.beq j m
       ·rw[hq]at hm;rcases List.mem_cons.1 he with rfl|he
        ·intro e;subst e;simp at hq
        ·exact(b2 N hN hs).2 m hm e he
       ·rw[hq]at hm;cases hm
     ·cases h
    ·cases h
   ·cases h
  ·cases h
def qa9:NM->List Nat->List Nat->Option NM
 |nm,[],[]=>some nm|nm,n::ns,m::ms=>match qp nm n m with|some nm'=>qa9 nm' ns ms|none=>none
 |_,_,_=>none
def q8a:∀{nm nm':NM}{ns ms:List Nat},qa9 nm ns ms=some nm'->cn nm nm'/\ns.map (bf nm')=ms.map some
 |nm,nm',[],[],h=>by simp only[qa9,qI]at h;subst h;exact⟨cn.refl _,rfl⟩|nm,nm',n::ns,m::ms,h=>by
  simp only[qa9]at h;split at h
  ·rename_i nm1 hb;obtain⟨h1,h2⟩:=yh hb;obtain⟨h3,h4⟩:=q8a h;exact⟨h1.trans h3,by simp[List.map_cons,h4,h3 _ _ h2]⟩
  ·cases h
 |_,_,[],_::_,h=>by simp[qa9]at h|_,_,_::_,[],h=>by simp[qa9]at h
def qp2(n:Nat):List (Nat×bj)->Bool|[]=>false|(m,_)::r=>Nat.beq m n||qp2 n r
def zad{n:Nat}:∀{l:List (Nat×bj)},qp2 n l=true->∃e∈l,e.1=n
 |[],h=>by cases h
 |(m,p)::r,h=>by
  simp only[qp2,Bool.or_eq_true]at h;rcases h with h|h
  ·exact⟨(m,p),qH,qN h⟩
  ·obtain⟨e,he,h⟩:=zad h;exact⟨e,qE _ he,h⟩
def vy:NM->List (Nat×bj)->Bool|[],_=>true|(n,_)::r,l=>qp2 n l&&vy r l
def qxl{l:List (Nat×bj)}:∀{nm:NM},vy nm l=true->∀n m,bf nm n=some m->∃e∈l,e.1=n
 |[],_,n,m,h=>by cases h
 |(k,v)::r,ha,n,m,h=>by
  simp[vy,qA]at ha;simp[bf]at h;cases hb:Nat.beq k n
  ·rw[hb]at h;exact qxl ha.2 n m h
  ·have:=qN hb;subst this;exact zad ha.1
structure LS where
 n:Nat
 fr:List (Nat×Pt)
 hp:List (Nat×bj)
 nx:Nat
 df:List Nat
def LS.den(ls:LS):Type:=qv ls.fr×f8 ls.hp
def LS.st(ls:LS)(d:ls.den):St:={ n:=ls.n,fr:=lh ls.fr d.1,hp:=bp ls.hp d.2,nx:=ls.nx,df:=ls.df }
def LS.get(ls:LS)(ids:NM)(s:St):Option ls.den:=
 bif Nat.beq s.n ls.n then
  match yu s.fr ls.fr ids with
  |some (d1,nm1)=>match qa9 nm1 ls.df s.df with
   |some nm2=>match th s.hp ls.hp nm2 with|some (d2,nm3)=>bif dn nm3&&vy nm3 ls.hp then some (d1,d2) else none|none=>none
   |none=>none
  |none=>none
 else none
section
variable{P:Program}{z5m:World}{z5g:Gh}{z5j:List (Nat×ag)}{G:Gh}{s:St}{a:Act}{w:World}
def nt.rep{N:NM}{x y:AV}(h:nt N x y){v:Value}(hv:aj x G v):aj y (G.view N) v:=by
 obtain⟨ps,h1,h2⟩:=h;exact qro (Gh.le.refl _) (fun e=>by cases e) h1 h2 (aj.ren (G:=G) (G':=G.view N) (fun _ _ _ h=>h) (ru N) (ut N) hv)
def Fin.fit{hp l:List (Nat×ag)}(hf:Fin z5m z5g z5j G hp w){N:NM}(hN:dn N=true)(hid:∀n bx,ae z5j n=some bx->bf N n=some n)
  (hl:∀m b',ae l m=some b'->∃old b,bf N m=some old/\ae hp old=some b/\qwy N b b'):Fin z5m z5g z5j (G.view N) l w:=by
 have eb:∀m n,bf N m=some n->(G.view N).box m=G.box n:=fun m n hm=>by simp[Gh.view,hm]
 have eo:∀m n,bf N m=some n->(G.view N).own m=G.own n:=fun m n hm=>by simp[Gh.view,hm]
 have hbox:∀m n b,bf N m=some n->ae hp n=some b->cm (G.view N) w m (d9 (au N) b):=fun m n b h1 h2=>
  cm.ren (G:=G) (G':=G.view N) (ρ:=au N) (n:=n) (fun _ _ _ h=>h) (fun _ _ _ h=>h) (ru N) (ut N) (fun B hB=>by rw[eb m n h1];exact hB) (fun B hB=>by rw[eo m n h1];exact hB) (hf.mem.holds n b h2)
 have hat:∀m b' c,ae l m=some b'->(G.view N).at m b'=some c->∃n b,bf N m=some n/\ae hp n=some b/\G.at n b=some c:=fun m b' c h1 h2=>by
  obtain⟨n,b,i1,i2,ps,i3,i4⟩:=hl m b' h1;exact⟨n,b,i1,i2,tg (eb m n i1) (eo m n i1) ((qf1 i3 i4 (hbox m n b i1 i2)).2 c h2)⟩
 refine⟨⟨hf.mem.agree,hf.mem.one,fun m b' h => ?_,fun m m' b b' c h1 h2 h3 h4 => ?_,hf.mem.tab⟩,hf.bel,hf.imm_le,hf.imm_new,fun m b c h1 h2 => ?_,fun n bx B h1 h2 => ?_,fun n bx B h1 h2 => ?_⟩
 ·obtain⟨n,b,i1,i2,ps,i3,i4⟩:=hl m b' h;exact(qf1 i3 i4 (hbox m n b i1 i2)).1
 ·obtain⟨n,b0,i1,i2,i3⟩:=hat m b c h1 h3;obtain⟨n',b0',j1,j2,j3⟩:=hat m' b' c h2 h4;have:=hf.mem.apart n n' b0 b0' c i2 j2 i3 j3;subst this;exact ym hN m m' n i1 j1
 ·obtain⟨n,b0,i1,i2,i3⟩:=hat m b c h1 h2;exact hf.base n b0 c i2 i3
 ·rw[eb n n (hid n bx h1)];exact hf.keep n bx B h1 h2
 ·rw[eo n n (hid n bx h1)];exact hf.keepOwn n bx B h1 h2
def ai.fit(hr:ai z5m z5g z5j G s a w){ls:LS}{ids:NM}{d:ls.den}(hid:∀n bx,ae z5j n=some bx->bf ids n=some n)(h:ls.get ids s=some d):∃G',ai z5m z5g z5j G' (ls.st d) a w:=by
 unfold LS.get at h;cases hn:Nat.beq s.n ls.n<;>rw[hn]at h<;>simp at h
 have hn:=qN hn;split at h
 ·rename_i d1 nm1 h1;split at h
  ·rename_i nm2 h2;split at h
   ·rename_i d2 nm3 h3;cases hq:dn nm3&&vy nm3 ls.hp<;>rw[hq]at h<;>simp at h
    have h:((d1,d2):ls.den)=d:=qJ h;subst h;simp at hq;obtain⟨q1,q2⟩:=hq;obtain⟨f1,f2⟩:=qpv h1;obtain⟨l1,l2⟩:=q8a h2;obtain⟨b1,b2⟩:=qa6 h3;obtain⟨b3,b4⟩:=b2 nm3 q1 (cn.refl _);refine⟨G.view nm3,⟨?_,by rw[hr.size];exact hn,fun i x hx => ?_,fun m _ hl => ?_,hr.fin.fit q1 (fun n bx hb=>b1 _ _ (l1 _ _ (f1 _ _ (hid n bx hb)))) b3⟩⟩
    ·obtain⟨bs,e1,e2⟩:=hr.defers;refine⟨bs,e1,e2.trans ?_⟩;have:∀(ns ms:List Nat),ns.map (bf nm2)=ms.map some->ms.map G.box=ns.map (G.view nm3).box:=by
      intro ns
      induction ns with
      |nil=>intro ms h;cases ms with|nil=>rfl|cons=>simp at h
      |cons n ns ih=>
       intro ms h
       cases ms with
       |nil=>simp at h|cons m ms=>
        simp at h ⊢;refine⟨?_,ih ms h.2⟩;show _=(bf nm3 n).bind G.box;rw[b1 _ _ h.1];rfl
     exact this _ _ l2
    ·obtain⟨y,hy,hs⟩:=f2 nm3 q1 (l1.trans b1) i x hx;obtain⟨v,v1,v2⟩:=hr.frame i y hy;exact⟨v,v1,hs.rep v2⟩
    ·have hno:bf nm3 m=none:=by
      cases hc:bf nm3 m with
      |none=>rfl|some o=>
       obtain⟨e,he,hem⟩:=qxl q2 m o hc;exact absurd hem (b4 m hl e he)
     simp[Gh.view,hno]
   ·cases h
  ·cases h
 ·cases h
end
def az{α β γ:Type}(o:α ⊕ β)(f:α->γ)(g:β->γ):γ:=match o with|.inl a=>f a|.inr b=>g b
inductive Sp:Type->Type 1
 |one {α:Type} (d:α->D):Sp α
 |two {α β:Type} (l:Sp α) (r:Sp β):Sp (α ⊕ β)
def Sp.K{R:Type}:{α:Type}->Sp α->α->(D->Option R)->Option R|_,.one d,x,k=>k (d x)|_,.two l r,x,k=>az x (fun a=>l.K a k) (fun b=>r.K b k)
def Sp.Out:{α:Type}->Sp α->α->D->Prop|_,.one d,x,e=>e=d x|_,.two l _,.inl a,e=>l.Out a e|_,.two _ r,.inr b,e=>r.Out b e
def Sp.K_some{R:Type}{k:D->Option R}{y:R}:∀{α:Type}{sp:Sp α}{x:α},sp.K x k=some y->∃d,sp.Out x d/\k d=some y
 |_,.one d,x,h=>⟨d x,rfl,h⟩|_,.two l r,.inl a,h=>by obtain⟨d,h1,h2⟩:=Sp.K_some (sp:=l) (x:=a) h;exact⟨d,h1,h2⟩
 |_,.two l r,.inr b,h=>by obtain⟨d,h1,h2⟩:=Sp.K_some (sp:=r) (x:=b) h;exact⟨d,h1,h2⟩
inductive Rq:Type 1
 |tot (d:D)
 |ifb (b:Bool) (d:D)
 |bnd {α:Type} (o:Option α) (sp:Sp α)
 |br (b:Bool) (d1 d2:D)
def Rq.K{R:Type}(q:Rq)(k:D->Option R):Option R:=match q with
 |.tot d=>k d|.ifb b d=>bif b then k d else none|.bnd o sp=>o.bind fun x=>sp.K x k
 |.br b d1 d2=>bif b then k d1 else k d2
def Rq.Out(q:Rq)(e:D):Prop:=match q with|.tot d=>e=d|.ifb b d=>b=true/\e=d|.bnd o sp=>∃x,o=some x/\sp.Out x e|.br b d1 d2=>(b=true/\e=d1)\/(b=false/\e=d2)
def Rq.K_some{R:Type}{k:D->Option R}{y:R}{q:Rq}(h:q.K k=some y):∃d,q.Out d/\k d=some y:=by
 cases q with
 |tot d=>exact⟨d,rfl,h⟩|ifb b d=>
  cases b with|true=>exact⟨d,⟨rfl,rfl⟩,h⟩|false=>cases h
 |bnd o sp=>
  cases o with
  |none=>cases h
  |some x=>obtain⟨d,h1,h2⟩:=Sp.K_some (sp:=sp) (x:=x) h;exact⟨d,⟨x,rfl,h1⟩,h2⟩
 |br b d1 d2=>
  cases b with|true=>exact⟨d1,.inl ⟨rfl,rfl⟩,h⟩|false=>exact⟨d2,.inr ⟨rfl,rfl⟩,h⟩
inductive RS:Type->Type 1
 |one {α:Type} (p:Pt) (hp:List (Nat×bj)) (to:α->p.den×f8 hp) (fro:p.den×f8 hp->α) (ok:∀y,to (fro y)=y):RS α
 |two {α β:Type} (l:RS α) (r:RS β):RS (α ⊕ β)
def RS.res:{α:Type}->RS α->α->AV×List (Nat×ag)|_,.one p hp to _ _,x=>(p.put (to x).1,bp hp (to x).2)|_,.two l r,x=>az x (fun a=>l.res a) (fun b=>r.res b)
def RS.sp(mk:AV->List (Nat×ag)->D):{α:Type}->RS α->Sp α
 |_,.one p hp to _ _ => .one fun x=>mk (p.put (to x).1) (bp hp (to x).2)
 |_,.two l r => .two (l.sp mk) (r.sp mk)
def RS.sp_out{mk:AV->List (Nat×ag)->D}:∀{α:Type}{r:RS α}{x:α}{d:D},(r.sp mk).Out x d->d=mk (r.res x).1 (r.res x).2|_,.one _ _ _ _ _,_,_,h=>h|_,.two l _,.inl a,_,h=>RS.sp_out (r:=l) (x:=a) h|_,.two _ r,.inr b,_,h=>RS.sp_out (r:=r) (x:=b) h
inductive qh:Type
 |fn (f:FuncId)
 |yld (tag:Nat)
 |ext (f:FuncId)
 |thr (f:FuncId) (ks:List (Nat×Nat))
def wv(t:TypeId)(n:Int):Value := .iface t (.agg #[.int .i64 n])
def ep(t:TypeId)(n:Int):AV := .tup [.undef,.iface t (.agg [.int .i64 n])]
def lr:AV->Option (TypeId×Int)|.tup [.undef,.iface t (.agg [.int .i64 n])]=>some (t,n)|_=>none
def ql1(P:Program)(x:TypeId×Int)(f:FuncId)(xs:List AV)(hp:List (Nat×ag))(hp':List (Nat×ag)):Prop:=
 ∀(w:World)(G:Gh)(vs:List Value),b8 G hp w->am xs G vs->Calls P f vs.toArray w (fun e w'=>e = .panicked [{ v:=wv x.1 x.2,recovered:=false }]/\∃G',Fin w G hp G' hp' w')
def ql3(P:Program)(f:FuncId)(xs:List AV)(r:AV):Prop:=
 ∀(w:World)(G:Gh)(vs:List Value),b8 G [] w->am xs G vs->∃v,(callFunc f vs.toArray).run P w = .ok (.value v) w/\aj r G v
structure cf:Type 1 where
 key:qh
 args:List Pt
 hp:List (Nat×bj)
 R:Type
 F:Pts.den args->f8 hp->Option R
 out:RS R
def cf.Sound(P:Program)(e:cf):Prop:=∀d d' r,e.F d d'=some r->match e.key with
 |.fn f=>Plain P f/\ci P f (Pts.put e.args d) (bp e.hp d') (e.out.res r).1 (e.out.res r).2|.yld m=>q6y P m (Pts.put e.args d) (bp e.hp d') (e.out.res r).1 (e.out.res r).2|.ext f=>ql3 P f (Pts.put e.args d) (e.out.res r).1| .thr f _=>Plain P f/\(match lr (e.out.res r).1 with
  |none=>ci P f (Pts.put e.args d) (bp e.hp d') (e.out.res r).1 (e.out.res r).2| some x=>ql1 P x f (Pts.put e.args d) (bp e.hp d') (e.out.res r).2)
def ap{α:Type}(l:List α)(n:Int):Option α:=if 0<=n then l[n.toNat]? else none
def qkf{α:Type}{l:List α}{n:Int}{x:α}(h:ap l n=some x):0<=n/\l[n.toNat]? = some x:=by
 unfold ap at h;split at h
 ·rename_i h0;exact⟨h0,h⟩
 ·cases h
def qo6{α:Type}(l:List α)(lo hi:Option Int):Rq:=
 match lo,hi with|none,none => .tot .none|some a,none => .ifb (decide (0<=a/\a<=l.length)) .none|none,some b => .ifb (decide (0<=b/\b<=l.length)) .none|some a,some b => .ifb (decide (0<=a/\a<=b/\b<=l.length)) .none
def q80{α:Type}{l:List α}{lo hi:Option Int}{d:D}(h:(qo6 l lo hi).Out d):aq (cut l lo hi).1:=by
 unfold qo6 at h;unfold cut;split at h
 ·trivial
 ·exact⟨of_decide_eq_true h.1,trivial⟩
 ·exact⟨of_decide_eq_true h.1,trivial⟩
 ·exact⟨of_decide_eq_true h.1,trivial⟩
def y6:AV->Bool|.val _=>true|_=>false
def uq(c:Bool)(b:Bool):Option Rq:=bif c then(bif b then some (.tot .none) else none) else some (.ifb b .none)
def zt{c b:Bool}{q:Rq}{d:D}(h:uq c b=some q)(ho:q.Out d):b=true:=by
 unfold uq at h;cases c
 ·simp at h;subst h;exact ho.1
 ·cases b
  ·cases h
  ·rfl
def qa8(op:BinOp)(x y:AV):Option Rq:=
 match op with
 |.quo=>match y.sym with|.int _ b=>uq (y6 y) (decide (b≠0))|.byte b=>uq (y6 y) (decide (b≠0))|_=>some (.tot .none)
 |.rem=>match y.sym with|.int _ b=>uq (y6 y) (decide (b≠0))|.byte b=>uq (y6 y) (decide (b≠0))|_=>some (.tot .none)
 |.shl=>match y.sym with|.int _ b=>uq (y6 y) (decide (0<=b))|_=>some (.tot .none)
 |.shr=>match y.sym with|.int _ b=>uq (y6 y) (decide (0<=b))|_=>some (.tot .none)
 |.add=>match x.sym,y.sym with|.str a,.str b=>some (.ifb (decide (a.length+b.length<=ax)) .none)|_,_=>some (.tot .none)
 |_=>some (.tot .none)
def q79{P:Program}{op:BinOp}{t:TypeId}{x y:AV}{q:Rq}{d:D}(h:qa8 op x y=some q)(ho:q.Out d){ps:List Prop}{r:AV}(ha:vq P op t x.sym y.sym=some (ps,r)):aq ps:=by
 have key:∀(xs ys:AV),(op = .quo\/op = .rem->(∀k b,ys = .int k b->b≠0)/\∀b,ys = .byte b->b≠0)->(op = .shl\/op = .shr->∀k b,ys = .int k b->0<=b)->(op = .add->∀a b,xs = .str a->ys = .str b->a.length+b.length<=ax) ->
   ∀{ps r},vq P op t xs ys=some (ps,r)->aq ps:=by
  intro xs ys k1 k2 k3 ps r ha;unfold vq at ha;split at ha
  ·rename_i k a k' b;cases hc:decide (op = .shl)||decide (op = .shr)||decide (k=k')<;>rw[hc]at ha<;>simp at ha
   cases hc8:decide (k = .u8)||decide (k' = .u8)<;>rw[hc8]at ha<;>simp at ha
   cases op<;>simp[qec,qI,qP]at ha<;>obtain⟨rfl,_⟩:=ha<;>first
    |trivial
    |exact⟨(k1 (.inl rfl)).1 _ _ rfl,trivial⟩
    |exact⟨(k1 (.inr rfl)).1 _ _ rfl,trivial⟩
    |exact⟨k2 (.inl rfl) _ _ rfl,trivial⟩
    |exact⟨k2 (.inr rfl) _ _ rfl,trivial⟩
  ·rename_i a b;cases op<;>simp[qof,qI,qP,reduceCtorEq]at ha<;>obtain⟨rfl,_⟩:=ha<;>first
    |trivial
    |exact⟨(k1 (.inl rfl)).2 _ rfl,trivial⟩
    |exact⟨(k1 (.inr rfl)).2 _ rfl,trivial⟩
  ·split at ha
   ·simp at ha;obtain⟨rfl,_⟩:=ha;exact⟨k2 (.inl rfl) _ _ rfl,trivial⟩
   ·simp at ha;obtain⟨rfl,_⟩:=ha;exact⟨k2 (.inr rfl) _ _ rfl,trivial⟩
   ·cases ha
  ·rename_i k a b;cases hk:decide (k = .u8)<;>rw[hk]at ha<;>simp at ha
   split at ha
   ·simp at ha;obtain⟨rfl,_⟩:=ha;trivial
   ·simp at ha;obtain⟨rfl,_⟩:=ha;trivial
   ·cases ha
  ·rename_i a b;cases op<;>simp[qoh,qI,qP,reduceCtorEq]at ha<;>obtain⟨rfl,_⟩:=ha<;>first
    |trivial
    |exact⟨k3 rfl _ _ rfl rfl,trivial⟩
  ·split at ha
   ·split at ha
    ·simp at ha;obtain⟨rfl,_⟩:=ha;trivial
    ·cases ha
   ·split at ha
    ·simp at ha;obtain⟨rfl,_⟩:=ha;trivial
    ·cases ha
   ·cases ha
 refine key x.sym y.sym (fun hop => ?_) (fun hop => ?_) (fun hop a b e1 e2 => ?_) ha
 ·rcases hop with rfl|rfl
  ·simp only[qa8]at h;exact⟨fun k b e=>by rw[e]at h;exact of_decide_eq_true (zt h ho),fun b e=>by rw[e]at h;exact of_decide_eq_true (zt h ho)⟩
  ·simp only[qa8]at h;exact⟨fun k b e=>by rw[e]at h;exact of_decide_eq_true (zt h ho),fun b e=>by rw[e]at h;exact of_decide_eq_true (zt h ho)⟩
 ·rcases hop with rfl|rfl
  ·simp[qa8]at h;exact fun k b e=>by rw[e]at h;exact of_decide_eq_true (zt h ho)
  ·simp[qa8]at h;exact fun k b e=>by rw[e]at h;exact of_decide_eq_true (zt h ho)
 ·subst hop;simp[qa8]at h;rw[e1,e2]at h;simp at h;subst h;exact of_decide_eq_true ho.1
def q11(s:St):AV->Option (List UInt8)
 |.sl τ l=>match Ty.eq? τ .byte with|some ⟨h⟩=>some (h▸l:List Ty.byte.den)|none=>none
 |.own k=>match ae s.hp k with
  |some (.row τ l _)=>match Ty.eq? τ .byte with|some ⟨h⟩=>some (h▸l:List Ty.byte.den)|none=>none
  |_=>none
 |.val (.slice none 0 0)=>some []|_=>none
def zt7{s:St}{v:AV}{b:List UInt8}(h:q11 s v=some b){flat:List AV}{n:Nat}(hs:fk s v=some (flat,n)):flat=b.map AV.byte/\n=b.length:=by
 unfold q11 at h;split at h
 ·rename_i τ l;split at h
  ·rename_i hh _;subst hh;have h:l=b:=qJ h;subst h;simp only[fk,qI,qP]at hs;obtain⟨rfl,rfl⟩:=hs;exact⟨qj5 l,rfl⟩
  ·cases h
 ·rename_i k;split at h
  ·rename_i τ l E hl;split at h
   ·rename_i hh _;subst hh;have h:l=b:=qJ h;subst h;simp only[fk,hl,qI,qP]at hs;obtain⟨rfl,rfl⟩:=hs;exact⟨qj5 l,rfl⟩
   ·cases h
  ·cases h
 ·simp only[qI]at h;subst h;simp only[fk,qI,qP]at hs;obtain⟨rfl,rfl⟩:=hs;exact⟨rfl,rfl⟩
 ·cases h
def tyE(P:Program)(E:TypeId):Option Ty:=match P.underlying E with|some (.int k)=>some (bif decide (k = .u8) then .byte else .int k)|some .bool=>some .bool|some .string=>some .str|_=>none
def q07:Ty->AV->Bool|.int _,.int _ _=>true|.byte,.byte _=>true|.bool,.bool _=>true|.str,.str _=>true|_,_=>false
def zrg:∀{τ:Ty}{y:AV}{d:τ.den},tk τ y=some d->q07 τ y=true->y=τ.av d
 |.int k,.int k' n,d,h,_=>by
  simp only[tk,Ty.dec]at h;cases hk:decide (k'=k)<;>rw[hk]at h
  ·cases h
  ·have:=of_decide_eq_true hk;subst this;have h:n=d:=qJ h;subst h;rfl
 |.byte,.byte c,d,h,_=>by have h:c=d:=qJ h;subst h;rfl|.bool,.bool c,d,h,_=>by have h:c=d:=qJ h;subst h;rfl|.str,.str c,d,h,_=>by have h:c=d:=qJ h;subst h;rfl
def qeu(τ:Ty):List AV->Option (List τ.den)
 |[]=>some []|x::xs=>match tk τ x.sym,qeu τ xs with|some d,some ds=>bif q07 τ x.sym then some (d::ds) else none|_,_=>none
def qys{τ:Ty}:∀{xs:List AV}{ds:List τ.den},qeu τ xs=some ds->xs.map AV.sym=ds.map τ.av
 |[],ds,h=>by simp only[qeu,qI]at h;subst h;rfl|x::xs,ds,h=>by
  simp only[qeu]at h;split at h
  ·rename_i d ds' h1 h2;cases hb:q07 τ x.sym<;>rw[hb]at h<;>simp only[qT,qF,reduceCtorEq,qI]at h
   subst h;rw[List.map_cons,List.map_cons,qys h2,← zrg h1 hb]
  ·cases h
def qlb(s:St):AV->Option (List Int)
 |.sl (.int .i32) l=>some l|.own k=>match ae s.hp k with|some (.row (.int .i32) l _)=>some l|_=>none
 |.val (.slice none 0 0)=>some []|_=>none
def zd6{s:St}{v:AV}{l:List Int}(hl:qlb s v=some l):fk s v=some (List.flatMap (β:=AV) (Ty.int .i32).enc l,l.length):=by
 unfold qlb at hl;split at hl
 ·have hl:=qJ hl;subst hl;rfl
 ·rename_i k;split at hl
  ·rename_i hk;have hl:=qJ hl;subst hl;show(match ae s.hp k with|some (.row τ l _)=>some (l.flatMap τ.enc,l.length)|_=>none)=_;rw[hk];rfl
  ·cases hl
 ·have hl:=qJ hl;subst hl;rfl
 ·cases hl
def qke(P:Program)(s:St)(t:TypeId)(x:AV)(i:Operand):Option Rq:=
 match x,s.evy i with
 |.str b,some (.int _ n)=>some (.bnd (ap b n) (.one fun c => .cs [.byte c]))
 |.str b,some (.byte n)=>some (.bnd b[n.toNat]? (.one fun c => .cs [.byte c]))
 |.agg cs,some (.int _ n)=>match s.ev i with
  |some (.val _)=>match(cs.map AV.sym)[n.toNat]? with|some y=>bif decide (0<=n) then some (.tot (.cs [y])) else none|none=>none
  |_=>match P.underlying t with
   |some (.array _ E)=>match tyE P E with
    |some τ=>match qeu τ cs with
     |some l=>some (.bnd (ap l n) (.one fun y => .cs [τ.av y]))
     |none=>none
    |none=>none
   |_=>none
 |_,_=>none
def qee(P:Program)(s:St)(t:TypeId)(x:AV)(i:Operand):Option Rq:=
 match x,s.evy i with
 |.sl τ l,some (.int _ n)=>some (.bnd (ap l n) (.one fun y => .cs (τ.enc y)))
 |.own k,some (.int _ n)=>match ae s.hp k with|some (.row _ l _)=>some (.ifb (decide (0<=n/\n.toNat<l.length)) .none)|_=>none
 |.asl _ m _,some (.int _ n)=>match s.ev i with|some j=>uq (y6 j) (decide (0<=n/\n.toNat<m))|_=>none
 |.ptr _ _,some (.int _ n)=>match P.underlying t,s.ev i with|some (.array len _),some j=>uq (y6 j) (decide (0<=n/\n<len))|_,_=>none
 |_,_=>none
def qo(P:Program)(s:St)(op:Op):Option Rq:=
 match op with
 |.pick c _ _=>match s.ev c with|some (.bool b)=>some (.br b (.b true) (.b false))|_=>some (.tot .none)
 |.load _ x=>match s.ev x with
  |some (.oel k _ i _)=>match ae s.hp k with
   |some (.row τ l _)=>some (.bnd l[i]? (.one fun y => .cs (τ.enc y)))
   |_=>none
  |_=>some (.tot .none)
 |.slice _ x lo hi _=>match jg s lo,jg s hi,s.ev x with|some a,some b,some (.str l)=>some (qo6 l a b)|some a,some b,some (.sl _ l)=>some (qo6 l a b)|some none,some none,some (.ptr _ _)=>some (.tot .none)|some none,some none,some (.rop _)=>some (.tot .none)|_,_,_=>none
 |.binOp op _ x y _=>match s.ev x,s.ev y with|some a,some b=>qa8 op a b|_,_=>none
 |.convert _ _ x=>match s.ev x with
  |some v=>match q11 s v with
   |some b=>some (.tot (.cs [.str b]))|none=>match qlb s v with|some l=>some (.tot (.cs [.sl (.int .i32) l]))|none=>some (.tot .none)
  |none=>none
 |.index t x i=>match s.ev x with|some v=>qke P s t v i|none=>none
 |.indexAddr t x i=>match s.ev x with|some v=>qee P s t v i|none=>none
 |_=>some (.tot .none)
def zoe{P:Program}{s:St}{t:TypeId}{x j:AV}{i:Operand}{q:Rq}{d:D}(hj:s.evy i=some j)(h:qke P s t x i=some q)(ho:q.Out d){ps:List Prop}{r:AV}(ha:qjc P t x j d=some (ps,r)):aq ps:=by
 unfold qjc at ha;split at ha
 ·simp[qke,hj,qI]at h;subst h;obtain⟨y,h1,h2⟩:=ho;simp only[Sp.Out,D.cs.injEq,List.cons.injEq,AV.byte.injEq,and_true]at h2;subst h2;simp at ha;obtain⟨rfl,_⟩:=ha;exact⟨qkf h1,trivial⟩
 ·simp[qke,hj,qI]at h;subst h;obtain⟨y,h1,h2⟩:=ho;simp only[Sp.Out,D.cs.injEq,List.cons.injEq,AV.byte.injEq,and_true]at h2;subst h2;simp at ha;obtain⟨rfl,_⟩:=ha;exact⟨h1,trivial⟩
 ·rename_i len E cs k n y hu;simp only[qke,hj]at h;split at ha
  ·cases hq:Nat.beq cs.length len<;>rw[hq]at ha<;>simp only[qT,qF,reduceCtorEq,qI,qP]at ha
   obtain⟨rfl,_⟩:=ha;refine⟨?_,trivial⟩;split at h
   ·split at h
    ·rename_i z hz;cases hd:decide (0<=n)<;>rw[hd]at h<;>simp only[qT,qF,reduceCtorEq,qI]at h
     subst h;have ho:D.cs [y]=D.cs [z]:=ho;simp only[D.cs.injEq,List.cons.injEq,and_true]at ho;subst ho;exact⟨of_decide_eq_true hd,hz⟩
    ·cases h
   ·simp[hu]at h;split at h
    ·rename_i τ hτ;split at h
     ·rename_i l hl;simp at h;subst h;obtain⟨z,h1,h2⟩:=ho;simp[Sp.Out,D.cs.injEq,List.cons.injEq,and_true]at h2;subst h2;obtain⟨h3,h4⟩:=qkf h1;refine⟨h3,?_⟩;rw[qys hl,List.getElem?_map,h4];rfl
     ·cases h
    ·cases h
  ·cases ha
 ·cases ha
def zjs{P:Program}{s:St}{t:TypeId}{x j:AV}{i:Operand}{q:Rq}{d:D}(hj:s.evy i=some j)(h:qee P s t x i=some q)(ho:q.Out d){ps:List Prop}{r:AV}(ha:qea P s t x j d=some (ps,r)):aq ps:=by
 unfold qea at ha;split at ha
 ·split at ha
  ·rename_i sz k n hsz;split at ha
   ·rename_i τ l cs;cases hq:Nat.beq τ.sz sz<;>rw[hq]at ha<;>simp at ha
    obtain⟨rfl,_⟩:=ha;simp[qee,hj,qI]at h;subst h;obtain⟨y,h1,h2⟩:=ho;have h2:D.cs cs=D.cs (τ.enc y):=h2;simp at h2;exact⟨⟨(qkf h1).1,y,(qkf h1).2,h2.symm⟩,trivial⟩
   ·split at ha
    ·rename_i τ l E hl;cases hq:Nat.beq τ.sz sz<;>rw[hq]at ha<;>simp at ha
     obtain⟨rfl,_⟩:=ha;simp only[qee,hj,hl,qI]at h;subst h;exact⟨of_decide_eq_true ho.1,trivial⟩
    ·cases ha
   ·simp at ha;obtain⟨rfl,_⟩:=ha;simp only[qee,hj]at h;split at h
    ·exact⟨of_decide_eq_true (zt h ho),trivial⟩
    ·cases h
   ·cases ha
  ·cases ha
 ·rename_i len E hu;split at ha
  ·rename_i sz k n b off hsz;simp at ha;obtain⟨rfl,_⟩:=ha;simp only[qee,hj,hu]at h;split at h
   ·rename_i len' _ j' he _;simp only[qI,TypeDesc.array.injEq]at he;obtain⟨rfl,rfl⟩:=he;exact⟨of_decide_eq_true (zt h ho),trivial⟩
   ·cases h
  ·cases ha
 ·cases ha
def q7t{P:Program}{s:St}{op:Op}{q:Rq}{d:D}(h:qo P s op=some q)(ho:q.Out d){ps:List Prop}{v:AV}(ha:cz P s d op=some (ps,v)):aq ps:=by
 have triv:∀{x:AV}{ps:List Prop}{v:AV},(some (([]:List Prop),x):Option (List Prop×AV))=some (ps,v)->aq ps:=fun e=>by
  simp at e;obtain⟨rfl,_⟩:=e;trivial
 have cnd:∀{b:Bool}{x:AV}{ps:List Prop}{v:AV},(bif b then some (([]:List Prop),x) else none)=some (ps,v)->aq ps:=fun{b} _ _ _ e=>by
  cases b
  ·cases e
  ·exact triv e
 unfold cz at ha;split at ha
 ·split at ha
  ·exact triv ha
  ·cases ha
 ·split at ha
  ·exact triv ha
  ·cases ha
 ·split at ha
  ·rename_i c x y b t hc;split at ha
   ·simp at ha;obtain⟨rfl,_⟩:=ha;simp[qo,hc,qI]at h;subst h;rcases ho with⟨h1,h2⟩|⟨h1,h2⟩
    ·simp at h2;subst h2;exact⟨h1,trivial⟩
    ·simp at h2;subst h2;exact⟨h1,trivial⟩
   ·cases ha
  ·split at ha
   ·exact triv ha
   ·cases ha
  ·cases ha
 ·unfold qd8 at ha;split at ha
  ·split at ha
   ·split at ha
    ·split at ha
     ·exact triv ha
     ·cases ha
    ·cases ha
   ·split at ha
    ·split at ha
     ·exact triv ha
     ·cases ha
    ·cases ha
   ·cases ha
  ·cases ha
 ·unfold qeb at ha;split at ha
  ·split at ha
   ·split at ha
    ·exact triv ha
    ·cases ha
   ·cases ha
  ·split at ha
   ·exact triv ha
   ·cases ha
  ·rename_i k sz i off hx;split at ha
   ·rename_i τ l E cs hl;cases hq:Nat.beq sz τ.sz<;>rw[hq]at ha<;>simp at ha
    split at ha
    ·simp at ha;obtain⟨rfl,_⟩:=ha;simp[qo,hx,hl,qI]at h;subst h;obtain⟨y,h1,h2⟩:=ho;have h2:D.cs cs=D.cs (τ.enc y):=h2;simp at h2;exact⟨⟨y,h1,h2.symm⟩,trivial⟩
    ·cases ha
   ·cases ha
  ·cases ha
 ·unfold qje at ha;split at ha
  ·rename_i h1 h2 h3;split at ha
   ·simp at ha;obtain⟨rfl,_⟩:=ha;simp[qo,h1,h2,h3,qI]at h;subst h;exact q80 ho
   ·cases ha
  ·rename_i τ l h1 h2 h3;split at ha
   ·split at ha
    ·rename_i sz hsz;cases hq:Nat.beq τ.sz sz<;>rw[hq]at ha<;>simp at ha
     obtain⟨rfl,_⟩:=ha;simp[qo,h1,h2,h3,qI]at h;subst h;exact q80 ho
    ·cases ha
   ·cases ha
  ·split at ha
   ·split at ha
    ·exact triv ha
    ·cases ha
   ·cases ha
  ·split at ha
   ·rename_i n E hu;split at ha
    ·split at ha
     ·split at ha
      ·rw[cond_eq_ite]at ha;split at ha
       ·exact triv ha
       ·cases ha
      ·cases ha
     ·cases ha
    ·cases ha
   ·cases ha
  ·cases ha
 ·split at ha
  ·rename_i a b hx hy;simp[qo,hx,hy]at h;unfold qog at ha;split at ha
   ·split at ha
    ·exact triv ha
    ·exact q79 h ho ha
   ·exact q79 h ho ha
  ·cases ha
 ·split at ha
  ·split at ha
   ·exact triv ha
   ·cases ha
  ·cases ha
 ·rename_i src dst x;split at ha
  ·rename_i v' hs hx;split at ha
   ·rename_i r' hc;simp at ha;subst ha;have key:∀{y:AV}{ps:List Prop}{v:AV},td P dst y=some (ps,v)->aq ps:=fun e=>by
     unfold td at e;split at e
     ·rename_i k _ _ _;cases hk:decide (k = .u8)<;>rw[hk]at e<;>exact triv e
     ·rename_i k _ _;cases hk:decide (k = .u8)<;>rw[hk]at e<;>simp only[qT,qF]at e
      ·cases hk8:decide (k = .i8)<;>rw[hk8]at e<;>simp only[qT,qF,reduceCtorEq]at e
       exact triv e
      ·exact triv e
     ·exact triv e
     ·cases e
    unfold ye at hc;split at hc
    ·split at hc
     ·exact triv hc
     ·exact key hc
    ·exact key hc
   ·split at ha
    ·unfold qjf at ha;split at ha
     ·rename_i E flat n b hu hsrc;split at ha
      ·cases ha
      ·simp at ha;obtain⟨rfl,_⟩:=ha;simp[qo,hx]at h;split at h
       ·rename_i b' hb;simp at h;subst h;have ho:D.cs [.str b]=D.cs [.str b']:=ho;simp at ho;subst ho;obtain⟨h1,h2⟩:=zt7 hb hsrc;exact⟨h1,h2,trivial⟩
       ·split at h
        ·rename_i l' _;simp at h;subst h;exact absurd (show D.cs [.str b]=D.cs [.sl (.int .i32) l'] from ho) oC
        ·simp at h;subst h;exact absurd (show D.cs [.str b]=D.none from ho) oC
      ·cases ha
     ·rename_i E flat n l hu hsrc;split at ha
      ·cases ha
      ·simp at ha;obtain⟨rfl,_⟩:=ha;simp[qo,hx]at h;split at h
       ·rename_i b' _;simp at h;subst h;exact absurd (show D.cs [.sl (.int .i32) l]=D.cs [.str b'] from ho) oC
       ·split at h
        ·rename_i l' hl;simp at h;subst h;have ho:D.cs [.sl (.int .i32) l]=D.cs [.sl (.int .i32) l']:=ho;have ho:l=l':=by injection ho with ho;injection ho with ho;injection ho with _ ho
         subst ho;have h1:=zd6 hl;rw[hsrc]at h1;simp at h1;exact⟨h1.1,h1.2,trivial⟩
        ·simp at h;subst h;exact absurd (show D.cs [.sl (.int .i32) l]=D.none from ho) oC
      ·cases ha
     ·cases ha
    ·cases ha
  ·cases ha
 ·split at ha
  ·unfold qod at ha;split at ha
   ·split at ha
    ·split at ha
     ·exact triv ha
     ·cases ha
    ·cases ha
   ·cases ha
  ·cases ha
 ·split at ha
  ·unfold qoe at ha;split at ha
   ·split at ha
    ·split at ha
     ·rename_i sz _;cases hz:Nat.beq sz 0<;>rw[hz]at ha<;>simp at ha
      split at ha
      ·exact triv ha
      ·exact cnd ha
      ·exact triv ha
      ·cases ha
     ·cases ha
    ·cases ha
   ·cases ha
  ·cases ha
 ·split at ha
  ·split at ha
   ·exact triv ha
   ·cases ha
  ·cases ha
 ·split at ha
  ·rename_i v' j hx hj;simp[qo,hx]at h;exact zoe hj h ho ha
  ·cases ha
 ·split at ha
  ·rename_i v' j hx hj;simp[qo,hx]at h;exact zjs hj h ho ha
  ·cases ha
 ·split at ha
  ·exact triv ha
  ·cases ha
 ·split at ha
  ·split at ha
   ·unfold qjd at ha;split at ha
    ·exact triv ha
    ·exact triv ha
    ·split at ha
     ·exact triv ha
     ·cases ha
    ·exact triv ha
    ·exact triv ha
    ·cases ha
   ·cases ha
  ·cases ha
 ·split at ha
  ·split at ha
   ·unfold qw6 at ha;split at ha
    ·exact cnd ha
    ·cases ha
   ·cases ha
  ·cases ha
 ·split at ha
  ·split at ha
   ·unfold qw7 at ha;split at ha
    ·exact cnd ha
    ·cases ha
   ·cases ha
  ·cases ha
 ·split at ha
  ·exact cnd ha
  ·cases ha
 ·cases ha
mutual
def qfg(hp:List (Nat×ag)):AV->AV
 |.own k=>match ae hp k with|some (.row τ l _) => .sl τ l|_ => .own k
 |.agg xs => .agg (qz hp xs)|x=>x
def qz(hp:List (Nat×ag)):List AV->List AV|[]=>[]|x::xs=>qfg hp x::qz hp xs
end
mutual
def zae:AV->Bool|.own _=>true|.agg xs=>t7 xs|_=>false
def t7:List AV->Bool|[]=>false|x::xs=>zae x||t7 xs
end
mutual
def uf:AV->Bool|.iface _ x=>uf x|.agg xs=>ji xs|.tup xs=>ji xs|.fn _ xs ys=>ji xs&&ji ys|_=>true
def ji:List AV->Bool|[]=>true|x::xs=>uf x&&ji xs
end
def q0q:∀{xs ys:List AV},ji xs=true->ji ys=true->ji (xs++ys)=true
 |[],_,_,h=>h|x::xs,ys,h,k=>by
  simp[ji,qA,wK]at h ⊢;exact⟨h.1,q0q h.2 k⟩
def qky:∀{τ:Ty}{d:τ.den},ji (τ.enc d)=true|.int _,_=>rfl|.byte,_=>rfl|.bool,_=>rfl|.str,_=>rfl|.unit,_=>rfl|.prod _ _,_=>q0q qky qky|.list _,_=>rfl|.tree _,_=>q0q qky rfl
def zqb:∀{τ:Ty}{d:τ.den},uf (τ.av d)=true|.int _,_=>rfl|.byte,_=>rfl|.bool,_=>rfl|.str,_=>rfl|.unit,_=>rfl|.prod a b,d=>qky (τ := .prod a b) (d:=d)|.list _,_=>rfl|.tree a,d=>qky (τ := .tree a) (d:=d)
mutual
def zcd:∀{p:Pt}{d:p.den},uf (p.put d)=true
 |.h _,_=>zqb|.c _,_=>rfl|.agg ps,d=>qbo (ps:=ps) (d:=d)|.tup ps,d=>qbo (ps:=ps) (d:=d)|.ptr _ _,_=>rfl|.own _,_=>rfl|.arr _,_=>rfl|.el _ _,_=>rfl|.iel _ _ _,_=>rfl|.ifc _ p,d=>zcd (p:=p) (d:=d)|.yld _,_=>rfl|.pn _,_=>rfl|.fn f cap,d=>by
  have h:=qbo (ps:=cap) (d:=d);show uf (pg f (Pts.put cap d))=true;unfold pg;cases Nat.blt f iv
  ·show(ji (Pts.put cap d)&&true)=true;rw[h];rfl
  ·exact h
 |.u,_=>rfl
def qbo:∀{ps:List Pt}{d:Pts.den ps},ji (Pts.put ps d)=true
 |[],_=>rfl|p::ps,d=>by
  show(uf (p.put d.1)&&ji (Pts.put ps d.2))=true;rw[zcd,qbo];rfl
end
mutual
def g8{b:Bool}{hp:List (Nat×ag)}:∀{x y:AV}{ps:List Prop},uf y=true->vw false [] (x.ren (au [])) y=some ps->aq ps->∃qs,vw b hp x y=some qs/\aq qs
 |.agg xs,y,ps,hn,h,hp=>by
  cases y<;>first
   |exact qf3 (xs:=xs) hn h hp
   |exact⟨_,rfl,trivial⟩
   |(exfalso;have:=qJ h;subst this;exact absurd hp.1 oC)
 |.tup xs,y,ps,hn,h,hp=>by
  cases y<;>first
   |exact qf3 (xs:=xs) hn h hp
   |exact⟨_,rfl,trivial⟩
   |(exfalso;have:=qJ h;subst this;exact absurd hp.1 oC)
 |.fn f xs ys,y,ps,hn,h,hp=>by
  cases y with
  |fn f' xs' ys'=>
   simp[uf,qA]at hn;have h:(match bt false [] (AV.rens (au []) xs) xs',bt false [] (AV.rens (au []) ys) ys' with
    |some ps,some qs=>some ((f'=f)::(ps++qs))| _,_=>none)=some ps:=h
   split at h
   ·rename_i p1 p2 h1 h2;have:=qJ h;subst this;obtain⟨q1,e1,a1⟩:=qf3 (b:=b) (hp:=‹_›) hn.1 h1 (dp.1 hp.2).1;obtain⟨q2,e2,a2⟩:=qf3 (b:=b) (hp:=‹_›) hn.2 h2 (dp.1 hp.2).2;exact⟨(f'=f)::(q1++q2),by simp[vw,e1,e2],hp.1,dp.2 ⟨a1,a2⟩⟩
   ·cases h
  |undef=>exact⟨_,rfl,trivial⟩|_=>exfalso;have:=qJ h;subst this;exact absurd hp.1 oC
 |.val v,y,ps,hn,h,hp=>by cases y<;>exact⟨ps,h,hp⟩
 |.undef,y,ps,hn,h,hp=>by cases y<;>exact⟨ps,h,hp⟩
 |.int _ _,y,ps,hn,h,hp=>by cases y<;>exact⟨ps,h,hp⟩
 |.byte _,y,ps,hn,h,hp=>by cases y<;>exact⟨ps,h,hp⟩
 |.bool _,y,ps,hn,h,hp=>by cases y<;>exact⟨ps,h,hp⟩
 |.str _,y,ps,hn,h,hp=>by cases y<;>exact⟨ps,h,hp⟩
 |.sl _ _,y,ps,hn,h,hp=>by cases y<;>exact⟨ps,h,hp⟩
 |.arr _ _,y,ps,hn,h,hp=>by cases y<;>exact⟨ps,h,hp⟩
 |.rop _,y,ps,hn,h,hp=>by cases y<;>exact⟨ps,h,hp⟩
 |.iface t x,y,ps,hn,h,hp=>by
  cases y with
  |undef=>exact⟨_,rfl,trivial⟩|iface t' x'=>
   have h:(match vw false [] (AV.ren (au []) x) x' with
    |some ps=>some ((t'=t)::ps)| none=>none)=some ps:=h
   split at h
   ·rename_i p1 h1;have:=qJ h;subst this;have hn':uf x'=true:=hn;obtain⟨q1,e1,a1⟩:=g8 (b:=b) (hp:=‹_›) (x:=x) (y:=x') hn' h1 hp.2;exact⟨(t'=t)::q1,by simp[vw,e1],hp.1,a1⟩
   ·cases h
  |_=>exfalso;have:=qJ h;subst this;exact absurd hp.1 (by simp[AV.ren])
 |.ptr _ _,y,ps,hn,h,hp=>by
  cases y<;>first
   |exact⟨_,rfl,trivial⟩
   |(exfalso;have:=qJ h;subst this;have e:_=AV.undef:=hp.1;cases e)
 |.own _,y,ps,hn,h,hp=>by
  cases y<;>first
   |exact⟨_,rfl,trivial⟩
   |(exfalso;have:=qJ h;subst this;have e:_=AV.undef:=hp.1;cases e)
 |.oel _ _ _ _,y,ps,hn,h,hp=>by
  cases y<;>first
   |exact⟨_,rfl,trivial⟩
   |(exfalso;have:=qJ h;subst this;have e:_=AV.undef:=hp.1;cases e)
 |.osl _ _ _,y,ps,hn,h,hp=>by
  cases y<;>first
   |exact⟨_,rfl,trivial⟩
   |(exfalso;have:=qJ h;subst this;have e:_=AV.undef:=hp.1;cases e)
 |.asl _ _ _,y,ps,hn,h,hp=>by
  cases y<;>first
   |exact⟨_,rfl,trivial⟩
   |(exfalso;have:=qJ h;subst this;have e:_=AV.undef:=hp.1;cases e)
 |.yld _,y,ps,hn,h,hp=>by
  cases y<;>first
   |exact⟨_,rfl,trivial⟩
   |(exfalso;have:=qJ h;subst this;have e:_=AV.undef:=hp.1;cases e)
 |.pn _,y,ps,hn,h,hp=>by
  cases y<;>first
   |exact⟨_,rfl,trivial⟩
   |(exfalso;have:=qJ h;subst this;have e:_=AV.undef:=hp.1;cases e)
def qf3{b:Bool}{hp:List (Nat×ag)}:∀{xs ys:List AV}{ps:List Prop},ji ys=true->bt false [] (AV.rens (au []) xs) ys=some ps->aq ps->∃qs,bt b hp xs ys=some qs/\aq qs
 |[],[],ps,_,h,hp=>⟨[],rfl,trivial⟩|x::xs,y::ys,ps,hn,h,hp=>by
  simp[ji,qA]at hn;simp[AV.rens,bt]at h;split at h
  ·rename_i p1 h1;split at h
   ·rename_i p2 h2;have:=qJ h;subst this;obtain⟨q1,e1,a1⟩:=g8 (b:=b) (hp:=‹_›) hn.1 h1 (dp.1 hp).1;obtain⟨q2,e2,a2⟩:=qf3 (b:=b) (hp:=‹_›) hn.2 h2 (dp.1 hp).2;exact⟨q1++q2,by simp[bt,e1,e2],dp.2 ⟨a1,a2⟩⟩
   ·cases h
  ·cases h
 |[],_::_,_,_,h,_=>by simp[AV.rens,bt]at h|_::_,[],_,_,h,_=>by simp[AV.rens,bt]at h
end
mutual
def zu5{hp:List (Nat×ag)}:∀{x y:AV},uf y=true->nt [] (qfg hp x) y->∃qs,vw true hp x y=some qs/\aq qs
 |.own k,y,hn,⟨ps,h1,h2⟩=>by
  simp only[qfg]at h1;split at h1
  ·rename_i τ l E hl
   cases y with
   |undef=>exact⟨_,rfl,trivial⟩|sl τ' l'=>
    have:=qJ h1;subst this;exact⟨[AV.sl τ' l'=AV.sl τ l],by simp[vw,hl,qT],h2.1,trivial⟩
   |_=>exfalso;have:=qJ h1;subst this;exact absurd h2.1 (by simp[AV.ren])
  ·exact g8 hn h1 h2
 |.agg xs,y,hn,⟨ps,h1,h2⟩=>by
  simp[qfg,AV.ren]at h1
  cases y with
  |undef=>exact⟨_,rfl,trivial⟩|agg ys=>
   have h1':bt false [] (AV.rens (au []) (qz hp xs)) ys=some ps:=h1;have hn':ji ys=true:=hn;obtain⟨qs,k1,k2⟩:=qrp (xs:=xs) hn' ⟨ps,h1',h2⟩;exact⟨qs,k1,k2⟩
  |_=>exfalso;have:=qJ h1;subst this;exact absurd h2.1 oC
 |.undef,y,hn,⟨ps,h1,h2⟩=>g8 (x := .undef) hn h1 h2|.int k n,y,hn,⟨ps,h1,h2⟩=>g8 (x := .int k n) hn h1 h2|.byte c,y,hn,⟨ps,h1,h2⟩=>g8 (x := .byte c) hn h1 h2|.bool c,y,hn,⟨ps,h1,h2⟩=>g8 (x := .bool c) hn h1 h2|.str c,y,hn,⟨ps,h1,h2⟩=>g8 (x := .str c) hn h1 h2|.sl τ l,y,hn,⟨ps,h1,h2⟩=>g8 (x := .sl τ l) hn h1 h2|.arr τ l,y,hn,⟨ps,h1,h2⟩=>g8 (x := .arr τ l) hn h1 h2|.rop c,y,hn,⟨ps,h1,h2⟩=>g8 (x := .rop c) hn h1 h2|.val c,y,hn,⟨ps,h1,h2⟩=>g8 (x := .val c) hn h1 h2|.tup c,y,hn,⟨ps,h1,h2⟩=>g8 (x := .tup c) hn h1 h2|.ptr b o,y,hn,⟨ps,h1,h2⟩=>g8 (x := .ptr b o) hn h1 h2|.oel k z i o,y,hn,⟨ps,h1,h2⟩=>g8 (x := .oel k z i o) hn h1 h2|.osl k z l,y,hn,⟨ps,h1,h2⟩=>g8 (x := .osl k z l) hn h1 h2|.asl k n c,y,hn,⟨ps,h1,h2⟩=>g8 (x := .asl k n c) hn h1 h2|.yld n,y,hn,⟨ps,h1,h2⟩=>g8 (x := .yld n) hn h1 h2|.pn n,y,hn,⟨ps,h1,h2⟩=>g8 (x := .pn n) hn h1 h2|.fn f a c,y,hn,⟨ps,h1,h2⟩=>g8 (x := .fn f a c) hn h1 h2|.iface t x,y,hn,⟨ps,h1,h2⟩=>g8 (x := .iface t x) hn h1 h2
def qrp{hp:List (Nat×ag)}:∀{xs ys:List AV},ji ys=true->qa3 [] (qz hp xs) ys->∃qs,bt true hp xs ys=some qs/\aq qs
 |[],[],_,_=>⟨[],rfl,trivial⟩|x::xs,y::ys,hn,⟨ps,h,hp⟩=>by
  simp[ji,qA]at hn;simp[qz,AV.rens,bt]at h;split at h
  ·rename_i p1 h1;split at h
   ·rename_i p2 h2;have:=qJ h;subst this;obtain⟨q1,e1,a1⟩:=zu5 hn.1 ⟨_,h1,(dp.1 hp).1⟩;obtain⟨q2,e2,a2⟩:=qrp hn.2 ⟨_,h2,(dp.1 hp).2⟩;exact⟨q1++q2,by simp[bt,e1,e2],dp.2 ⟨a1,a2⟩⟩
   ·cases h
  ·cases h
 |[],_::_,_,⟨_,h,_⟩=>by simp[qz,AV.rens,bt]at h|_::_,[],_,⟨_,h,_⟩=>by simp[qz,AV.rens,bt]at h
end
def Ty.noRef:Ty->Bool|.list _=>false|.tree _=>false|.prod a b=>a.noRef&&b.noRef|_=>true
def zcg:∀{xs ys:List AV},ii xs=true->ii ys=true->ii (xs++ys)=true
 |[],_,_,h=>h|x::xs,ys,h,k=>by
  simp[ii,qA,wK]at h ⊢;exact⟨h.1,zcg h.2 k⟩
def q0s:∀{τ:Ty},τ.noRef=true->∀{d:τ.den},ii (τ.enc d)=true
 |.int _,_,_=>rfl|.byte,_,_=>rfl|.bool,_,_=>rfl|.str,_,_=>rfl|.unit,_,_=>rfl|.prod a b,h,_=>by
  simp[Ty.noRef,qA]at h;exact zcg (q0s h.1) (q0s h.2)
def qq1:List (Nat×bj)->Bool|[]=>true|(_,.row τ _)::r=>τ.noRef&&qq1 r|_::_=>false
def zdx:∀{l:List (Nat×bj)},qq1 l=true->∀{d:f8 l},aq (lu (bp l d))
 |[],_,_=>trivial|(n,.row τ E)::r,h,d=>by
  simp[qq1,qA]at h;exact⟨fun x _=>q0s h.1,zdx h.2 (d:=d.2)⟩
 |(_,.cells _ _)::_,h,_=>by cases h
 |(_,.loop _ _ _ _ _ _ _ _)::_,h,_=>by cases h
 |(_,.dfr)::_,h,_=>by cases h
 |(_,.it)::_,h,_=>by cases h
 |(_,.dat _ _)::_,h,_=>by cases h
 |(_,.dead)::_,h,_=>by cases h
mutual
def zc7:Pt->Bool|.h τ=>τ.noRef|.agg ps=>qqp ps|.tup ps=>qqp ps|.fn _ ps=>qqp ps|_=>true
def qqp:List Pt->Bool|[]=>true|p::ps=>zc7 p&&qqp ps
end
def RS.rows:{α:Type}->RS α->Bool|_,.one p hp _ _ _=>zc7 p&&qq1 hp|_,.two l r=>l.rows&&r.rows
def RS.rows_ok:∀{α:Type}{r:RS α},r.rows=true->∀{x:α},aq (lu (r.res x).2)
 |_,.one _ hp _ _ _,h,_=>zdx (l:=hp) (by simp[RS.rows,qA]at h;exact h.2)|_,.two l r,h,.inl a=>by
  simp[RS.rows,qA]at h;exact RS.rows_ok (r:=l) h.1 (x:=a)
 |_,.two l r,h,.inr b=>by
  simp[RS.rows,qA]at h;exact RS.rows_ok (r:=r) h.2 (x:=b)
def qqc(s:St)(τ:Ty):AV->Option (List τ.den)
 |.sl τ' l=>match Ty.eq? τ' τ with|some ⟨h⟩=>some (h▸l)|none=>none
 |.str b=>match Ty.eq? .byte τ with|some ⟨h⟩=>some (h▸(b:List Ty.byte.den))|none=>none
 |.own k=>match ae s.hp k with
  |some (.row τ' l _)=>match Ty.eq? τ' τ with|some ⟨h⟩=>some (h▸l)|none=>none
  |_=>none
 |.asl b _ _=>match ae s.hp b with|some (.cells cs _)=>qeu τ cs|_=>none
 |.val (.slice none 0 0)=>some []|_=>none
def zbs{s:St}{τ:Ty}{v:AV}{l:List τ.den}(h:qqc s τ v=some l){flat:List AV}{n:Nat}(hs:fk s v=some (flat,n)):flat=l.flatMap τ.enc/\n=l.length:=by
 unfold qqc at h;split at h
 ·split at h
  ·rename_i hh _;subst hh;have h:=qJ h;subst h;simp[fk,qI,qP]at hs;obtain⟨rfl,rfl⟩:=hs;exact⟨rfl,rfl⟩
  ·cases h
 ·split at h
  ·rename_i hh _;subst hh;have h:=qJ h;subst h;simp[fk,qI,qP]at hs;obtain⟨rfl,rfl⟩:=hs;exact⟨(qj5 _).symm,rfl⟩
  ·cases h
 ·split at h
  ·rename_i hl;split at h
   ·rename_i hh _;subst hh;have h:=qJ h;subst h;simp[fk,hl,qI,qP]at hs;obtain⟨rfl,rfl⟩:=hs;exact⟨rfl,rfl⟩
   ·cases h
  ·cases h
 ·rename_i b m c;split at h
  ·rename_i cs T hl;simp[fk,hl]at hs;cases hq:Nat.beq m c&&Nat.beq cs.length m&&allData (cs.map AV.sym)<;>rw[hq]at hs<;>simp at hs
   obtain⟨rfl,rfl⟩:=hs;simp at hq;have e1:=qys h;have e2:cs.length=l.length:=by have:=congrArg List.length e1;simpa using this
   refine⟨?_,oA⟩
   rw[e1];have hd:∀x∈l.map τ.av,wq x=true:=by
    intro x hx;rw[← e1]at hx;have:∀{xs:List AV},allData xs=true->∀x∈xs,wq x=true:=by
     intro xs
     induction xs with
     |nil=>intro _ x hx;cases hx
     |cons y ys ih=>
      intro hy x hx;simp[allData,qA]at hy;rcases List.mem_cons.1 hx with q|q
      ·rw[q];exact hy.1
      ·exact ih hy.2 x q
    exact this hq.2 x hx
   clear e1 e2 hq h
   induction l with
   |nil=>rfl|cons y l ih=>
    rw[List.map_cons,List.flatMap_cons,ih (fun x hx=>hd x (by rw[List.map_cons];exact qE _ hx))]
    have hy:=hd (τ.av y) (by rw[List.map_cons];exact qH)
    have:τ.enc y=[τ.av y]:=by cases τ<;>first|rfl|(simp[Ty.av,wq]at hy)
    rw[this];rfl
  ·cases h
 ·have h:=qJ h;subst h;simp[fk,qI,qP]at hs;obtain⟨rfl,rfl⟩:=hs;exact⟨rfl,rfl⟩
 ·cases h
def qpf(τ:Ty):Nat->List AV->Option (List τ.den)
 |0,[]=>some []|n+1,cs=>match τ.dec cs with
  |some (d,r)=>match qpf τ n r with|some ds=>some (d::ds)|none=>none
  |none=>none
 |_,_=>none
def q85{τ:Ty}:∀{n:Nat}{cs:List AV}{l:List τ.den},qpf τ n cs=some l->f5 cs (l.flatMap τ.enc)/\l.length=n
 |0,[],l,h=>by have h:=qJ h;subst h;exact⟨⟨fun _=>rfl,[],rfl,trivial⟩,rfl⟩
 |0,_::_,l,h=>by cases h
 |n+1,cs,l,h=>by
  simp[qpf]at h;split at h
  ·rename_i d r hd;split at h
   ·rename_i ds hds;have h:=qJ h;subst h;obtain⟨ab,rfl,hs⟩:=wj hd;obtain⟨h1,h2⟩:=q85 hds;exact⟨hs.append h1,by simp[h2]⟩
   ·cases h
  ·cases h
structure Tb:Type 1 where
 ents:List cf
 ety:List (Nat×Ty)
 sub:Bool
def qkw:NM->Bool|[]=>true|_=>false
def q0n:List (Nat×bj)->Bool|[]=>true|_=>false
def ua(f:FuncId):qh->Bool|.fn f'=>Nat.beq f' f|_=>false
def qo0(s:St)(f:FuncId)(xs:List AV)(e:cf):Option Rq:=
 bif ua f e.key&&q0n e.hp&&(!(t7 xs)||e.out.rows) then
  match Pts.get e.args (qz s.hp xs) [] with
  |some (d,nm)=>match th s.hp e.hp nm with
   |some (d',nm')=>bif qkw nm' then some (.bnd (e.F d d') (e.out.sp fun r hp' => .res (t7 xs) (Pts.put e.args d) r hp')) else none
   |none=>none
  |none=>none
 else none
def order(nm:NM):List (Nat×bj)->NM
 |[]=>[]|(n,_)::r=>match bf nm n with|some m=>(n,m)::order nm r|none=>order nm r
def qkq(s:St)(ys:List AV)(nm0:NM)(e:cf):Option Rq:=
 match Pts.get e.args ys nm0 with
 |some (d,nm)=>match th s.hp e.hp nm with
  |some (d',nm')=>bif dn (order nm' e.hp)&&vy nm' e.hp then
    some (.bnd (e.F d d') (e.out.sp fun r hp' => .mem (order nm' e.hp) (Pts.put e.args d) (bp e.hp d') r hp')) else none
  |none=>none
 |none=>none
def qjs(s:St)(f:FuncId)(ys:List AV)(e:cf):Option Rq:=bif ua f e.key then qkq s ys [] e else none
def zh6(s:St)(m:Nat)(ys:List AV)(e:cf):Option Rq:=match e.key with|.yld m'=>qkq s ys [(m',m)] e|_=>none
def yv(g:cf->Option Rq):List cf->Option Rq
 |[]=>none|e::es=>match g e with|some q=>some q|none=>yv g es
def qjm(P:Program)(tb:Tb)(s:St)(t:TypeId)(x y:AV):Option Rq:=
 match x with
 |.own k=>match ae s.hp k with
  |some (.row τ l E)=>match qqc s τ y with|some m=>some (.ifb (decide ((l++m).length<=aw)) (.row (.row τ (l++m) E)))|none=>none
  |_=>none
 |_=>match P.underlying t with
  |some (.slice E)=>match ae tb.ety E with
   |some τ=>match qqc s τ y with|some m=>some (.ifb (decide (m.length<=aw)) (.row (.row τ m E)))|none=>none
   |none=>none
  |_=>none
def zef(P:Program)(tb:Tb)(s:St)(t:TypeId)(len:Nat)(parts:List (Nat×Operand)):Option Rq:=
 match P.underlying t with
 |some (.slice E)=>match ae tb.ety E,er P E,qm s parts with
  |none,_,_=>some (.tot (.b true))|some τ,some sz,some ps=>match vx (fun i=>some (i*sz,sz)) (qlj (len*sz)) ps with
   |some cs=>match qpf τ len cs with|some l=>some (.tot (.row (.row τ l E)))|none=>none
   |none=>none
  |_,_,_=>none
 |_=>none
def zet(s:St)(k i off:Nat)(v:AV):Option Rq:=match ae s.hp k with
 |some (.row τ l E)=>bif Nat.ble (off+v.cells.length) τ.sz then
   some (.bnd l[i]? (.one fun x=>match τ.dec (fj (τ.enc x) off v.cells) with
    |some (y,[]) => .put (((τ.enc y).drop off).take v.cells.length) (.row τ (l.set i y) E)| _ => .none))
  else none
 |_=>none
def qn(P:Program)(tb:Tb)(s:St)(op:Op):Option Rq:=
 match op with
 |.alloc _=>some (.tot .none)|.box _ _=>some (.tot .none)|.buildSlice t len parts=>zef P tb s t len parts.toList|.convert _ _ x=>match s.ev x with|some (.str b)=>some (.ifb (decide (b.length<=maxLen)) .none)|_=>none
 |.store _ x y=>match s.ev x with
  |some (.ptr _ _)=>some (.tot .none)|some (.oel k _ i off)=>match s.ev y with|some v=>zet s k i off v|none=>none
  |_=>none
 |.call { callee := .builtin .append,args,argTypes }=>match args.toList,argTypes.toList with
  |[x,y],[t,_]=>match s.ev x,s.ev y with|some a,some b=>qjm P tb s t a b|_,_=>none
  |_,_=>none
 |.call { callee := .value g,args,argTypes:=_ }=>match s.ev g,s.evs args.toList with
  |some (.fn (.func f) fst cap),some xs=>match yv (qo0 s f ((fst++xs)++cap)) tb.ents with|some q=>some q|none=>yv (qjs s f ((fst++xs)++cap)) tb.ents
  |some (.yld m),some ys=>yv (zh6 s m ys) tb.ents|_,_=>none
 |_=>none
def wu(P:Program):Op->Bool
 |.alloc _=>false|.box _ _=>false|.buildSlice _ _ _=>false|.store _ _ _=>false|.convert _ dst _=>match P.underlying dst with|some (.slice _)=>false|_=>true
 |.call { callee := .builtin .append,args:=_,argTypes:=_ }=>false|.call { callee := .value _,args:=_,argTypes:=_ }=>false|_=>true
def wa(P:Program)(tb:Tb)(s:St)(op:Op):Option Rq:=bif wu P op then qo P s op else qn P tb s op
mutual
def zph{hp:List (Nat×ag)}:∀{x:AV},zae x=false->qfg hp x=x
 |.agg xs,h=>by simp[qfg];rw[qz4 (xs:=xs) h]|.own k,h=>by cases h
 |.undef,_=>rfl|.int _ _,_=>rfl|.byte _,_=>rfl|.bool _,_=>rfl|.str _,_=>rfl|.sl _ _,_=>rfl|.arr _ _,_=>rfl|.rop _,_=>rfl|.val _,_=>rfl|.tup _,_=>rfl|.ptr _ _,_=>rfl|.oel _ _ _ _,_=>rfl|.osl _ _ _,_=>rfl|.asl _ _ _,_=>rfl|.yld _,_=>rfl|.pn _,_=>rfl|.fn _ _ _,_=>rfl|.iface _ _,_=>rfl
def qz4{hp:List (Nat×ag)}:∀{xs:List AV},t7 xs=false->qz hp xs=xs
 |[],_=>rfl|x::xs,h=>by
  simp[t7,Bool.or_eq_false_iff]at h;simp[qz,qz4 h.2,zph h.1]
end
def zca{nm:NM}(h:qkw nm=true):nm=[]:=by cases nm with|nil=>rfl|cons _ _=>cases h
def zle:∀{l:List (Nat×bj)}{d:f8 l},q0n l=true->bp l d=[]|[],_,_=>rfl|_::_,_,h=>by cases h
def qz1{f:FuncId}{k:qh}(h:ua f k=true):k = .fn f:=by
 cases k with
 |fn f'=>rw[qN (show Nat.beq f' f=true from h)]|yld _=>cases h
 |ext _=>cases h
 |thr _ _=>cases h
def yw{g:cf->Option Rq}:∀{es:List cf}{q:Rq},yv g es=some q->∃e∈es,g e=some q
 |[],_,h=>by cases h
 |e::es,q,h=>by
  simp[yv]at h;split at h
  ·rename_i q' hq;have h:=qJ h;subst h;exact⟨e,qH,hq⟩
  ·obtain⟨e',h1,h2⟩:=yw h;exact⟨e',qE _ h1,h2⟩
def q8k{P:Program}{s:St}{f:FuncId}{xs:List AV}{e:cf}{q:Rq}{d:D}(he:e.Sound P)(h:qo0 s f xs e=some q)(ho:q.Out d) :
  ∃b ys r hp' ps,d = .res b ys r hp'/\bt b s.hp xs ys=some ps/\aq ps/\Plain P f/\ci P f ys [] r hp'/\(b=true->aq (lu hp')):=by
 unfold qo0 at h;cases hk:ua f e.key&&q0n e.hp&&(!(t7 xs)||e.out.rows)<;>rw[hk]at h<;>simp at h
 simp at hk;obtain⟨⟨hk1,hk2⟩,hk3⟩:=hk;split at h
 ·rename_i x nm hg;split at h
  ·rename_i x' nm' hg';cases hn:qkw nm'<;>rw[hn]at h<;>simp at h
   subst h;have hn:=zca hn;subst hn;obtain⟨y,hy,hd⟩:=ho;have hd:=RS.sp_out hd;have hs:=he x x' y hy;rw[qz1 hk1]at hs;simp only at hs;rw[zle hk2]at hs;have hseen:=(Pts.get_seen hg).2 [] rfl (fun n m hh=>by have:=(qa6 hg').1 n m hh;cases this)
   have key:∃ps,bt (t7 xs) s.hp xs (Pts.put e.args x)=some ps/\aq ps:=by
    cases hb:t7 xs
    ·rw[qz4 hb]at hseen;obtain⟨ps,h1,h2⟩:=hseen;exact qf3 qbo h1 h2
    ·exact qrp qbo hseen
   obtain⟨ps,k1,k2⟩:=key;refine⟨t7 xs,Pts.put e.args x,_,_,ps,hd,k1,k2,hs.1,hs.2,fun hb => ?_⟩
   rw[hb]at hk3;exact RS.rows_ok (by simpa using hk3)
  ·cases h
 ·cases h
def q00{nm:NM}:∀{l:List (Nat×bj)}{n m:Nat},bf nm n=some m->(∃e∈l,e.1=n)->bf (order nm l) n=some m
 |[],n,m,_,⟨e,he,_⟩=>by cases he
 |(k,p)::r,n,m,h,⟨e,he,hn⟩=>by
  simp[order];cases hq:Nat.beq k n
  ·have hr:∃e∈r,e.1=n:=by
    rcases List.mem_cons.1 he with rfl|he
    ·simp only at hn;subst hn;simp at hq
    ·exact⟨e,he,hn⟩
   split
   ·simp[bf,hq,qF];exact q00 h hr
   ·exact q00 h hr
  ·have:=qN hq;subst this;rw[h];simp[bf]
def q78{hp:List (Nat×ag)}{N M:NM}(hN:dn N=true):∀{l:List (Nat×bj)}{nm nm':NM}{d:f8 l},th hp l nm=some (d,nm')->cn nm' M->cn nm' N->∀{hpv:List (Nat×ag)}{ps:List Prop},
  gx (au N) hp (order M l)=some hpv->jo hpv (bp l d)=some ps->aq ps
 |[],nm,nm',d,h,_,_,hpv,ps,hv,hw=>by
  simp[order,gx,qI]at hv;subst hv;have:=qJ (show some []=some ps from hw);subst this;trivial
 |(j,p)::r,nm,nm',d,h,hM,hS,hpv,ps,hv,hw=>by
  have h:(match bf nm j with
   |some old=>match ae hp old with
    |some b=>match p.get b nm with
     |some (d,nm')=>match th hp r nm' with|some (ds,nm'')=>some ((d,ds),nm'')|none=>none
     |none=>none
    |none=>none
   | none=>none)=some (d,nm'):=h
  split at h
  ·rename_i old ho;split at h
   ·rename_i b hb;split at h
    ·rename_i d1 nm1 h1;split at h
     ·rename_i d2 nm2 h2;simp at h;obtain⟨rfl,rfl⟩:=h;obtain⟨a1,a2⟩:=bj.get_seen h1;obtain⟨b1,_⟩:=qa6 h2;have hj:bf M j=some old:=hM _ _ (b1 _ _ (a1 _ _ ho));simp[order,hj,gx,hb]at hv;split at hv
      ·rename_i b' l' e1 e2;simp at e1 hv;subst e1 hv;have hw:(bif Nat.beq j j then(match zw (d9 (au N) b) (p.put d1),jo l' (bp r d2) with
        |some ps,some qs=>some (ps++qs)| _,_=>none) else none)=some ps:=hw
       rw[show Nat.beq j j=true by simp]at hw
       simp at hw;split at hw
       ·rename_i p1 p2 w1 w2;have:=qJ hw;subst this;obtain⟨p1',s1,s2⟩:=a2 N hN (b1.trans hS);rw[w1]at s1;have:=qJ s1;subst this;exact dp.2 ⟨s2,q78 hN h2 hM hS e2 w2⟩
       ·cases hw
      ·cases hv
     ·cases h
    ·cases h
   ·cases h
  ·cases h
def qkr{s:St}{ys:List AV}{nm0:NM}{e:cf}{q:Rq}{d:D}(h:qkq s ys nm0 e=some q)(ho:q.Out d) :
  ∃N x x' y,e.F x x'=some y/\d = .mem N (Pts.put e.args x) (bp e.hp x') (e.out.res y).1 (e.out.res y).2/\dn N=true/\cn nm0 N /\
   (∀ps,bt false [] (AV.rens (au N) ys) (Pts.put e.args x)=some ps->aq ps)/\∀hpv ps,gx (au N) s.hp N=some hpv->jo hpv (bp e.hp x')=some ps->aq ps:=by
 unfold qkq at h;split at h
 ·rename_i x nm hg;split at h
  ·rename_i x' nm' hg';cases hk:dn (order nm' e.hp)&&vy nm' e.hp<;>rw[hk]at h<;>simp at h
   subst h;simp at hk;obtain⟨y,hy,hd⟩:=ho;have hsub:cn nm' (order nm' e.hp):=fun n m hh=>q00 hh (qxl hk.2 n m hh)
   obtain⟨g1,g2⟩:=Pts.get_seen hg;obtain⟨g1',_⟩:=qa6 hg';refine⟨order nm' e.hp,x,x',y,hy,RS.sp_out hd,hk.1,g1.trans (g1'.trans hsub),fun ps hv => ?_,fun hpv ps hv hw=>q78 hk.1 hg' (cn.refl _) hsub hv hw⟩
   obtain⟨ps',h1,h2⟩:=g2 _ hk.1 (g1'.trans hsub);rw[hv]at h1;have:=qJ h1;subst this;exact h2
  ·cases h
 ·cases h
def zby{s s':St}{q:Prop}{ys xs:List AV}{names:List (Nat×Nat)}{hp hp':List (Nat×ag)}{r:AV}{t:Nat}{ps:List Prop}(h:rg s q ys names xs hp r hp' t=some (ps,s'))(hq:q)
  (h1:∀ps,bt false [] (AV.rens (au names) ys) xs=some ps->aq ps) (h2:∀hpv ps,gx (au names) s.hp names=some hpv->jo hpv hp=some ps->aq ps):aq ps:=by
 unfold rg at h;cases hb:dn names&&o7 names&&bh (s.nx+32*t) s.hp&&Nat.blt t s.n<;>rw[hb]at h<;>simp at h
 split at h
 ·rename_i hpv ps1 e1 e2;split at h
  ·rename_i ps2 e3;simp at h;obtain⟨rfl,_⟩:=h;exact⟨hq,dp.2 ⟨h1 _ e2,h2 _ _ e1 e3⟩⟩
  ·cases h
 ·cases h
def zax{P:Program}{s:St}{d:D}{op:Op}(h:wu P op=false):cz P s d op=none:=by
 unfold wu at h;split at h<;>first
  |rfl
  |cases h
  | (split at h
     ·rename_i src dst x _ E hE;simp[cz,hE];have hc:∀v,td P dst v=none:=fun v=>by
       unfold td;rw[hE]
      have hc':∀v,ye P dst v=none:=fun v=>by
       unfold ye;split
       ·rw[hc]
       ·rw[hc]
      cases P.underlying src<;>cases s.ev x<;>simp[hc']
     ·cases h)
def zaw{P:Program}{s:St}{d:D}{o:Oper}(h:wu P o.op=true):je P s d o=none:=by
 obtain⟨dst,op,ty,pos,after,guard⟩:=o;simp only at h
 cases hA:je P s d ⟨dst,op,ty,pos,after,guard⟩ with
 |none=>rfl|some R=>
  exfalso;unfold je at hA;split at hA
  ·rename_i e _;simp only at e;subst e;cases h
  ·rename_i e _;simp only at e;subst e;cases h
  ·rename_i e _;simp only at e;subst e;cases h
  ·rename_i e _;simp only at e;subst e;cases h
  ·rename_i e _;simp only at e;subst e;cases h
  ·rename_i e _;simp only at e;subst e;split at hA
   ·rename_i e2 _;simp only[wu,e2]at h;cases h
   ·cases hA
  ·cases hA
def zox{P:Program}{s:St}{d:D}{o:Oper}(h:wu P o.op=true):ql P s d o=none:=by
 obtain⟨dst,op,ty,pos,after,guard⟩:=o;simp only at h
 cases hA:ql P s d ⟨dst,op,ty,pos,after,guard⟩ with
 |none=>rfl|some R=>
  exfalso;unfold ql at hA;split at hA
  ·rename_i e;simp only at e;subst e;cases h
  ·rename_i e;simp only at e;subst e;cases h
  ·rename_i e;simp only at e;subst e;cases h
  ·cases hA
def zka{P:Program}{tb:Tb}{s:St}{t t2:TypeId}{y:AV}{q:Rq}{d:D}{ps:List Prop}{b:ag}(h:qjm P tb s t (.val (.slice none 0 0)) y=some q)(ho:q.Out d)(ha:ov P s d t t2 [] 0 y=some (ps,b)):aq ps:=by
 unfold qjm at h;simp only at h;unfold ov at ha;split at h
 ·rename_i E hE;split at h
  ·rename_i τ hτ;split at h
   ·rename_i m hm;have h:=qJ h;subst h;obtain⟨h1,rfl⟩:=ho;simp only[hE]at ha;split at ha
    ·rename_i sz flat n e1 e2;obtain⟨k1,k2⟩:=zbs hm e2;cases hq:Nat.beq τ.sz sz&&Nat.beq E E&&oq P E&&qfj P t2<;>rw[hq]at ha<;>simp only[qT,qF,reduceCtorEq,qI,qP]at ha
     obtain⟨rfl,_⟩:=ha;exact⟨by rw[k1];rfl,oA,of_decide_eq_true h1,trivial⟩
    ·cases ha
   ·cases h
  ·cases h
 ·cases h
def zkb{P:Program}{tb:Tb}{s:St}{t t2:TypeId}{k:Nat}{τ0:Ty}{l0:List τ0.den}{E0:TypeId}{y:AV}{q:Rq}{d:D}{ps:List Prop}{b:ag}(hk:ae s.hp k=some (.row τ0 l0 E0))(h:qjm P tb s t (.own k) y=some q)(ho:q.Out d)(ha:ov P s d t t2 (l0.flatMap τ0.enc) l0.length y=some (ps,b)):aq ps:=by
 unfold qjm at h;simp only[hk]at h;unfold ov at ha;split at h
 ·rename_i m hm;have h:=qJ h;subst h;obtain⟨h1,rfl⟩:=ho;split at ha
  ·rename_i E _ _ _ e0 ed;simp only[D.row.injEq,ag.row.injEq]at ed;obtain⟨rfl,ed,rfl⟩:=ed;have ed:=eq_of_heq ed;subst ed;split at ha
   ·rename_i sz flat n e1 e2;obtain⟨k1,k2⟩:=zbs hm e2;cases hq:Nat.beq τ0.sz sz&&Nat.beq E E0&&oq P E&&qfj P t2<;>rw[hq]at ha<;>simp only[qT,qF,reduceCtorEq,qI,qP]at ha
    obtain⟨rfl,_⟩:=ha;exact⟨by rw[k1,List.flatMap_append],by rw[k2,qM],of_decide_eq_true h1,trivial⟩
   ·cases ha
  ·cases ha
 ·cases h
def q7s{P:Program}{tb:Tb}{s:St}{o:Oper}{q:Rq}{d:D}{ps:List Prop}{v:AV}{new:List (Nat×ag)}(hT:∀e∈tb.ents,e.Sound P)(hv:wu P o.op=false)(h:qn P tb s o.op=some q)(ho:q.Out d)(ha:je P s d o=some (ps,v,new)):aq ps:=by
 obtain⟨dst,op,ty,pos,after,guard⟩:=o;simp only at h hv;have cnd:∀{b:Bool}{x:AV}{y:List (Nat×ag)}{ps0 ps:List Prop}{v:AV}{new:List (Nat×ag)},(bif b then some (ps0,x,y) else none)=some (ps,v,new)->aq ps0->aq ps:=fun{b} _ _ _ _ _ _ e k=>by
  cases b
  ·cases e
  ·simp at e;obtain⟨rfl,_⟩:=e;exact k
 unfold je at ha;split at ha
 ·split at ha
  ·exact cnd ha trivial
  ·cases ha
 ·split at ha
  ·exact cnd ha trivial
  ·cases ha
 ·rename_i g args ats t e _;simp only at e;subst e;split at ha
  ·rename_i f fst cap xs b xs' r hp' e1 e2;split at ha
   ·rename_i ps1 hps;refine cnd ha ?_;rw[qS fst xs cap]at hps;simp[qn,e1,e2]at h;have key:∀e∈tb.ents,qo0 s f (fst++(xs++cap)) e=some q->aq (Plain P f::ci P f xs' [] r hp'::(ps1++(bif b then lu hp' else[]))):=fun e he hc=>by
     obtain⟨b1,ys,r1,hp1,ps2,k1,k2,k3,k4,k5,k6⟩:=q8k (hT e he) hc ho;simp at k1;obtain⟨rfl,rfl,rfl,rfl⟩:=k1;rw[hps]at k2;have:=qJ k2;subst this;refine⟨k4,k5,dp.2 ⟨k3,?_⟩⟩;cases b
     ·trivial
     ·exact k6 rfl
    split at h
    ·rename_i q' hq;have h:=qJ h;subst h;obtain⟨e,he,hc⟩:=yw hq;exact key e he hc
    ·exfalso;obtain⟨e,he,hc⟩:=yw h;unfold qjs at hc;cases hk:ua f e.key<;>rw[hk]at hc<;>simp at hc
     obtain⟨N,x,x',y,_,k2,_⟩:=qkr hc ho;cases k2
   ·cases ha
  ·cases ha
 ·rename_i args ats tt e _;simp only at e;subst e;split at ha
  ·rename_i x y t t2 e1 e2;split at ha
   ·rename_i v' e3 e4;split at ha
    ·rename_i ps1 b e5;refine cnd ha ?_;simp[qn,e1,e2,e3,e4]at h;exact zka h ho e5
    ·cases ha
   ·cases ha
  ·cases ha
 ·rename_i t len parts tt e _;simp only at e;subst e;split at ha
  ·rename_i ps1 b e1;refine cnd ha ?_;simp[qn]at h;unfold zef at h;unfold yd at e1;split at h
   ·rename_i E hE;split at h
    ·have h:=qJ h;subst h;have ho:d=_:=ho;subst ho;simp[hE]at e1
    ·rename_i τ sz ps2 i1 i2 i3;split at h
     ·rename_i cs hcs;split at h
      ·rename_i l hl;have h:=qJ h;subst h;have ho:d=_:=ho;subst ho;simp only[hE,i2,i3,hcs]at e1;cases hq:Nat.beq τ.sz sz&&Nat.beq E E&&oq P E&&Nat.ble (len*τ.sz) 16777216&&AV.ones cs<;>rw[hq]at e1<;>simp at e1
       obtain⟨⟨j1,ps3,j2,j3⟩,j4⟩:=q85 hl;rw[j2]at e1;simp at e1;obtain⟨rfl,_⟩:=e1;exact dp.2 ⟨j3,j4,j1 _,trivial⟩
      ·cases h
     ·cases h
    ·cases h
   ·cases h
  ·split at ha
   ·exact cnd ha trivial
   ·cases ha
 ·rename_i src dst x tt e _;simp only at e;subst e;split at ha
  ·rename_i E b e1 e2 e3;split at ha
   ·refine cnd ha ?_;simp[qn,e3,qI]at h;subst h;exact⟨of_decide_eq_true ho.1,trivial⟩
   ·cases ha
  ·cases ha
 ·cases ha
def q1z:∀(ys a b:List AV)(k:Nat),fj (a++b) (a.length+k) ys=a++fj b k ys
 |[],_,_,_=>rfl|y::ys,a,b,k=>by
  simp only[fj];rw[List.set_append_right _ _ oA,Nat.add_sub_cancel_left,Nat.add_assoc]
  exact q1z ys a (b.set k y) (k+1)
def zel:∀(ys a b:List AV)(k:Nat),k+ys.length<=a.length->fj (a++b) k ys=fj a k ys++b
 |[],_,_,_,_=>rfl|y::ys,a,b,k,h=>by
  simp at h;simp[fj];rw[List.set_append_left _ _ oA]
  exact zel ys (a.set k y) b (k+1) (by rw[List.length_set];omega)
def qfs:∀(ys a:List AV)(k j:Nat),k+ys.length<=a.length->(fj a k ys)[j]? = if k<=j/\j<k+ys.length then ys[j-k]? else a[j]?
 |[],a,k,j,_=>by simp only[fj,qZ];rw[qW oA]|y::ys,a,k,j,h=>by
  simp at h;simp only[fj];rw[qfs ys (a.set k y) (k+1) j (by rw[List.length_set];omega)]
  simp only[qL];by_cases h1:k+1<=j/\j<k+1+ys.length
  ·rw[qX h1,qX,show j-k=(j-(k+1))+1 by omega];simp
  ·rw[qW h1];by_cases h2:j=k
   ·subst h2;rw[qX];simp[show j<a.length by omega]
   ·rw[qW oA,List.getElem?_set_ne oA]
def zem{τ:Ty}{y:τ.den}{ys:List AV}{off:Nat}:∀{l:List τ.den}{i:Nat}{x:τ.den},l[i]? = some x->off+ys.length<=τ.sz->τ.enc y=fj (τ.enc x) off ys->(l.set i y).flatMap τ.enc=fj (l.flatMap τ.enc) (i*τ.sz+off) ys
 |[],_,_,h,_,_=>by simp at h|z::l,0,x,h,ho,he=>by
  simp at h;subst h;simp;rw[zel _ _ _ _ (by rw[τ.enc_length];exact ho),he]
 |z::l,i+1,x,h,ho,he=>by
  simp at h;simp;rw[show(i+1)*τ.sz+off=(τ.enc z).length+(i*τ.sz+off) by rw[τ.enc_length,Nat.succ_mul];omega,q1z,zem h ho he]
def q2l{b:Bool}{hp:List (Nat×ag)}:∀{xs ys:List AV}{ps:List Prop},bt b hp xs ys=some ps->aq ps->∀(j:Nat)(x y:AV),xs[j]? = some x->ys[j]? = some y->∃qs,vw b hp x y=some qs/\aq qs
 |x::xs,y::ys,ps,h,hp,j,u,v,hu,hv=>by
  simp[bt]at h;split at h
  ·rename_i p1 h1;split at h
   ·rename_i p2 h2;have:=qJ h;subst this
    cases j with|zero=>simp at hu hv;subst hu hv;exact⟨p1,h1,(dp.1 hp).1⟩|succ j=>exact q2l h2 (dp.1 hp).2 j u v (by simpa using hu) (by simpa using hv)
   ·cases h
  ·cases h
 |[],[],_,_,_,j,_,_,hu,_=>by simp at hu|[],_::_,_,h,_,_,_,_,_,_=>by simp[bt]at h|_::_,[],_,h,_,_,_,_,_,_=>by simp[bt]at h
def zfr{b:Bool}{hp:List (Nat×ag)}:∀{xs ys:List AV}{ps:List Prop},bt b hp xs ys=some ps->(∀(j:Nat)(x y:AV),xs[j]? = some x->ys[j]? = some y->∃qs,vw b hp x y=some qs/\aq qs)->aq ps
 |x::xs,y::ys,ps,h,hq=>by
  simp[bt]at h;split at h
  ·rename_i p1 h1;split at h
   ·rename_i p2 h2;have:=qJ h;subst this;obtain⟨q1,e1,a1⟩:=hq 0 x y rfl rfl;rw[h1]at e1;have:=qJ e1;subst this;exact dp.2 ⟨a1,zfr h2 fun j u v hu hv=>hq (j+1) u v (by simpa using hu) (by simpa using hv)⟩
   ·cases h
  ·cases h
 |[],[],_,h,_=>by simp[bt,qI]at h;subst h;trivial|[],_::_,_,h,_=>by simp[bt]at h|_::_,[],_,h,_=>by simp[bt]at h
def qjz:∀{τ:Ty}{d:τ.den},∀x∈τ.enc d,wq x=true
 |.int _,_,x,h=>by simp[Ty.enc,List.mem_singleton]at h;subst h;rfl|.byte,_,x,h=>by simp[Ty.enc,List.mem_singleton]at h;subst h;rfl|.bool,_,x,h=>by simp[Ty.enc,List.mem_singleton]at h;subst h;rfl|.str,_,x,h=>by simp[Ty.enc,List.mem_singleton]at h;subst h;rfl|.unit,_,x,h=>by simp[Ty.enc]at h|.prod a b,d,x,h=>by
  rcases List.mem_append.1 h with h|h
  ·exact qjz x h
  ·exact qjz x h
 |.list _,_,x,h=>by simp[Ty.enc,List.mem_singleton]at h;subst h;rfl|.tree a,d,x,h=>by
  rcases List.mem_append.1 h with h|h
  ·exact qjz x h
  ·simp at h;subst h;rfl
def zu4{x y:AV}(hx:wq x=true)(hy:wq y=true){qs:List Prop}(h:vw false [] x y=some qs)(hq:aq qs):y=x:=by
 cases x<;>first|cases hx|skip
 all_goals (cases y<;>first|cases hy|skip)
 all_goals (have:=qJ h;subst this;exact hq.1)
def zdg{ρ:Nat->Option Nat}:∀{xs:List AV}{j:Nat},(AV.rens ρ xs)[j]? = (xs[j]?).map (AV.ren ρ)|[],j=>by simp[AV.rens]|x::xs,0=>by simp[AV.rens]|x::xs,j+1=>by simp[AV.rens,List.getElem?_cons_succ];exact zdg
def zt1{τ:Ty}{l:List τ.den}{i off:Nat}{x y:τ.den}{c:List AV}{ps:List Prop}(ho:off+c.length<=τ.sz)(hx:l[i]? = some x)(hd:τ.dec (fj (τ.enc x) off c)=some (y,[]))
  (hv:bt false [] c (((τ.enc y).drop off).take c.length)=some ps) :
  aq (ps++[i*τ.sz+off+c.length<=l.length*τ.sz,(l.set i y).flatMap τ.enc=fj (l.flatMap τ.enc) (i*τ.sz+off) (((τ.enc y).drop off).take c.length),(l.set i y).length=l.length,AV.rens (fun _=>none) c=c]):=by
 obtain⟨ab,e1,hr,qs,hq1,hq2⟩:=wj hd;simp at e1;subst e1;have hle:off+c.length<=(τ.enc x).length:=by rw[τ.enc_length];exact ho
 have ac:(((τ.enc y).drop off).take c.length).length=c.length:=by simp[τ.enc_length];omega
 have hseg:∀(j:Nat)(z u:AV),c[j]? = some z->(((τ.enc y).drop off).take c.length)[j]? = some u->∃qs,vw false [] z u=some qs/\aq qs:=fun j z u h1 h2=>by
  have hj:j<c.length:=(List.getElem?_eq_some_iff.1 h1).1;refine q2l hq1 hq2 (off+j) z u ?_ ?_
  ·rw[qfs _ _ _ _ hle,qX,Nat.add_sub_cancel_left];exact h1
  ·rw[List.getElem?_take,qX hj,List.getElem?_drop]at h2;exact h2
 have he:τ.enc y=fj (τ.enc x) off (((τ.enc y).drop off).take c.length):=by
  apply List.ext_getElem?;intro j;rw[qfs _ _ _ _ (by rw[ac];exact hle),ac]
  by_cases hj:off<=j/\j<off+c.length
  ·rw[qX hj,List.getElem?_take,qX,List.getElem?_drop,show off+(j-off)=j by omega]
  ·rw[qW hj]
   cases hz:(τ.enc x)[j]? with
   |none=>
    have:=List.getElem?_eq_none_iff.1 hz;rw[τ.enc_length]at this;exact List.getElem?_eq_none_iff.2 (by rw[τ.enc_length];exact this)
   |some z=>
    have hjl:j<τ.sz:=by have:=(List.getElem?_eq_some_iff.1 hz).1;rwa [τ.enc_length]at this
    have hu:∃u,(τ.enc y)[j]? = some u:=⟨_,List.getElem?_eq_getElem (by rw[τ.enc_length];exact hjl)⟩
    obtain⟨u,hu⟩:=hu;obtain⟨q,q1,q2⟩:=q2l hq1 hq2 j z u (by rw[qfs _ _ _ _ hle,qW hj];exact hz) hu
    rw[hu,zu4 (qjz z (List.mem_of_getElem? hz)) (qjz u (List.mem_of_getElem? hu)) q1 q2]
 refine dp.2 ⟨zfr hv hseg,?_,zem hx (by rw[ac];exact ho) he,oC,?_,trivial⟩
 ·have hi:i<l.length:=(List.getElem?_eq_some_iff.1 hx).1;have:(i+1)*τ.sz<=l.length*τ.sz:=Nat.mul_le_mul_right _ hi;rw[Nat.succ_mul]at this;omega
 ·apply List.ext_getElem?;intro j;have h:=congrArg (fun l=>l[off+j]?) (hr (fun _=>none))
  simp[zdg]at h ⊢;by_cases hj:j<c.length
  ·rw[qfs _ _ _ _ hle,qX,Nat.add_sub_cancel_left]at h;exact h
  ·rw[List.getElem?_eq_none_iff.2 oA];rfl
def zkc{P:Program}{tb:Tb}{s:St}{o:Oper}{q:Rq}{d:D}{ps:List Prop}{s':St}(hT:∀e∈tb.ents,e.Sound P)(h:qn P tb s o.op=some q)(ho:q.Out d)(ha:ql P s d o=some (ps,s')):aq ps:=by
 obtain⟨dst,op,ty,pos,after,guard⟩:=o;simp only at h;have cnd:∀{b:Bool}{x:St}{ps:List Prop}{s':St},(bif b then some (([]:List Prop),x) else none)=some (ps,s')->aq ps:=fun{b} _ _ _ e=>by
  cases b
  ·cases e
  ·simp at e;obtain⟨rfl,_⟩:=e;trivial
 unfold ql at ha;split at ha
 ·rename_i t x y e;simp only at e;subst e;split at ha
  ·split at ha
   ·exact cnd ha
   ·cases ha
  ·rename_i k sz i off v n e1 e2 e3 _;split at ha
   ·rename_i τ0 l0 E0 ys τ l E e4;simp[qn,e1,e2,zet,e4]at h;cases hbb:Nat.ble (off+v.cells.length) τ0.sz<;>rw[hbb]at h<;>simp at h
    subst h;obtain⟨x0,hx0,hd⟩:=ho;simp[Sp.Out]at hd;split at hd
    ·rename_i y0 hdec;simp at hd;obtain⟨rfl,rfl,hl,rfl⟩:=hd;have hl:=eq_of_heq hl;subst hl;cases hb:Nat.beq v.cells.length n&&AV.ones v.cells&&Nat.beq sz τ.sz&&Nat.beq τ.sz τ.sz&&Nat.beq E E<;>rw[hb]at ha<;>simp only[qT,qF,reduceCtorEq]at ha
     simp only[qA]at hb;obtain⟨⟨⟨⟨b1,_⟩,b3⟩,_⟩,_⟩:=hb;have b1:=qN b1;have b3:=qN b3;subst b1 b3;split at ha
     ·rename_i ps1 hvs;simp only[qI,qP]at ha;obtain⟨rfl,_⟩:=ha;exact zt1 (Nat.le_of_ble_eq_true hbb) hx0 hdec hvs
     ·cases ha
    ·cases hd
   ·cases ha
  ·cases ha
 ·rename_i args ats e;simp only at e;subst e;split at ha
  ·rename_i x y t t2 tt e1 e2 _;split at ha
   ·rename_i k v e3 e4;split at ha
    ·rename_i τ0 l0 E0 e5;split at ha
     ·rename_i ps1 τ l E e6;simp[qn,e1,e2,e3,e4]at h;cases hb:bh (s.nx+32*tt) s.hp&&Nat.beq τ.sz τ0.sz&&Nat.beq E E0&&Nat.blt tt s.n<;>rw[hb]at ha<;>simp at ha
      obtain⟨rfl,_⟩:=ha;exact zkb e5 h ho e6
     ·cases ha
    ·cases ha
   ·cases ha
  ·cases ha
 ·rename_i g args ats e;simp only at e;subst e;split at ha
  ·rename_i f fst cap ys names xs hp r hp' t e1 e2 e3;simp[qn,e1,e2]at h;split at h
   ·rename_i q' hq;have h:=qJ h;subst h;obtain⟨e,he,hc⟩:=yw hq;obtain⟨b1,ys1,r1,hp1,ps2,k1,_⟩:=q8k (hT e he) hc ho;cases k1
   ·obtain⟨e,he,hc⟩:=yw h;unfold qjs at hc;cases hk:ua f e.key<;>rw[hk]at hc<;>simp at hc
    obtain⟨N,x,x',y,k1,k2,k3,k4,k5,k6⟩:=qkr hc ho;simp at k2;obtain⟨rfl,rfl,rfl,rfl,rfl⟩:=k2;have hs:=hT e he x x' y k1;rw[qz1 hk]at hs;exact zby ha hs (by rw[qS fst ys cap];exact k5) k6
  ·rename_i m ys names xs hp r hp' t e1 e2 e3;simp[qn,e1,e2]at h;obtain⟨e,he,hc⟩:=yw h;unfold zh6 at hc;split at hc
   ·rename_i m' hm';obtain⟨N,x,x',y,k1,k2,k3,k4,k5,k6⟩:=qkr hc ho;simp at k2;obtain⟨rfl,rfl,rfl,rfl,rfl⟩:=k2;have hs:=hT e he x x' y k1;rw[hm']at hs;have hr:au names m=some m':=w6 k3 (k4 _ _ (by simp[bf]))
    simp[hr]at ha;exact zby ha hs k5 k6
   ·cases hc
  ·cases ha
 ·cases ha
def q7v{P:Program}{tb:Tb}{s:St}{o:Oper}{q:Rq}{d:D}{ps:List Prop}{s':St}(hT:∀e∈tb.ents,e.Sound P)(h:wa P tb s o.op=some q)(ho:q.Out d)(ha:qk P s d o=some (ps,s')):aq ps:=by
 unfold wa at h;unfold qk at ha;cases hv:wu P o.op<;>rw[hv]at h<;>simp at h
 ·split at ha
  ·rename_i ps' v new e;unfold fb at e;rw[zax hv]at e;split at ha
   ·simp at ha;obtain⟨rfl,_⟩:=ha;exact q7s hT hv h ho e
   ·cases ha
  ·exact zkc hT h ho ha
 ·split at ha
  ·rename_i ps' v new e;unfold fb at e;split at e
   ·rename_i ps1 v1 e1;simp at e;obtain⟨rfl,rfl,rfl⟩:=e;split at ha
    ·simp at ha;obtain⟨rfl,_⟩:=ha;exact q7t h ho e1
    ·cases ha
   ·rw[zaw hv]at e;cases e
  ·rw[zox hv]at ha;cases ha
def q7u{P:Program}{tb:Tb}{s:St}{o:Oper}{q:Rq}{d:D}{ps:List Prop}{v:AV}{new:List (Nat×ag)}(hT:∀e∈tb.ents,e.Sound P)(h:wa P tb s o.op=some q)(ho:q.Out d)(ha:fb P s d o=some (ps,v,new)):aq ps:=by
 unfold wa at h;unfold fb at ha;cases hv:wu P o.op<;>rw[hv]at h<;>simp at h
 ·rw[zax hv]at ha;exact q7s hT hv h ho ha
 ·split at ha
  ·rename_i ps1 v1 e1;simp at ha;obtain⟨rfl,rfl,rfl⟩:=ha;exact q7t h ho e1
  ·rw[zaw hv]at ha;cases ha
def q12(P:Program)(tb:Tb)(s:St)(o:Oper):Option (Bool×St):=
 bif tb.sub then
  match o.op with
  |.slice t x lo hi mx=>match s.ev x,o.dst,mx with
   |some (.own k),some tt,none=>match ae s.hp k,P.underlying t with
    |some (.row τ l E),some (.slice E')=>match er P E' with
     |some sz'=>bif Nat.beq τ.sz sz'&&Nat.blt tt s.n&&bh (s.nx+32*tt) s.hp then
       (match jg s lo,jg s hi with
       |some (some a),some none=>some (decide (0<=a/\a.toNat<l.length),{ s with fr:=(tt,.osl k τ.sz a.toNat)::s.fr })|some none,some (some b)=>some (decide (0<=b/\b<=l.length),{ s with fr:=(tt,.own (s.nx+32*tt))::s.fr,hp:=(s.nx+32*tt,.row τ (l.take b.toNat) E)::(k,.dead)::s.hp })| _,_=>none)
      else none
     |none=>none
    |_,_=>none
   |_,_,_=>none
  |.call { callee := .builtin .clear,args,argTypes }=>match args.toList,argTypes.toList,o.dst with
   |[x],[t],none=>match s.ev x with
    |some (.osl k sz lo)=>match ae s.hp k,P.underlying t with
     |some (.row τ l E),some (.slice E')=>match zq P E' with
      |some zs=>match τ.dec zs with|some (z,[])=>bif Nat.beq sz τ.sz&&Nat.blt 0 τ.sz&&AV.ones zs then some (true,{ s with hp:=(k,.row τ (l.take lo++List.replicate (l.length-lo) z) E)::s.hp }) else none|_=>none
      |none=>none
     |_,_=>none
    |_=>none
   |_,_,_=>none
  |_=>none
 else none
section
variable{P:Program}{z5m:World}{z5g:Gh}{z5j:List (Nat×ag)}{G:Gh}{s:St}{a:Act}{w:World}{tb:Tb}
def ztn:∀(ys b:List AV),ys.length=b.length->fj b 0 ys=ys:=fun ys b h=>by
 apply List.ext_getElem?;intro j;rw[qfs _ _ _ _ oA]
 by_cases hj:0<=j/\j<0+ys.length
 ·rw[qX hj];rfl
 ·rw[qW hj,List.getElem?_eq_none_iff.2 oA,List.getElem?_eq_none_iff.2 oA]
def q91{τ:Ty}{z:τ.den}:∀(n:Nat),(List.replicate n z).flatMap τ.enc=(List.replicate n (τ.enc z)).flatten|0=>rfl|n+1=>by simp[List.replicate_succ,q91 n]
def zdp{xs:List AV}{vs:List Value}(h:am xs G vs):∀(n:Nat),am (List.replicate n xs).flatten G (List.replicate n vs).flatten|0=>trivial|n+1=>by simp[List.replicate_succ,List.flatten_cons];exact rn h (zdp h n)
def qpy{β:Type}(l:List β):∀(n:Nat),(List.replicate n l).flatten.length=n*l.length|0=>by simp|n+1=>by rw[List.replicate_succ,List.flatten_cons,qM,qpy l n,Nat.succ_mul,Nat.add_comm]
def q90{β:Type}(l:List β):∀(n i:Nat),i<n*l.length->(List.replicate n l).flatten[i]? = l[i%l.length]?
 |0,i,h=>by simp at h|n+1,i,h=>by
  rw[List.replicate_succ,List.flatten_cons];by_cases hi:i<l.length
  ·rw[List.getElem?_append_left hi,Nat.mod_eq_of_lt hi]
  ·have hh:i<n*l.length+l.length:=by rw[← Nat.succ_mul];exact h
   rw[List.getElem?_append_right oA,q90 l n (i-l.length) oA,← Nat.mod_eq_sub_mod oA]
def z43(cs:Array Value)(n:Nat):(Builtin.zeroCells cs n).toList=(List.replicate n cs.toList).flatten:=by
 apply List.ext_getElem?;intro i;by_cases hi:i<n*cs.size
 ·rw[q90 _ n i (by simpa using hi)]
  have h0:0<cs.size:=by
   rcases Nat.eq_zero_or_pos cs.size with h|h;· rw[h]at hi;simp at hi
   ·exact h
  simp[Builtin.zeroCells,hi,Nat.mod_lt _ h0]
 ·rw[List.getElem?_eq_none_iff.2 (by simp[Builtin.zeroCells];omega),List.getElem?_eq_none_iff.2 (by rw[qpy];simp;omega)]
def zt8(hr:ai z5m z5g z5j G s a w){o:Oper}{s':St}(h:q12 P tb s o=some (true,s')){N:Act->World->Prop}(hN:∀G' a' w',ai z5m z5g z5j G' s' a' w'->N a' w'):fe P o a w N:=by
 obtain⟨dst,op,ty,pos,after,guard⟩:=o;unfold q12 at h;cases hsub:tb.sub<;>rw[hsub]at h<;>simp only[qT,qF,reduceCtorEq]at h
 split at h
 ·rename_i t x lo hi mx;split at h
  ·rename_i k tt hx;split at h
   ·rename_i τ l E E' hl hu;split at h
    ·rename_i sz' hsz;cases hb:Nat.beq τ.sz sz'&&Nat.blt tt s.n&&bh (s.nx+32*tt) s.hp<;>rw[hb]at h<;>simp only[qT,qF,reduceCtorEq]at h
     simp only[qA,Nat.blt_eq]at hb;obtain⟨⟨b1,b2⟩,b3⟩:=hb;have b1:=qN b1;subst b1;obtain⟨ad,c,us,h1,h3,h4,h5⟩:=(hr.fin.mem.holds _ _ hl).rowAt;obtain⟨ad0,n0,c0,ho0,hxe⟩:=bn hr hx;rw[h1]at ho0;simp only[qI,qP]at ho0;obtain⟨rfl,rfl,rfl⟩:=ho0;have hc:l.length<=c:=by
      rcases h3.2 with⟨_,q,_⟩|⟨_,_,_,_,_,_,q,_⟩<;>omega
     split at h
     ·rename_i i0 hlo hhi;simp only[qI,qP,decide_eq_true_eq]at h;obtain⟨⟨g0,g1⟩,rfl⟩:=h;rcases qt hr hlo with⟨_,e⟩|⟨xo,kx,mm,rfl,e,hxv⟩
      ·cases e
      injection e with e;subst e
      rcases qt hr hhi with⟨rfl,_⟩|⟨_,_,_,_,e,_⟩
      rotate_left
      ·cases e
      have r1:(Instr.sliceBounds true l.length c ((some xo).map a.eval) (Option.map a.eval none) none).run P w = .ok (i0.toNat,l.length,c) w:=by
       simp[Instr.sliceBounds,hxv,rq (P:=P) (w:=w) g0 (show i0<=(l.length:Int) by omega)]
      have hne:l≠[]:=fun e=>by subst e;simp at g1
      rcases h3.2 with⟨_,q,_⟩|⟨g,vs,fz,rfl,k2,k3,k4,k5,k6,k7,k8⟩
      ·exact absurd (List.eq_nil_of_length_eq_zero q) hne
      ·have hrun:(execOp a.eval ⟨some tt,.slice t x (some xo) none none,ty,pos,after,guard⟩).run P w = .ok (.value (.slice (some ⟨g,i0.toNat*τ.sz,none⟩) (l.length-i0.toNat) (c-i0.toNat))) w:=by
        simp only[wQ,Option.map_none]at r1;simp[execOp,Instr.sliceAt,Instr.slice,bm hu,hxe,r1,gv hsz,show c≠i0.toNat by omega,mr]
       refine eq oC ?_
       unfold Oper.wp;rw[hrun];exact hN _ _ _ (gn (v := .osl k τ.sz i0.toNat) hr (by have hb2:Nat.blt tt s.n=true:=(by simpa using b2);simp[St.add,hb2,qT,List.nil_append]) ⟨g,l.length,c,h1,g1,rfl⟩)
     ·rename_i i0 hlo hhi;simp at h;obtain⟨⟨g0,g1⟩,rfl⟩:=h;rcases qt hr hhi with⟨_,e⟩|⟨xo,kx,mm,rfl,e,hxv⟩
      ·cases e
      injection e with e;subst e
      rcases qt hr hlo with⟨rfl,_⟩|⟨_,_,_,_,e,_⟩
      rotate_left
      ·cases e
      have r1:(Instr.sliceBounds true l.length c (Option.map a.eval none) ((some xo).map a.eval) none).run P w = .ok (0,i0.toNat,c) w:=by
       simp[Instr.sliceBounds,hxv,rq (P:=P) (w:=w) g0 (show i0<=(c:Int) by omega)]
      have hlt:(l.take i0.toNat).length=i0.toNat:=by simp;omega
      have hrun:(execOp a.eval ⟨some tt,.slice t x none (some xo) none,ty,pos,after,guard⟩).run P w = .ok (.value (.slice ad i0.toNat c)) w:=by
       simp at r1
       have had:(if c=0 then ad else ad.map (·.add (0*τ.sz)))=ad:=by
        split
        ·rfl
        ·rcases h3.2 with⟨rfl,_,_⟩|⟨g,vs,fz,rfl,_⟩
         ·rfl
         ·simp[mr]
       simp[execOp,Instr.sliceAt,wQ,Option.map_none];simp[Instr.slice,bm hu,hxe,r1,gv hsz];simpa using had
      refine eq oC ?_
      unfold Oper.wp;rw[hrun];have hk':=ng b3 (s.nx+32*tt) (wF _) oA
      obtain⟨f1,f2⟩:=hr.fresh _ oA hk'
      have hrow:iq w E τ.sz ad (l.take i0.toNat).length c (us.take (i0.toNat*τ.sz)):=by
       rw[hlt];have hm:i0.toNat*τ.sz<=l.length*τ.sz:=Nat.mul_le_mul_right _ oA
       refine⟨by rw[List.length_take,h3.1];omega,?_⟩
       rcases h3.2 with⟨q1,q2,q3⟩|⟨g,vs,fz,q1,q2,q3,q4,q5,q6,q7,q8⟩
       ·exact .inl ⟨q1,oA,q3⟩
       ·exact .inr ⟨g,vs,fz,q1,q2,q3,oA,q5,q6,by rw[← q7,List.take_take,Nat.min_eq_left hm],q8⟩
      have hreps:am ((l.take i0.toNat).flatMap τ.enc) G.data (us.take (i0.toNat*τ.sz)):=by
       have:=qfq (i0.toNat*τ.sz) h4;have e:(l.flatMap τ.enc).take (i0.toNat*τ.sz)=(l.take i0.toNat).flatMap τ.enc:=by
        have e1:l.flatMap τ.enc=(l.take i0.toNat).flatMap τ.enc++(l.drop i0.toNat).flatMap τ.enc:=by rw[← List.flatMap_append,List.take_append_drop]
        rw[e1,List.take_append_of_le_length (by rw[t6,hlt];exact wF _),List.take_of_length_le (by rw[t6,hlt];exact wF _)]
       rwa [e]at this
      have hfin:=hr.fin.take hl h1 hk' f2 h5 (w':=w) ⟨rfl,rfl,rfl,wF _,fun _ _ _=>rfl⟩ (.inl rfl) hrow hreps
      have hle:G.le (G.addOwn (s.nx+32*tt) (ad,(l.take i0.toNat).length,c)):=Gh.addOwn_le f2;refine hN _ _ _ ⟨by obtain⟨bs,q1,q2⟩:=hr.defers;exact⟨bs,q1,tp hle.box q2⟩,by simp[Act.put,hr.size],fun i z hz => ?_,fun m hm hlm => ?_,hfin⟩
      ·simp[ae]at hz;cases hbq:Nat.beq tt i
       ·rw[hbq]at hz;simp at hz;have hne:tt≠i:=fun e=>by subst e;simp at hbq
        obtain⟨u,u1,u2⟩:=hr.frame i z hz;exact⟨u,by simp[Act.put,hne,u1],u2.le hle⟩
       ·rw[hbq]at hz;simp at hz;subst hz;have:=qN hbq;subst this;exact⟨_,by simp[Act.put,hr.size,b2],ad,i0.toNat,c,by rw[Gh.addOwn_self,hlt],rfl⟩
      ·simp[ae]at hlm;cases hbq:Nat.beq (s.nx+32*tt) m
       ·rw[hbq]at hlm;simp at hlm;cases hbk:Nat.beq k m
        ·rw[hbk]at hlm;obtain⟨g1,g2⟩:=hr.fresh m hm hlm;refine⟨g1,?_⟩;show(bif Nat.beq m (s.nx+32*tt) then some _ else G.own m)=none
         cases hbm:Nat.beq m (s.nx+32*tt)
         ·exact g2
         ·have:=qN hbm;subst this;simp at hbq
        ·rw[hbk]at hlm;cases hlm
       ·rw[hbq]at hlm;cases hlm
     ·cases h
    ·cases h
   ·cases h
  ·cases h
 ·rename_i args ats;split at h
  ·rename_i x t ha hty;split at h
   ·rename_i k sz lo hx;split at h
    ·rename_i τ l E E' hl hu;split at h
     ·rename_i zs hzs;split at h
      ·rename_i z hdec;cases hb:Nat.beq sz τ.sz&&Nat.blt 0 τ.sz&&AV.ones zs<;>rw[hb]at h<;>simp at h
       subst h;simp only[qA]at hb;obtain⟨⟨b1,b2⟩,b3⟩:=hb;have b1:=qN b1;have b2:0<τ.sz:=by simpa using b2
       subst b1;have e1:args=#[x]:=by rw[← Array.toArray_toList (xs:=args),ha]
       have e2:ats=#[t]:=by rw[← Array.toArray_toList (xs:=ats),hty]
       subst e1 e2;obtain⟨g,n,c,o1,o2,hxe⟩:=bn hr hx;obtain⟨ad,c',q1,q2⟩:=hr.fin.mem.holds _ _ hl;rw[o1]at q1;simp at q1;obtain⟨rfl,rfl,rfl⟩:=q1;rcases q2 with⟨q,_⟩|⟨g',vs,fz,q,k2,k3,k4,k5,k6,k7,k8,k9⟩
       ·cases q
       ·simp at q;subst q;obtain⟨ab,e,hsd⟩:=wj hdec;simp at e;subst e;obtain⟨zv,hz1,hz2⟩:=qq7 (P:=P) hzs w G.data;obtain⟨ps,hv1,hv2⟩:=hsd.2;have hz3:am (τ.enc z) G.data zv.cells.toList:=ko (Gh.le.refl _) (fun e=>by cases e) hv1 hv2 hz2
        have hone:∀v∈zv.cells.toList,v.oneCell'=true:=pw hz2 b3;have hzl:zv.cells.toList.length=τ.sz:=by rw[← hz3.length,τ.enc_length]
        have hzc:=z43 zv.cells (l.length-lo);have hones:∀v∈(List.replicate (l.length-lo) zv.cells.toList).flatten,v.oneCell'=true:=fun v hv=>by
         obtain⟨ys,h1,h2⟩:=List.mem_flatten.1 hv;rw[List.eq_of_mem_replicate h1]at h2;exact hone v h2
        have hfrl:(List.replicate (l.length-lo) zv.cells.toList).flatten.length=(l.length-lo)*τ.sz:=by rw[qpy,hzl]
        have hmul:lo*τ.sz+(l.length-lo)*τ.sz=l.length*τ.sz:=by rw[← Nat.add_mul];congr 1;omega
        have hcl:l.length*τ.sz<=c*τ.sz:=Nat.mul_le_mul_right _ k4;obtain⟨w',cur',s1,s2,s3,s4⟩:=qfr (P:=P) g (lo*τ.sz) E fz (List.replicate (l.length-lo) zv.cells.toList).flatten 0 vs w k2 (by rw[hfrl];omega) k3 hones
        have hrun:(execOp a.eval ⟨none,.call { callee := .builtin .clear,args:=#[x],argTypes:=#[t] },ty,pos,after,guard⟩).run P w = .ok (.value (.tuple #[])) w':=by
         obtain⟨m,hm⟩:∃m,l.length-lo=m+1:=⟨l.length-lo-1,oA⟩
         rw[hm]at s1 hzc;simp[execOp,resolve,invoke,builtin,hxe,hm,Builtin.clear_,bm hu,hz1,hzc,s1]
        refine eq oC ?_
        unfold Oper.wp;rw[hrun];have hat:G.at k (.row τ l E)=some g:=by simp[Gh.at,o1]
        have hl':(l.take lo++List.replicate (l.length-lo) z).length=l.length:=by simp;omega
        have hfl:(l.take lo++List.replicate (l.length-lo) z).flatMap τ.enc=fj (l.flatMap τ.enc) (lo*τ.sz) (List.replicate (l.length-lo) (τ.enc z)).flatten:=by
         have e1:l.flatMap τ.enc=(l.take lo).flatMap τ.enc++(l.drop lo).flatMap τ.enc:=by rw[← List.flatMap_append,List.take_append_drop]
         have e2:((l.take lo).flatMap τ.enc).length=lo*τ.sz:=by rw[t6,List.length_take,Nat.min_eq_left oA]
         have e3:((l.drop lo).flatMap τ.enc).length=(l.length-lo)*τ.sz:=by rw[t6,List.length_drop]
         rw[List.flatMap_append,q91,e1];have:=q1z (List.replicate (l.length-lo) (τ.enc z)).flatten ((l.take lo).flatMap τ.enc) ((l.drop lo).flatMap τ.enc) 0;rw[e2,Nat.add_zero]at this;rw[this,ztn _ _ (by rw[e3,qpy,τ.enc_length])]
        refine hN G _ _ ⟨hr.defers,hr.size,hr.frame,fun m hm hlm=>hr.fresh m hm ?_,hr.fin.update (bx' := .row τ (l.take lo++List.replicate (l.length-lo) z) E) hl hat (by simp[Gh.at,o1]) s4 ?_ k9⟩
        ·simp[ae]at hlm;cases hbq:Nat.beq k m
         ·rw[hbq]at hlm;exact hlm
         ·rw[hbq]at hlm;cases hlm
        ·have hsz:cur'.size=vs.size:=by
          have:=congrArg List.length s3;rw[qfz]at this;simpa using this
         refine⟨some ⟨g,0,none⟩,c,by rw[hl'];exact o1,.inr ⟨g,cur',fz,rfl,s2,by rw[hsz];exact k3,by rw[hl'];exact k4,k5,by rw[hsz];exact k6,?_,?_,k9⟩⟩
         ·rw[hl',hfl,s3,Nat.add_zero,q2k _ _ _ _ (by have:vs.toList.length=vs.size:=Array.length_toList;omega)]
          exact qqw _ k7 (zdp hz3 _)
         ·intro u hu';rw[s3]at hu';rcases qf0 _ _ _ _ hu' with hu'|hu'
          ·exact k8 u hu'
          ·exact hones u hu'
      ·cases h
     ·cases h
    ·cases h
   ·cases h
  ·cases h
 ·cases h
end
def qzd(P:Program)(s:St)(o:Oper):Option (Bool×St):=
 match o.op,o.dst with
 |.convert src dst x,some tt=>match s.ev x with
  |some (.own k)=>match ae s.hp k,P.underlying src,P.underlying dst with
   |some (.row τ l E),some (.slice _),some (.slice e)=>match P.underlying e with|some (.int .u8)=>bif Nat.beq src dst&&Nat.blt tt s.n then some (decide (0<l.length),{ s with fr:=(tt,.own k)::s.fr,hp:=(k,.row τ l E)::s.hp }) else none|_=>none
   |_,_,_=>none
  |_=>none
 |_,_=>none
section
variable{P:Program}{z5m:World}{z5g:Gh}{z5j:List (Nat×ag)}{G:Gh}{s:St}{a:Act}{w:World}
def znw(hr:ai z5m z5g z5j G s a w){o:Oper}{s':St}(h:qzd P s o=some (true,s')){N:Act->World->Prop}(hN:∀G' a' w',ai z5m z5g z5j G' s' a' w'->N a' w'):fe P o a w N:=by
 obtain⟨dst,op,ty,pos,after,guard⟩:=o;unfold qzd at h;split at h
 ·rename_i src dst x tt e1 e2;simp only at e1 e2;subst e1 e2;split at h
  ·rename_i k hx;split at h
   ·rename_i τ l E E1 E2 hl hus hud;split at h
    ·rename_i hue;cases hb:Nat.beq src dst&&Nat.blt tt s.n<;>rw[hb]at h<;>simp only[qT,qF,reduceCtorEq,qI,qP,decide_eq_true_eq]at h
     obtain⟨hpos,rfl⟩:=h;simp only[qA]at hb;have hsd:=qN hb.1;subst hsd;rw[hus]at hud;cases hud;obtain⟨ad0,n0,c0,o1,hxe⟩:=bn hr hx;obtain⟨ad,c',q1,q2⟩:=hr.fin.mem.holds _ _ hl;rw[o1]at q1;simp only[qI,qP]at q1;obtain⟨rfl,rfl,rfl⟩:=q1;rcases q2 with⟨_,q,_⟩|⟨g,vs,fz,rfl,k2,k3,k4,k5,k6,k7,k8,k9⟩
     ·subst q;simp at hpos
     ·have hw:(w.freeze ⟨g,vs.size,none⟩ 1).heap[g]? = some (.cells vs E (if fz.1==fz.2 then(vs.size,vs.size+1) else(min fz.1 vs.size,max fz.2 (vs.size+1)))):=by
       simp only[World.freeze,Nat.one_ne_zero,if_false,Array.getElem?_modify,k2];simp
      have hshape:w.shape? g=some (E,vs.size):=by simp only[World.shape?,k2]
      have hrun:(execOp a.eval ⟨some tt,.convert src src x,ty,pos,after,guard⟩).run P w = .ok (.value (.slice (some ⟨g,0,none⟩) l.length c0)) (w.freeze ⟨g,vs.size,none⟩ 1):=by
       simp[execOp,hxe,convert,bm hus,bm hue,markStringish,hshape]
      refine eq oC ?_
      unfold Oper.wp;rw[hrun];have hat:G.at k (.row τ l E)=some g:=by simp[Gh.at,o1]
      have hbel:bw (fun b=>b=g) w (w.freeze ⟨g,vs.size,none⟩ 1):=by
       refine⟨rfl,rfl,rfl,?_,fun j hj hne => ?_⟩
       ·simp[World.freeze]
       ·simp only[World.freeze,Nat.one_ne_zero,if_false,Array.getElem?_modify];rw[qW (fun q=>hne q.symm)]
      have hok:cm G (w.freeze ⟨g,vs.size,none⟩ 1) k (.row τ l E):=by
       refine⟨some ⟨g,0,none⟩,c0,o1,.inr ⟨g,vs,_,rfl,hw,?_,k4,k5,k6,k7,k8,k9⟩⟩;refine .inr ?_;split
       ·exact wF _
       ·rename_i hne;rcases k3 with rfl|k3
        ·simp at hne
        ·simp only;omega
      have hfin:=hr.fin.update (bx' := .row τ l E) hl hat hat hbel hok k9;have hb2:Nat.blt tt s.n=true:=hb.2;refine hN G _ _ ?_;have hr2:ai z5m z5g z5j G { s with hp:=(k,.row τ l E)::s.hp } a (w.freeze ⟨g,vs.size,none⟩ 1):=⟨hr.defers,hr.size,hr.frame,fun m hm hlm=>hr.fresh m hm (by
       simp only[ae]at hlm;cases hbq:Nat.beq k m
       ·rw[hbq]at hlm;exact hlm
       ·rw[hbq]at hlm;cases hlm),hfin⟩
      exact gn (v := .own k) hr2 (by simp[St.add,hb2,qT,List.nil_append]) ⟨_,_,_,o1,rfl⟩
    ·cases h
   ·cases h
  ·cases h
 ·cases h
end
def qz0(f:FuncId):qh->Bool|.ext f'=>Nat.beq f' f|_=>false
def qpn(f:FuncId):List cf->Option cf|[]=>none|e::es=>bif qz0 f e.key then some e else qpn f es
def qy8{R:Type}(tb:Tb)(s:St)(o:Oper)(K:St->Option R):Option (Option R):=
 match o.op,o.dst with
 |.call { callee := .value g,args,argTypes:=_ },some tt=>match s.ev g,s.evs args.toList with
  |some (.fn (.func f) [] []),some xs=>match qpn f tb.ents with
   |some e=>match Pts.get e.args (qz s.hp xs) [] with
    |some (d,nm)=>match th s.hp e.hp nm with
     |some (d',nm')=>bif qkw nm'&&Nat.blt tt s.n then
       some ((e.F d d').bind fun r=>bif noRef (e.out.res r).1 then K { s with fr:=(tt,(e.out.res r).1)::s.fr } else none) else none
     |none=>none
    |none=>none
   |none=>none
  |_,_=>none
 |_,_=>none
def qy2{f:FuncId}:∀{es:List cf}{e:cf},qpn f es=some e->e∈es/\e.key = .ext f
 |[],e,h=>by cases h
 |e'::es,e,h=>by
  unfold qpn at h;cases hb:qz0 f e'.key<;>rw[hb]at h<;>simp at h
  ·exact⟨qE _ (qy2 h).1,(qy2 h).2⟩
  ·subst h;refine⟨qH,?_⟩;unfold qz0 at hb;split at hb
   ·rename_i f' hk;rw[hk,qN hb]
   ·cases hb
section
variable{P:Program}{z5m:World}{z5g:Gh}{z5j:List (Nat×ag)}{G:Gh}{s:St}{a:Act}{w:World}{R:Type}{tb:Tb}
def zns(hT:∀e∈tb.ents,e.Sound P)(hr:ai z5m z5g z5j G s a w){o:Oper}{K:St->Option R}{r:Option R}{x:R}(h:qy8 tb s o K=some r)(hx:r=some x){N:Act->World->Prop}(hN:∀s',K s'=some x->∀G' a' w',ai z5m z5g z5j G' s' a' w'->N a' w'):fe P o a w N:=by
 obtain⟨dst,op,ty,pos,after,guard⟩:=o;unfold qy8 at h;split at h
 ·rename_i g args ats tt e1 e2;simp only at e1 e2;subst e1 e2;split at h
  ·rename_i f xs hg hargs;split at h
   ·rename_i e he;split at h
    ·rename_i d nm hget;split at h
     ·rename_i d' nm' hbg;cases hb:qkw nm'&&Nat.blt tt s.n<;>rw[hb]at h<;>simp only[qT,qF,reduceCtorEq,qI]at h
      simp only[qA]at hb;have hn:=zca hb.1;subst hn;rw[hx]at h;obtain⟨y,hy,h⟩:=Option.bind_eq_some_iff.1 h;cases hnr:noRef (e.out.res y).1<;>rw[hnr]at h<;>simp only[qT,qF,reduceCtorEq]at h
      obtain⟨hmem,hkey⟩:=qy2 he;have hs:=hT e hmem d d' y hy;rw[hkey]at hs;have hs:ql3 P f (Pts.put e.args d) (e.out.res y).1:=hs;have hseen:=(Pts.get_seen hget).2 [] rfl (fun n m hh=>by have:=(qa6 hbg).1 n m hh;cases this)
      obtain⟨ps,k1,k2⟩:=qrp (qbo (ps:=e.args) (d:=d)) hseen;obtain⟨z1,z2,z3,z4⟩:=qxk hr.fin;obtain⟨fs,cs,hge,hfs,hcs⟩:=bn hr hg;have hfs0:fs=#[]:=Array.eq_empty_of_size_eq_zero (by have:=hfs.length;simpa using this.symm)
      have hcs0:cs=#[]:=Array.eq_empty_of_size_eq_zero (by have:=hcs.length;simpa using this.symm)
      subst hfs0 hcs0;have hreps:=ko z1 (fun _=>z4) k1 k2 (yq hr hargs)
      obtain⟨v,hv1,hv2⟩:=hs w _ _ z2 hreps;have hv3:aj (e.out.res y).1 G v:=qqj (G:=G.allData s.hp w) (G':=G) (fun _ _ q=>q) (fun _ _ q=>q) hnr hv2
      have hrun:(execOp a.eval ⟨some tt,.call { callee := .value g,args:=args,argTypes:=ats },ty,pos,after,guard⟩).run P w = .ok (.value v) w:=by
       have e3:(args.toList.map a.eval).toArray=args.map a.eval:=by rw[← Array.toArray_toList (xs:=args.map a.eval),Array.toList_map]
       try rw[e3]at hv1
       simp[execOp,resolve,hge,Deferred.ofValue,invoke,hv1]
      refine eq oC ?_
      unfold Oper.wp;rw[hrun];have hb2:Nat.blt tt s.n=true:=hb.2;exact hN _ h _ _ _ (gn (v:=(e.out.res y).1) hr (by simp[St.add,hb2,qT,List.nil_append]) hv3)
     ·cases h
    ·cases h
   ·cases h
  ·cases h
 ·cases h
end
def q2d(P:Program)(t:TypeId):Option Ty:=match P.underlying t with
 |some (.int k)=>match k with|.u8=>some .byte|k=>some (.int k)
 |some .bool=>some .bool|some .string=>some .str|_=>none
def Ty.zero1:(τ:Ty)->Option τ.den|.int _=>some (0:Int)|.byte=>some (0:UInt8)|.bool=>some false|.str=>some ([]:List UInt8)|_=>none
def uu:Ty->AV->Bool
 |.int k,x=>match x with|.int k' n=>decide (k'=k)&&decide (n=0)|_=>false
 |.byte,x=>match x with|.byte c=>decide (c=0)|_=>false
 |.bool,x=>match x with|.bool b => !b|_=>false
 |.str,x=>match x with|.str s=>s.isEmpty|_=>false
 |_,_=>false
def vz(τ:Ty):List AV->Bool|[]=>true|x::xs=>uu τ x&&vz τ xs
def Ty.is1:Ty->Bool|.int _=>true|.byte=>true|.bool=>true|.str=>true|_=>false
def yg(P:Program)(T:TypeId):Bool:=match P.underlying T with|some (.array n _)=>Nat.blt 32 n|_=>false
def qxp(P:Program)(s:St)(o:Oper):Option (Bool×St):=
 match o.op,o.dst with
 |.alloc T,some t=>match P.underlying T with
  |some (.array n E)=>bif Nat.blt 32 n then
    match q2d P E,zq P T with
    |some τ,some zs=>match τ.zero1 with
     |some z=>bif Nat.beq zs.length n&&vz τ zs&&Nat.ble n 65536&&AV.ones zs&&bh (s.nx+32*t) s.hp&&Nat.blt t s.n then
       some (true,{ s with fr:=(t,.oel (s.nx+32*t) 1 0 0)::s.fr,hp:=(s.nx+32*t,.row τ (List.replicate n z) T)::s.hp }) else none
     |none=>none
    |_,_=>none
   else none
  |_=>none
 |.load T x,some t=>bif yg P T then match s.ev x with
  |some (.oel k sz 0 0)=>match ae s.hp k,zp P T,er P T with|some (.row τ l _),some true,some n=>bif τ.is1&&Nat.beq sz 1&&Nat.blt t s.n then some (decide (l.length=n),{ s with fr:=(t,.arr τ l)::s.fr }) else none|_,_,_=>none
  |_=>none else none
 |.store T x y,none=>bif yg P T then match s.ev x,s.ev y with
  |some (.oel k sz 0 0),some (.arr τ l)=>match ae s.hp k,er P T with|some (.row τ0 l0 E0),some n=>bif τ.is1&&τ0.is1&&Nat.beq sz 1 then some (decide (l.length=l0.length)&&decide (l.length=n),{ s with hp:=(k,.row τ l E0)::s.hp }) else none|_,_=>none
  |_,_=>none else none
 |.indexAddr T x i,some t=>bif yg P T then match P.underlying T with
  |some (.array n E)=>match s.ev x,er P E with
   |some (.oel k sz 0 0),some 1=>bif Nat.beq sz 1&&Nat.blt t s.n then
     match s.evy i with|some (.int _ j)=>some (decide (0<=j)&&decide (j<n),{ s with fr:=(t,.oel k 1 j.toNat 0)::s.fr })|some (.byte c)=>some (Nat.ble 256 n||decide (c.toNat<n),{ s with fr:=(t,.oel k 1 c.toNat 0)::s.fr })|_=>none
    else none
   |_,_=>none
  |_=>none else none
 |_,_=>none
def qe9{τ:Ty}(h:τ.is1=true):τ.sz=1:=by cases τ<;>first|rfl|cases h
def q4o{τ:Ty}{z:τ.den}(h:τ.zero1=some z):τ.is1=true:=by cases τ<;>first|rfl|cases h
def z44{τ:Ty}{x:AV}{z:τ.den}{G:Gh}{v:Value}(h:uu τ x=true)(hz:τ.zero1=some z)(hr:aj x G v):am (τ.enc z) G [v]:=by
 cases τ with
 |int k=>
  cases x<;>simp only[uu,wJ,qA,decide_eq_true_eq]at h
  obtain⟨rfl,rfl⟩:=h;cases hz;exact⟨hr,trivial⟩
 |byte=>
  cases x<;>simp[uu,wJ,decide_eq_true_eq]at h
  subst h;cases hz;exact⟨hr,trivial⟩
 |bool=>
  cases x with
  |bool b=>
   cases b
   ·cases hz;exact⟨hr,trivial⟩
   ·cases h
  |_=>cases h
 |str=>
  cases x with
  |str l=>
   cases l
   ·cases hz;exact⟨hr,trivial⟩
   ·cases h
  |_=>cases h
 |_=>cases hz
def q7p{τ:Ty}{z:τ.den}{G:Gh}(hz:τ.zero1=some z):∀{zs:List AV}{vs:List Value},vz τ zs=true->am zs G vs->am ((List.replicate zs.length z).flatMap τ.enc) G vs
 |[],[],_,_=>trivial|x::zs,v::vs,h,hr=>by
  simp[vz,qA]at h;rw[qL,List.replicate_succ,List.flatMap_cons];exact rn (vs:=[v]) (z44 h.1 hz hr.1) (q7p hz h.2 hr.2)
 |[],_::_,_,h=>h.elim|_::_,[],_,h=>h.elim
def znb{τ:Ty}(h:τ.is1=true)(x:τ.den):τ.enc x=[τ.av x]:=by cases τ<;>first|rfl|cases h
def q71{τ:Ty}(h:τ.is1=true){x:τ.den}{G:Gh}{v:Value}:aj (τ.av x) G v↔τ.V1 G.imm x v:=by cases τ<;>first|exact Iff.rfl|cases h
def qpx{τ:Ty}(h:τ.is1=true):∀(l:List τ.den),l.flatMap τ.enc=l.map τ.av|[]=>rfl|x::l=>by rw[List.flatMap_cons,znb h,qpx h l];rfl
def zkg{τ:Ty}(h:τ.is1=true){l:List τ.den}{G:Gh}{v:Value}(hv:aj (.arr τ l) G v):∃vs:Array Value,v = .agg vs/\am (l.flatMap τ.enc) G.data vs.toList:=by
 obtain⟨vs,rfl,h1,h2⟩:=hv;refine⟨vs,rfl,?_⟩;rw[qpx h];have:∀(l:List τ.den)(us:List Value),us.length=l.length->(∀(j:Nat)(x:τ.den),l[j]? = some x->∃u,us[j]? = some u/\τ.V1 G.imm x u)->am (l.map τ.av) G.data us:=by
  intro l
  induction l with
  |nil=>intro us hl _;rw[List.eq_nil_of_length_eq_zero hl];trivial|cons x l ih=>
   intro us hl hu
   cases us with
   |nil=>cases hl
   |cons u us=>
    refine⟨?_,ih us (by simpa using hl) (fun j y hy=>hu (j+1) y (by simpa using hy))⟩
    obtain⟨u',e,k⟩:=hu 0 x rfl;simp at e;subst e;exact(q71 h (G:=G.data)).2 k
 exact this l vs.toList (by simpa using h1) (fun j x hx=>by obtain⟨u,k1,k2⟩:=h2 j x hx;exact⟨u,by simpa using k1,k2⟩)
def q1j{τ:Ty}(h:τ.is1=true){l:List τ.den}{G:Gh}{vs:List Value}(hv:am (l.flatMap τ.enc) G.data vs):aj (.arr τ l) G (.agg vs.toArray):=by
 rw[qpx h]at hv;refine⟨vs.toArray,rfl,by simpa using hv.length.symm,fun j x hx => ?_⟩
 obtain⟨u,k1,k2⟩:=ki hv (i:=j) (x:=τ.av x) (by simp[hx])
 exact⟨u,by simpa using k1,(q71 h (G:=G.data)).1 k2⟩
section
variable{P:Program}{z5m:World}{z5g:Gh}{z5j:List (Nat×ag)}{G:Gh}{s:St}{a:Act}{w:World}
def zkf(hr:ai z5m z5g z5j G s a w){o:Oper}{s':St}(h:qxp P s o=some (true,s')){N:Act->World->Prop}(hN:∀G' a' w',ai z5m z5g z5j G' s' a' w'->N a' w'):fe P o a w N:=by
 obtain⟨dst,op,ty,pos,after,guard⟩:=o;unfold qxp at h;split at h
 ·rename_i T t e1 e2;simp only at e1 e2;subst e1 e2;split at h
  ·rename_i n E hu;cases hn:Nat.blt 32 n<;>rw[hn]at h<;>simp only[qT,qF,reduceCtorEq]at h
   split at h
   ·rename_i τ zs hτ hzs;split at h
    ·rename_i z hz;cases hb:Nat.beq zs.length n&&vz τ zs&&Nat.ble n 65536&&AV.ones zs&&bh (s.nx+32*t) s.hp&&Nat.blt t s.n<;>rw[hb]at h<;>simp only[qT,qF,reduceCtorEq,qI,qP,true_and]at h
     subst h;simp only[qA]at hb;obtain⟨⟨⟨⟨⟨b1,b2⟩,b3⟩,b4⟩,b5⟩,b6⟩:=hb;have b1:=qN b1;have b3:n<=65536:=Nat.le_of_ble_eq_true b3;have hsz:τ.sz=1:=qe9 (q4o hz);obtain⟨Z,hz1,hz2⟩:=qq7 (P:=P) hzs w G.data;have ac:Z.cells.toList.length=n:=by rw[← hz2.length,b1]
     have hreps:=q7p hz b2 hz2;rw[b1]at hreps;have hone:=pw hz2 b4;have hrun:(execOp a.eval ⟨some t,.alloc T,ty,pos,after,guard⟩).run P w = .ok (.value (.pointer (some ⟨w.heap.size,0,none⟩))) (w.alloc (.cells Z.cells T)):=by
      simp[execOp,Instr.alloc,hz1,newVar,newRow]
     refine eq oC ?_
     unfold Oper.wp;rw[hrun];have hrow:iq (w.alloc (.cells Z.cells T)) T τ.sz (some ⟨w.heap.size,0,none⟩) (List.replicate n z).length n Z.cells.toList:=by
      refine⟨by rw[hsz,ac];simp,.inr ⟨w.heap.size,Z.cells,(0,0),rfl,qy _ _,.inl rfl,oC,?_,?_,?_,hone⟩⟩
      ·exact Nat.le_trans b3 oD
      ·rw[hsz,← ac];simp
      ·rw[List.take_of_length_le];rw[hsz,ac];simp
     obtain⟨G',hG⟩:=zdv (t:=t) (v := .oel (s.nx+32*t) 1 0 0) (u := .pointer (some ⟨w.heap.size,0,none⟩)) (s':={ s with fr:=(t,.oel (s.nx+32*t) 1 0 0)::s.fr,hp:=(s.nx+32*t,.row τ (List.replicate n z) T)::s.hp }) hr b5 (qld _ _) hrow hreps
      (fun b hb=>by injection hb with hb;subst hb;exact wF _) (fun G' hG'=>⟨w.heap.size,_,n,hG',oC⟩)
      (by have hb2:Nat.blt t s.n=true:=b6;simp only[St.add,hb2,qT];rfl)
     exact hN _ _ _ hG
    ·cases h
   ·cases h
  ·cases h
 ·rename_i T x t e1 e2;simp only at e1 e2;subst e1 e2;cases hbig:yg P T<;>rw[hbig]at h<;>simp only[qT,qF,reduceCtorEq]at h
  split at h
  ·rename_i k sz hx;split at h
   ·rename_i τ l E n hl hagg hn;cases hb:τ.is1&&Nat.beq sz 1&&Nat.blt t s.n<;>rw[hb]at h<;>simp only[qT,qF,reduceCtorEq,qI,qP,decide_eq_true_eq]at h
    obtain⟨ac,rfl⟩:=h;simp only[qA]at hb;obtain⟨⟨b1,b2⟩,b3⟩:=hb;have hsz:τ.sz=1:=qe9 b1;obtain⟨B,n0,c0,ho,hxe⟩:=bn hr hx;obtain⟨ad,c',h1,h3⟩:=hr.fin.mem.holds _ _ hl;rw[ho]at h1;simp only[qI,qP]at h1;obtain⟨rfl,rfl,rfl⟩:=h1;rcases h3 with⟨h3,_⟩|⟨g,vs,fz,k1,k2,k3,k4,k5,k6,k7,k8,k9⟩
    ·cases h3
    ·simp only[qI,Addr.mk.injEq,and_true]at k1;subst k1;have hfl:(l.flatMap τ.enc).length=n:=by rw[t6,hsz,ac,Nat.mul_one]
     have hload:iu P T (l.flatMap τ.enc) 0=some (.agg (l.flatMap τ.enc)):=by
      unfold iu;rw[hagg,hn];have:Nat.ble (0+n) (l.flatMap τ.enc).length=true:=by rw[hfl,wO];simp
      simp only[this,qT,List.drop_zero];rw[List.take_of_length_le (by rw[hfl];exact wF _)]
     obtain⟨u,hu,us,rfl,hru⟩:=qb4 (P:=P) (w:=w) hload (B:=B) (o:=0) k7 (fun j u hu=>by
      rw[List.getElem?_take]at hu;split at hu
      ·rw[wO];exact cell_of_heap k2 hu
      ·cases hu)
     have hrun:(execOp a.eval ⟨some t,.load T x,ty,pos,after,guard⟩).run P w = .ok (.value (.agg us)) w:=by
      simp only[Nat.add_zero]at hu;simp[execOp,hxe,Instr.loadAt,Instr.sureAddr,hu]
     refine eq oC ?_
     unfold Oper.wp;rw[hrun];have hb2:Nat.blt t s.n=true:=b3;have:=q1j (G:=G) b1 hru;exact hN _ _ _ (gn (v := .arr τ l) hr (by simp only[St.add,hb2,qT,List.nil_append]) (by simpa using this))
   ·cases h
  ·cases h
 ·rename_i T x y e1 e2;simp only at e1 e2;subst e1 e2;cases hbig:yg P T<;>rw[hbig]at h<;>simp only[qT,qF,reduceCtorEq]at h
  split at h
  ·rename_i k sz τ l hx hy;split at h
   ·rename_i τ0 l0 E0 n hl hn;cases hb:τ.is1&&τ0.is1&&Nat.beq sz 1<;>rw[hb]at h<;>simp only[qT,qF,reduceCtorEq,qI,qP,qA,decide_eq_true_eq]at h
    obtain⟨⟨ac,hlen2⟩,rfl⟩:=h;simp only[qA]at hb;obtain⟨⟨b1,b2⟩,b3⟩:=hb;have hsz:τ.sz=1:=qe9 b1;have hsz0:τ0.sz=1:=qe9 b2;obtain⟨B,n0,c0,ho0,hxe⟩:=bn hr hx;obtain⟨us,hye,hus⟩:=zkg b1 (bn hr hy);obtain⟨ad,c,h1,h3⟩:=hr.fin.mem.holds _ _ hl;rw[ho0]at h1;simp only[qI,qP]at h1;obtain⟨rfl,rfl,rfl⟩:=h1;rcases h3 with⟨h3,_⟩|⟨g,vs,fz,k1,k2,k3,k4,k5,k6,k7,k8,k9⟩
    ·cases h3
    ·simp only[qI,Addr.mk.injEq,and_true]at k1;subst k1;have hul:us.toList.length=n:=by rw[← hus.length,t6,hsz,hlen2,Nat.mul_one]
     have hones:∀v∈us.toList,v.oneCell'=true:=pw hus (by
      rw[qpx b1];have:∀l:List τ.den,AV.ones (l.map τ.av)=true:=by
       intro l
       induction l with
       |nil=>rfl|cons x l ih=>
        simp only[List.map_cons,AV.ones,ih,Bool.and_true];cases τ<;>first|rfl|cases b1
      exact this l)
     have hle:l0.length<=vs.size:=by rw[k6,hsz0,Nat.mul_one];exact k4
     obtain⟨w',cur',m1,m2,m3,m4⟩:=qfr (P:=P) B 0 E0 fz us.toList 0 vs w k2 oA k3 hones
     have hrun:(execOp a.eval ⟨none,.store T x y,ty,pos,after,guard⟩).run P w = .ok .skip w':=by
      have hul':us.size=n:=by simpa using hul
      simp[execOp,Instr.storeAt,hxe,hye,Instr.sureAddr,storeVar,gv hn,Value.cells,hul',m1]
     refine eq oC ?_
     unfold Oper.wp;rw[hrun];have hcs:cur'.size=vs.size:=by rw[← Array.length_toList,m3,qfz,Array.length_toList]
     refine hN G _ _ ⟨hr.defers,hr.size,hr.frame,fun m hm hlm=>hr.fresh m hm ?_,?_⟩
     ·simp only[ae]at hlm;cases hbq:Nat.beq k m
      ·rw[hbq]at hlm;exact hlm
      ·rw[hbq]at hlm;cases hlm
     ·refine hr.fin.update (bx' := .row τ l E0) hl (B:=B) (by simp[Gh.at,ho0]) (by simp[Gh.at,ho0]) m4 ⟨some ⟨B,0,none⟩,c0,by rw[ac];exact ho0,.inr ⟨B,cur',fz,rfl,m2,by rw[hcs];exact k3,by rw[ac];exact k4,k5,by rw[hcs,hsz,← hsz0];exact k6,?_,?_,k9⟩⟩ k9
      ·rw[m3,hsz,Nat.mul_one,Nat.add_zero];have:=q2j us.toList vs.toList 0 (by simp only[Array.length_toList]at hul ⊢;omega)
       rw[wO,List.take_zero,List.nil_append]at this;rw[hlen2,← hul,this];exact hus
      ·intro u hu;rw[m3]at hu;rcases qf0 _ _ _ _ hu with hu|hu
       ·exact k8 u hu
       ·exact hones u hu
   ·cases h
  ·cases h
 ·rename_i T x i t e1 e2;simp only at e1 e2;subst e1 e2;cases hbig:yg P T<;>rw[hbig]at h<;>simp only[qT,qF,reduceCtorEq]at h
  split at h
  ·rename_i n E hu;split at h
   ·rename_i k sz hx hsz;cases hb:Nat.beq sz 1&&Nat.blt t s.n<;>rw[hb]at h<;>simp only[qT,qF,reduceCtorEq]at h
    simp only[qA]at hb;have b1:=qN hb.1;subst b1;obtain⟨B,n0,c0,ho,hxe⟩:=bn hr hx;have hb2:Nat.blt t s.n=true:=hb.2;have key:∀(j:Nat)(kk:IntKind),a.eval i = .int kk (j:Int)->j<n->s'={ s with fr:=(t,.oel k 1 j 0)::s.fr }->fe P ⟨some t,.indexAddr T x i,ty,pos,after,guard⟩ a w N:=by
     intro j kk hi hj hs';have hrun:(execOp a.eval ⟨some t,.indexAddr T x i,ty,pos,after,guard⟩).run P w = .ok (.value (.pointer (some ⟨B,j,none⟩))) w:=by
      simp[execOp,hxe,hi,Instr.indexAt,asIntOf,bm hu,gv hsz,mr,Instr.sureAddr,hj]
     refine eq oC ?_
     unfold Oper.wp;rw[hrun];subst hs';exact hN _ _ _ (gn (v := .oel k 1 j 0) hr (by simp[St.add,hb2,qT,List.nil_append]) ⟨B,n0,c0,ho,oC⟩)
    split at h
    ·rename_i kk j hi;simp at h;obtain⟨⟨h1,h2⟩,h3⟩:=h;have hie:a.eval i = .int kk j:=jq hr hi;exact key j.toNat kk (by rw[Int.toNat_of_nonneg h1];exact hie) oA h3.symm
    ·rename_i c hi;simp only[qI,qP,Bool.or_eq_true,decide_eq_true_eq]at h;obtain⟨h1,h3⟩:=h;have hie:a.eval i = .int .u8 c.toNat:=jq hr hi;have hlt:c.toNat<n:=by
      rcases h1 with h1|h1
      ·have:=Nat.le_of_ble_eq_true h1;have:=c.toNat_lt;omega
      ·exact h1
     exact key c.toNat .u8 hie hlt h3.symm
    ·cases h
   ·cases h
  ·cases h
 ·cases h
end
def qkz:TypeDesc->Bool|.interface _=>false|_=>true
def q0o(P:Program)(s:St)(o:Oper):Option (Bool×St):=
 match o.op,o.dst with
 |.makeInterface T x,some tt=>match s.ev x,P.underlying T with|some v,some d=>bif qkz d&&Nat.blt tt s.n then some (true,{ s with fr:=(tt,.iface T v)::s.fr }) else none|_,_=>none
 |.build T parts,some tt=>bif yg P T then match parts.toList with
  |[]=>match P.underlying T with
   |some (.array n E)=>match q2d P E,qd8 P s T [] with
    |some τ,some ([],.agg zs)=>match τ.zero1 with|some z=>bif Nat.beq zs.length n&&vz τ zs&&Nat.blt tt s.n then some (true,{ s with fr:=(tt,.arr τ (List.replicate n z))::s.fr }) else none|none=>none
    |_,_=>none
   |_=>none
  |_=>none else none
 |.binOp op t x y _,some tt=>match s.ev y,P.underlying t with
  | some (.val (.slice none 0 0)),some (.slice _)=>bif Nat.blt tt s.n then(match s.ev x,op with
   |some (.own k),.eql=>match ae s.hp k with|some (.row _ l _)=>some (decide (0<l.length),{ s with fr:=(tt,.val (.bool false))::s.fr })|_=>none
   |some (.own k),.neq=>match ae s.hp k with|some (.row _ l _)=>some (decide (0<l.length),{ s with fr:=(tt,.val (.bool true))::s.fr })|_=>none
   |some (.val (.slice none 0 0)),.eql=>some (true,{ s with fr:=(tt,.val (.bool true))::s.fr })|some (.val (.slice none 0 0)),.neq=>some (true,{ s with fr:=(tt,.val (.bool false))::s.fr })| _,_=>none) else none
  |_,_=>none
 |_,_=>none
def zh7{τ:Ty}{x:AV}{z:τ.den}{G G':Gh}{v:Value}(h:uu τ x=true)(hz:τ.zero1=some z)(hr:aj x G v):am (τ.enc z) G' [v]:=by
 cases τ with
 |int k=>
  cases x<;>simp only[uu,wJ,qA,decide_eq_true_eq]at h
  obtain⟨rfl,rfl⟩:=h;cases hz;exact⟨hr,trivial⟩
 |byte=>
  cases x<;>simp[uu,wJ,decide_eq_true_eq]at h
  subst h;cases hz;exact⟨hr,trivial⟩
 |bool=>
  cases x with
  |bool b=>
   cases b
   ·cases hz;exact⟨hr,trivial⟩
   ·cases h
  |_=>cases h
 |str=>
  cases x with
  |str l=>
   cases l
   ·cases hz;exact⟨hr,trivial⟩
   ·cases h
  |_=>cases h
 |_=>cases hz
def q7o{τ:Ty}{z:τ.den}{G G':Gh}(hz:τ.zero1=some z):∀{zs:List AV}{vs:List Value},vz τ zs=true->am zs G vs->am ((List.replicate zs.length z).flatMap τ.enc) G' vs
 |[],[],_,_=>trivial|x::zs,v::vs,h,hr=>by
  simp[vz,qA]at h;rw[qL,List.replicate_succ,List.flatMap_cons];exact rn (vs:=[v]) (zh7 h.1 hz hr.1) (q7o hz h.2 hr.2)
 |[],_::_,_,h=>h.elim|_::_,[],_,h=>h.elim
section
variable{P:Program}{z5m:World}{z5g:Gh}{z5j:List (Nat×ag)}{G:Gh}{s:St}{a:Act}{w:World}
def zs2{P:Program}{t E:TypeId}(hu:P.underlying t=some (.slice E))(d:Nat)(x:Option Addr)(n c:Nat)(w:World)(h:x=none->n=0/\c=0) :
  (Op.equalIn (d+1) t (.slice x n c) (.slice none 0 0)).run P w = .ok x.isNone w:=by
 cases x with
 |none=>obtain⟨rfl,rfl⟩:=h rfl;simp[Op.equalIn,bm hu]
 |some a=>simp[Op.equalIn,bm hu]
def zs1{P:Program}{t E:TypeId}(hu:P.underlying t=some (.slice E))(x:Option Addr)(n c:Nat)(w:World)(h:x=none->n=0/\c=0) :
  (Op.equal t (.slice x n c) (.slice none 0 0)).run P w = .ok x.isNone w:=zs2 hu 9999 x n c w h
def zp8(hr:ai z5m z5g z5j G s a w){o:Oper}{s':St}(h:q0o P s o=some (true,s')){N:Act->World->Prop}(hN:∀G' a' w',ai z5m z5g z5j G' s' a' w'->N a' w'):fe P o a w N:=by
 obtain⟨dst,op,ty,pos,after,guard⟩:=o;unfold q0o at h;split at h
 ·rename_i T x tt e1 e2;simp only at e1 e2;subst e1 e2;split at h
  ·rename_i v d hx hu;cases hb:qkz d&&Nat.blt tt s.n<;>rw[hb]at h<;>simp only[qT,qF,reduceCtorEq,qI,qP,true_and]at h
   subst h;simp only[qA]at hb;refine eq oC ?_
   unfold Oper.wp;have hrun:(execOp a.eval ⟨some tt,.makeInterface T x,ty,pos,after,guard⟩).run P w = .ok (.value (.iface T (a.eval x))) w:=by
    have h1:=hb.1;cases d<;>simp only[qkz,wJ]at h1<;>simp[execOp,Instr.makeInterface,bm hu]
   rw[hrun];exact hN G _ _ (gn (v := .iface T v) hr oQ ⟨_,rfl,bn hr hx⟩)
  ·cases h
 ·rename_i T parts tt e1 e2;simp only at e1 e2;subst e1 e2;cases hbig:yg P T<;>rw[hbig]at h<;>simp only[qT,qF,reduceCtorEq]at h
  split at h
  ·rename_i hp;split at h
   ·rename_i n E hu;split at h
    ·rename_i τ zs hτ hbu;split at h
     ·rename_i z hz;cases hb:Nat.beq zs.length n&&vz τ zs&&Nat.blt tt s.n<;>rw[hb]at h<;>simp only[qT,qF,reduceCtorEq,qI,qP,true_and]at h
      subst h;simp only[qA]at hb;have b1:=qN hb.1.1;rw[← hp]at hbu;obtain⟨u,hu1,us,rfl,hu3⟩:=q67 hr hbu;refine eq oC ?_
      unfold Oper.wp;have hrun:(execOp a.eval ⟨some tt,.build T parts,ty,pos,after,guard⟩).run P w = .ok (.value (.agg us)) w:=by
       simp only[execOp,Sem.run_bind,hu1,Result.andThen_ok];rfl
      rw[hrun];have hrep:=q7o (G':=G.data) hz hb.1.2 hu3;rw[b1]at hrep;have:=q1j (q4o hz) (G:=G) hrep;exact hN G _ _ (gn (v := .arr τ (List.replicate n z)) hr oQ this)
     ·cases h
    ·cases h
   ·cases h
  ·cases h
 ·rename_i op t x y p tt e1 e2;simp only at e1 e2;subst e1 e2;split at h
  ·rename_i E hy hu;cases hb:Nat.blt tt s.n<;>rw[hb]at h<;>simp only[qT,qF,reduceCtorEq]at h
   have hye:a.eval y = .slice none 0 0:=bn hr hy;have go:∀(op:BinOp)(q:Bool)(ad:Option Addr)(n c:Nat),a.eval x = .slice ad n c->(ad=none->n=0/\c=0)->(op = .eql/\q=ad.isNone\/op = .neq/\q = !ad.isNone) ->
     s'={ s with fr:=(tt,.val (.bool q))::s.fr }->fe P ⟨some tt,.binOp op t x y p,ty,pos,after,guard⟩ a w N:=by
    intro op q ad n c hxe hnil hq hs';subst hs';refine eq oC ?_
    unfold Oper.wp;have hq':=zs1 (P:=P) hu ad n c w hnil;have hrun:(execOp a.eval ⟨some tt,.binOp op t x y p,ty,pos,after,guard⟩).run P w = .ok (.value (.bool q)) w:=by
     rcases hq with⟨rfl,rfl⟩|⟨rfl,rfl⟩<;>simp[execOp,hxe,hye,eqGuard,binOp,hq']
    rw[hrun];exact hN G _ _ (gn (v := .val (.bool q)) hr (by simp[St.add,hb,qT,List.nil_append]) rfl)
   have owned:∀{k:Nat}{τ:Ty}{l:List τ.den}{E:TypeId},s.ev x=some (.own k)->ae s.hp k=some (.row τ l E)->0<l.length->∃ad n c,a.eval x = .slice (some ad) n c:=by
    intro k τ l E hx hl hpos;obtain⟨ad0,n0,c0,o1,hxe⟩:=bn hr hx;obtain⟨ad,c',q1,q2⟩:=hr.fin.mem.holds _ _ hl;rw[o1]at q1;simp at q1;obtain⟨rfl,rfl,rfl⟩:=q1;rcases q2 with⟨_,q,_⟩|⟨g,vs,fz,rfl,_⟩
    ·subst q;simp at hpos
    ·exact⟨_,_,_,hxe⟩
   split at h
   ·rename_i k hx;split at h
    ·rename_i hl;simp at h;obtain⟨ad,n,c,he⟩:=owned hx hl h.1;exact go _ false _ _ _ he (fun q=>by cases q) (.inl ⟨rfl,rfl⟩) h.2.symm
    ·cases h
   ·rename_i k hx;split at h
    ·rename_i hl;simp at h;obtain⟨ad,n,c,he⟩:=owned hx hl h.1;exact go _ true _ _ _ he (fun q=>by cases q) (.inr ⟨rfl,rfl⟩) h.2.symm
    ·cases h
   ·rename_i hx;simp at h;exact go _ true _ _ _ (bn hr hx) (fun _=>⟨rfl,rfl⟩) (.inl ⟨rfl,rfl⟩) h.symm
   ·rename_i hx;simp at h;exact go _ false _ _ _ (bn hr hx) (fun _=>⟨rfl,rfl⟩) (.inr ⟨rfl,rfl⟩) h.symm
   ·cases h
  ·cases h
 ·cases h
end
def fh(s:List UInt8)(p:Nat):Nat×Nat:=Utf8.decode ⟨s.toArray⟩ p
def qzv{R:Type}(P:Program)(s:St)(o:Oper)(K:St->Option R):Option (Option R):=
 match o.op,o.dst with
 |.range T x,some t=>match P.underlying T,s.ev x with
  |some .string,some (.str l)=>bif bh (s.nx+32*t) s.hp&&Nat.blt t s.n then
    some (K { s with fr:=(t,.ptr (s.nx+32*t) 0)::s.fr,hp:=(s.nx+32*t,.it l 0)::s.hp }) else none
  |_,_=>none
 |.next x true,some t=>match s.ev x with
  |some (.ptr b 0)=>match ae s.hp b with
   |some (.it l p)=>bif Nat.blt t s.n then
     some (bif Nat.blt p l.length then K { s with fr:=(t,.tup [.val (.bool true),.int .i64 p,.int .i32 (fh l p).1])::s.fr,hp:=(b,.it l (p+(fh l p).2))::s.hp }
      else K { s with fr:=(t,.tup [.val (.bool false)])::s.fr }) else none
   |_=>none
  |_=>none
 |.convert src dst x,some t=>match P.underlying src,P.underlying dst,s.evy x with|some _,some .string,some (.int _ n)=>bif Nat.blt t s.n then some (K { s with fr:=(t,.str (rm n))::s.fr }) else none|_,_,_=>none
 |_,_=>none
section
variable{P:Program}{z5m:World}{z5g:Gh}{z5j:List (Nat×ag)}{G:Gh}{s:St}{a:Act}{w:World}
def zk5(w:World)(B:Nat)(o:Obj):bw (fun b=>b=B) w (w.putObj B o):=
 ⟨rfl,rfl,rfl,oC,fun k _ hne=>World.putObj_heap_other hne⟩
def ai.setBox(hr:ai z5m z5g z5j G s a w){n:Nat}{bx bx':ag}{B:Nat}(hn:ae s.hp n=some bx)(hB:G.at n bx=some B)(hB':∀c,G.at n bx'=some c->c=B){o:Obj}
  (hok:cm G (w.putObj B o) n bx') (hi:∀o,G.imm B o=none):ai z5m z5g z5j G { s with hp:=(n,bx')::s.hp } a (w.putObj B o):=
 ⟨hr.defers,hr.size,hr.frame,fun m hm hl=>hr.fresh m hm (by
  simp[ae]at hl;cases hb:Nat.beq n m
  ·rw[hb]at hl;exact hl
  ·rw[hb]at hl;cases hl),hr.fin.update' hn hB hB' (zk5 w B o) hok hi⟩
def Gh.addBox(G:Gh)(k:Nat)(B:Nat):Gh:={ imm:=G.imm,box:=fun m=>bif Nat.beq m k then some B else G.box m,own:=G.own }
def Gh.addBox_le{k B:Nat}(h:G.box k=none):G.le (G.addBox k B):=
 ⟨fun _ _ _ h=>h,fun n B' hn=>by
  show(bif Nat.beq n k then some B else G.box n)=_
  cases hb:Nat.beq n k
  ·exact hn
  ·(have:=qN hb;subst this;rw[h]at hn;cases hn),fun _ _ h=>h⟩
def Gh.addBox_self{k B:Nat}:(G.addBox k B).box k=some B:=by show(bif Nat.beq k k then some B else G.box k)=_;simp
def Gh.addBox_ne{k B m:Nat}(h:m≠k):(G.addBox k B).box m=G.box m:=by
 show(bif Nat.beq m k then some B else G.box m)=_
 cases hb:Nat.beq m k
 ·rfl
 ·exact absurd (qN hb) h
def ai.newBox(hr:ai z5m z5g z5j G s a w){k:Nat}{bx:ag}{o:Obj}(hk:ae s.hp k=none)(hkx:s.nx<=k)(hat:∀b,(G.addBox k w.heap.size).at k bx=some b->b=w.heap.size)
  (hok:cm (G.addBox k w.heap.size) (w.alloc o) k bx):ai z5m z5g z5j (G.addBox k w.heap.size) { s with hp:=(k,bx)::s.hp } a (w.alloc o):=by
 obtain⟨hkb,hko⟩:=hr.fresh k hkx hk;have hle:G.le (G.addBox k w.heap.size):=Gh.addBox_le hkb;have hl1:∀n b,ae [(k,bx)] n=some b->n=k/\b=bx:=fun n b h=>by
  simp[ae]at h;cases hb:Nat.beq k n
  ·rw[hb]at h;cases h
  ·rw[hb]at h;simp at h;exact⟨(qN hb).symm,h.symm⟩
 have hlt:∀b o v,G.imm b o=some v->b<w.heap.size:=fun b o v h=>World.block_lt_of_cell? _ _ (hr.fin.mem.agree _ _ _ h)
 refine⟨by obtain⟨bs,h1,h2⟩:=hr.defers;exact⟨bs,h1,tp hle.box h2⟩,hr.size,fun i x hx=>by obtain⟨v,h1,h2⟩:=hr.frame i x hx;exact⟨v,h1,h2.le hle⟩,fun m hm hl => ?_,?_⟩
 ·simp[ae]at hl;cases hb:Nat.beq k m
  ·rw[hb]at hl;obtain⟨h1,h2⟩:=hr.fresh m hm hl;exact⟨by rw[Gh.addBox_ne (fun e=>by subst e;simp at hb)];exact h1,h2⟩
  ·rw[hb]at hl;cases hl
 ·refine hr.fin.extend (new:=[(k,bx)]) hle (qld _ _) (fun _ _ _ h => .inl h) (fun b o v h => ?_) hr.fin.mem.one ?_ ?_ ?_
  ·rw[World.cell?_alloc_lt _ _ _ (hlt b o v h)];exact hr.fin.mem.agree _ _ _ h
  ·intro n b h;obtain⟨rfl,_⟩:=hl1 n b h;exact hk
  ·intro n b h;obtain⟨rfl,rfl⟩:=hl1 n b h;exact⟨hok,fun b hb=>by rw[hat b hb];exact wF _⟩
  ·intro n m b b' c h1 h2 _ _;obtain⟨rfl,_⟩:=hl1 n b h1;obtain⟨rfl,_⟩:=hl1 m b' h2;rfl
def kj(l:List UInt8):(⟨l.toArray⟩:ByteArray).size=l.length:=by simp[ByteArray.size]
def zoy{R:Type}(hr:ai z5m z5g z5j G s a w){o:Oper}{K:St->Option R}{r:Option R}{x:R}(h:qzv P s o K=some r)(hx:r=some x){N:Act->World->Prop}(hN:∀s',K s'=some x->∀G' a' w',ai z5m z5g z5j G' s' a' w'->N a' w'):fe P o a w N:=by
 obtain⟨dst,op,ty,pos,after,guard⟩:=o;unfold qzv at h;split at h
 ·rename_i T y t e1 e2;simp only at e1 e2;subst e1 e2;split at h
  ·rename_i l hu hy;cases hb:bh (s.nx+32*t) s.hp&&Nat.blt t s.n<;>rw[hb]at h<;>simp only[qT,qF,reduceCtorEq,qI]at h
   simp only[qA]at hb;subst h;have hk:=ng hb.1 _ (wF _) oA
   have he:a.eval y = .string ⟨l.toArray⟩:=bn hr hy;refine eq oC ?_
   unfold Oper.wp;have hrun:(execOp a.eval ⟨some t,.range T y,ty,pos,after,guard⟩).run P w = .ok (.value (.pointer (some ⟨w.heap.size,0,none⟩))) (w.iter ⟨l.toArray⟩ 0):=by
    simp[execOp,he,run_range_string w T ⟨l.toArray⟩ hu]
   rw[hrun];have hr1:=hr.newBox (k:=s.nx+32*t) (bx := .it l 0) (o := .stringIter ⟨l.toArray⟩ 0) hk oA (fun b hb=>by
    have hb:(G.addBox (s.nx+32*t) w.heap.size).box (s.nx+32*t)=some b:=hb;rw[Gh.addBox_self]at hb;injection hb with hb;exact hb.symm)
    ⟨w.heap.size,Gh.addBox_self,qy _ _,fun o=>by
     cases hq:(G.addBox (s.nx+32*t) w.heap.size).imm w.heap.size o with
     |none=>rfl|some v=>
      have:=World.block_lt_of_cell? _ _ (hr.fin.mem.agree _ _ _ hq);simp at this⟩
   exact hN _ hx _ _ _ (gn (v := .ptr (s.nx+32*t) 0) hr1 oQ ⟨w.heap.size,Gh.addBox_self,rfl⟩)
  ·cases h
 ·rename_i y t e1 e2;simp only at e1 e2;subst e1 e2;split at h
  ·rename_i b hy;split at h
   ·rename_i l p hb;cases ht:Nat.blt t s.n<;>rw[ht]at h<;>simp only[qT,qF,reduceCtorEq,qI]at h
    subst h;obtain⟨B,hB,he⟩:=bn hr hy;obtain⟨B',k1,k2,k3⟩:=hr.fin.mem.holds b _ hb;rw[hB]at k1;injection k1 with k1;subst k1
    refine eq oC ?_
    unfold Oper.wp;cases hp:Nat.blt p l.length<;>rw[hp]at hx<;>simp only[qT,qF]at hx
    ·have hp':¬p<(⟨l.toArray⟩:ByteArray).size:=fun hlt=>by
      rw[kj]at hlt;have:Nat.blt p l.length=true:=Nat.ble_eq_true_of_le hlt;rw[hp]at this;cases this
     have hrun:(execOp a.eval ⟨some t,.next y true,ty,pos,after,guard⟩).run P w = .ok (.value (.tuple #[.bool false])) w:=by
      simp[execOp,he,Instr.next,getObj,Sem.run,k2,hp']
     rw[hrun];exact hN _ hx _ _ _ (gn (v := .tup [.val (.bool false)]) hr (by simp only[St.add,ht,qT,List.nil_append]) ⟨_,rfl,rfl,trivial⟩)
    ·have hp':p<(⟨l.toArray⟩:ByteArray).size:=by
      rw[kj];exact Nat.le_of_ble_eq_true hp
     have hlt:=(Array.getElem?_eq_some_iff.1 k2).1;have hrun:(execOp a.eval ⟨some t,.next y true,ty,pos,after,guard⟩).run P w = .ok (.value (.tuple #[.bool true,.int .i64 p,.int .i32 (fh l p).1])) (w.putObj B (.stringIter ⟨l.toArray⟩ (p+(fh l p).2))):=by
      simp[execOp,he,Instr.next,getObj,setObj,Sem.run,k2,hp',goInt,fh,World.putObj]
     rw[hrun];have hr1:=hr.setBox (bx' := .it l (p+(fh l p).2)) (o := .stringIter ⟨l.toArray⟩ (p+(fh l p).2)) hb (show G.at b (.it l p)=some B from hB) (fun c hc=>by
      have hc:G.box b=some c:=hc;rw[hB]at hc;exact(qJ hc).symm) ⟨B,hB,World.putObj_heap_same hlt,k3⟩ k3
     exact hN _ hx _ _ _ (gn (v := .tup [.val (.bool true),.int .i64 p,.int .i32 (fh l p).1]) hr1 (by simp only[St.add,ht,qT,List.nil_append]) ⟨_,rfl,rfl,rfl,rfl,trivial⟩)
   ·cases h
  ·cases h
 ·rename_i src d y t e1 e2;simp only at e1 e2;subst e1 e2;split at h
  ·rename_i ds k n hs hd hy;cases ht:Nat.blt t s.n<;>rw[ht]at h<;>simp only[qT,qF,reduceCtorEq,qI]at h
   subst h;have he:a.eval y = .int k n:=jq hr hy;refine eq oC ?_
   unfold Oper.wp;have hrun:(execOp a.eval ⟨some t,.convert src d y,ty,pos,after,guard⟩).run P w = .ok (.value (.string ⟨(rm n).toArray⟩)) w:=by
    simp[execOp,he,convert,run_underlying hs,run_underlying hd,Conv.intToString,rm]
   rw[hrun];exact hN _ hx _ _ _ (gn (v := .str (rm n)) hr (by simp[St.add,ht,qT,List.nil_append]) rfl)
  ·cases h
 ·cases h
end
def q17{R:Type}(P:Program)(s:St)(o:Oper)(K:St->Option R):Option (Option R):=
 match o.op,o.dst with
 |.indexAddr T (.global g) i,some t=>match LC.glob g,P.underlying T with
  |some ⟨τ,l⟩,some (.array n E)=>match er P E with
   |some sz=>bif Nat.beq sz τ.sz&&(Nat.ble l.length n&&Nat.blt t s.n) then
     match s.evy i with
     |some (.int _ j)=>some (match ap l j with|some y=>K { s with fr:=(t,.rop (τ.enc y))::s.fr }|none=>none)
     |some (.byte c)=>some (match l[c.toNat]? with|some y=>K { s with fr:=(t,.rop (τ.enc y))::s.fr }|none=>none)
     |_=>none
    else none
   |none=>none
  |_,_=>none
 |_,_=>none
section
variable{P:Program}{z5m:World}{z5g:Gh}{z5j:List (Nat×ag)}{G:Gh}{s:St}{a:Act}{w:World}
def zuc{R:Type}(hr:ai z5m z5g z5j G s a w){o:Oper}{K:St->Option R}{r:Option R}{x:R}(h:q17 P s o K=some r)(hx:r=some x){N:Act->World->Prop}(hN:∀s',K s'=some x->∀G' a' w',ai z5m z5g z5j G' s' a' w'->N a' w'):fe P o a w N:=by
 obtain⟨dst,op,ty,pos,after,guard⟩:=o;unfold q17 at h;split at h
 ·rename_i T g i t e1 e2;simp only at e1 e2;subst e1 e2;split at h
  ·rename_i τ l n E hg hu;split at h
   ·rename_i sz hsz;cases hb:Nat.beq sz τ.sz&&(Nat.ble l.length n&&Nat.blt t s.n)<;>rw[hb]at h<;>simp only[qT,qF,reduceCtorEq]at h
    simp only[qA]at hb;obtain⟨b1,b2,b3⟩:=hb;have b1:=qN b1;have b2:=Nat.le_of_ble_eq_true b2;subst b1;have key:∀(j:Nat)(kk:IntKind)(y:τ.den),a.eval i = .int kk (j:Int)->l[j]? = some y->K { s with fr:=(t,.rop (τ.enc y))::s.fr }=some x->fe P ⟨some t,.indexAddr T (.global g) i,ty,pos,after,guard⟩ a w N:=by
     intro j kk y hi hy hk;have hj:j<n:=Nat.lt_of_lt_of_le (List.getElem?_eq_some_iff.1 hy).1 b2;have hrun:(execOp a.eval ⟨some t,.indexAddr T (.global g) i,ty,pos,after,guard⟩).run P w = .ok (.value (.pointer (some ⟨g,j*τ.sz,none⟩))) w:=by
      have hge:a.eval (.global g) = .pointer (some ⟨g,0,none⟩):=by simp[Act.eval]
      simp[execOp,hge,hi,Instr.indexAt,asIntOf,bm hu,gv hsz,mr,Instr.sureAddr,hj]
     refine eq oC ?_
     unfold Oper.wp;rw[hrun];exact hN _ hk _ _ _ (gn (v := .rop (τ.enc y)) hr (by simp[St.add,b3,qT,List.nil_append]) ⟨g,j*τ.sz,rfl,ry.2 (hr.fin.mem.tab.1 g τ l hg j y hy)⟩)
    split at h
    ·rename_i kk j hi;have h:=qJ h;rw[← h]at hx;split at hx
     ·rename_i y hy;have hie:a.eval i = .int kk j:=jq hr hi;obtain⟨h1,h2⟩:=qkf hy;exact key j.toNat kk y (by rw[Int.toNat_of_nonneg h1];exact hie) h2 hx
     ·cases hx
    ·rename_i c hi;have h:=qJ h;rw[← h]at hx;split at hx
     ·rename_i y hy;exact key c.toNat .u8 y (jq hr hi) hy hx
     ·cases hx
    ·cases h
   ·cases h
  ·cases h
 ·cases h
end
def qb5(s:List UInt8):Nat->Nat->List Int|0,_=>[]|f+1,i=>bif Nat.blt i s.length then((fh s i).1:Int)::qb5 s f (i+(fh s i).2) else[]
def gc(s:List UInt8):List Int:=qb5 s s.length 0
def q0e{R:Type}(P:Program)(s:St)(o:Oper)(K:St->Option R):Option (Option R):=
 match o.op,o.dst with
 |.makeSlice T x y,some t=>match P.underlying T with
  |some (.slice E)=>match q2d P E,zq P E,er P E,s.evy x,s.evy y with
   |some τ,some [z0],some 1,some (.int _ n),some (.int _ m)=>match τ.zero1 with
    |some z=>bif uu τ z0&&oq P E&&bh (s.nx+32*t) s.hp&&Nat.blt t s.n then
      some (bif decide (0<=n/\n=m/\n<=4294967296) then K { s with fr:=(t,.own (s.nx+32*t))::s.fr,hp:=(s.nx+32*t,.row τ (List.replicate n.toNat z) E)::s.hp } else none) else none
    |none=>none
   |_,_,_,_,_=>none
  |_=>none
 |.convert src dst x,some t=>match P.underlying src,P.underlying dst with
  |some .string,some (.slice E)=>match P.underlying E,s.ev x with
   |some (.int .i32),some (.str b)=>bif bh (s.nx+32*t) s.hp&&Nat.blt t s.n then
     some (bif decide (b.length<=4294967296) then K { s with fr:=(t,.own (s.nx+32*t))::s.fr,hp:=(s.nx+32*t,.row (.int .i32) (gc b) E)::s.hp } else none) else none
   |_,_=>none
  |some (.slice E),some .string=>match P.underlying E,s.ev x with
   |some (.int .i32),some v=>match qlb s v with|some l=>bif Nat.blt t s.n then some (K { s with fr:=(t,.str (jb l))::s.fr }) else none|none=>none
   |_,_=>none
  |_,_=>none
 |.slice T x lo (some hi) (some mx),some t=>match P.underlying T with
  |some (.slice E)=>match er P E,jg s lo,s.evy hi,s.evy mx,s.ev x with
   |some sz,some a,some (.int _ b),some (.int _ c),some (.sl τ l)=>bif Nat.beq τ.sz sz&&Nat.blt t s.n then
     some (bif decide (0<=a.getD 0/\a.getD 0<=b/\b<=c/\c<=(l.length:Int)) then K { s with fr:=(t,.sl τ ((l.drop (a.getD 0).toNat).take (b.toNat-(a.getD 0).toNat)))::s.fr } else none) else none
   |_,_,_,_,_=>none
  |_=>none
 |_,_=>none
def zd5(s:List UInt8):∀(f i:Nat)(acc:Array Value),Conv.runesFrom ⟨s.toArray⟩ f i acc=acc++((qb5 s f i).map (Value.int .i32)).toArray
 |0,i,acc=>by simp[Conv.runesFrom,qb5]|f+1,i,acc=>by
  unfold Conv.runesFrom qb5;rw[kj];by_cases h:i<s.length
  ·have hb:Nat.blt i s.length=true:=Nat.ble_eq_true_of_le h;rw[qX h,hb];simp;rw[show Utf8.decode (⟨s.toArray⟩:ByteArray) i=fh s i from rfl]
   rw[zd5 s f];simp
  ·have hb:Nat.blt i s.length=false:=by
    cases hq:Nat.blt i s.length
    ·rfl
    ·exact absurd (Nat.le_of_ble_eq_true hq) h
   rw[qW h,hb];simp
def q1w(s:List UInt8):∀(f i:Nat),(qb5 s f i).length<=f
 |0,_=>wF _|f+1,i=>by
  unfold qb5;cases Nat.blt i s.length
  ·simp
  ·simp;have:=q1w s f (i+(fh s i).2);omega
def q9j(G:Gh):∀(l:List Int),am (List.flatMap (β:=AV) (Ty.int .i32).enc l) G (l.map (Value.int .i32))
 |[]=>trivial|_::l=>⟨rfl,q9j G l⟩
section
variable{P:Program}{z5m:World}{z5g:Gh}{z5j:List (Nat×ag)}{G:Gh}{s:St}{a:Act}{w:World}
def zt0(w:World)(o:Obj):db w (w.drew.alloc o):=⟨rfl,rfl,rfl,oC,fun k hk _=>Below.heap_alloc w.drew _ k hk⟩
def z48{τ:Ty}{z:τ.den}{x:AV}{G G':Gh}{v:Value}(h:uu τ x=true)(hz:τ.zero1=some z)(hr:aj x G v)(n:Nat):am ((List.replicate n z).flatMap τ.enc) G' (List.replicate n v):=by
 induction n with
 |zero=>trivial|succ n ih=>
  rw[List.replicate_succ,List.replicate_succ,List.flatMap_cons];exact rn (vs:=[v]) (zh7 h hz hr) ih
def zpy{R:Type}(hr:ai z5m z5g z5j G s a w){o:Oper}{K:St->Option R}{r:Option R}{x:R}(h:q0e P s o K=some r)(hx:r=some x){N:Act->World->Prop}(hN:∀s',K s'=some x->∀G' a' w',ai z5m z5g z5j G' s' a' w'->N a' w'):fe P o a w N:=by
 obtain⟨dst,op,ty,pos,after,guard⟩:=o;unfold q0e at h;split at h
 ·rename_i T y1 y2 t e1 e2;simp only at e1 e2;subst e1 e2;split at h
  ·rename_i E hu;split at h
   ·rename_i τ z0 kn n km m hτ hz0 hs1 hn hm;split at h
    ·rename_i z hz;cases hb:uu τ z0&&oq P E&&bh (s.nx+32*t) s.hp&&Nat.blt t s.n<;>rw[hb]at h<;>simp only[qT,qF,reduceCtorEq,qI]at h
     simp only[qA]at hb;subst h;cases hd:decide (0<=n/\n=m/\n<=4294967296)<;>rw[hd]at hx<;>simp only[qT,qF,reduceCtorEq]at hx
     obtain⟨h0,rfl,h2⟩:=of_decide_eq_true hd;have en:a.eval y1 = .int kn n:=jq hr hn;have em:a.eval y2 = .int km n:=jq hr hm;obtain⟨i,zv,hi,hzv,q1,_,q3,q4,q5⟩:=qsc hb.1.1.2 hs1;unfold zq at hz0;rw[hi]at hz0;simp only[hzv,qI]at hz0;obtain⟨v,hv,hzo⟩:∃v,zv.cells.toList=[v]/\z0=nh v:=by
      cases hq:zv.cells.toList with
      |nil=>rw[hq]at hz0;cases hz0
      |cons v l=>rw[hq]at hz0;cases l with|nil=>simp only[qfk,List.cons.injEq,and_true]at hz0;exact⟨v,rfl,hz0.symm⟩|cons _ _=>simp[qfk]at hz0
     have hvc:zv.cells=#[v]:=by rw[← Array.toArray_toList (xs:=zv.cells),hv]
     have hv1:v.oneCell'=true:=q4 v (by rw[hv];exact List.mem_singleton.2 rfl)
     have hbytes:(i.bytes:Int)*n<=281474976710656:=by
      have:(i.bytes:Int)*n<=32768*4294967296:=Int.mul_le_mul oA h2 h0 oA
      omega
     have hr1:=run_make (P:=P) w T E i zv hu hi hzv kn km n n h0 (Int.le_refl _) hbytes oA
     have hmc:madeCells zv.cells (n.toNat*i.size)=Array.replicate n.toNat v:=by
      rw[q5,Nat.mul_one,hvc];apply Array.ext
      ·simp[madeCells]
      ·intro j h1 h2;simp[madeCells,Nat.mod_one]
     rw[hmc]at hr1;have hsz:τ.sz=1:=qe9 (q4o hz);have hz0v:aj z0 G v:=by rw[hzo];exact qqu G v
     have ac:(List.replicate n.toNat z).length=n.toNat:=List.length_replicate;obtain⟨G',hG⟩:=qk9 (τ:=τ) (l:=List.replicate n.toNat z) (E:=E) (ad:=some ⟨w.heap.size,0,none⟩) (c:=n.toNat) (us:=List.replicate n.toNat v) (w':=w.alloc (.cells (Array.replicate n.toNat v) E)) hr hb.1.2 (qld _ _)
      ⟨by rw[ac,hsz];simp,.inr ⟨w.heap.size,Array.replicate n.toNat v,(0,0),rfl,qy _ _,.inl rfl,by rw[ac];exact wF _,by simp only[maxLen];omega,by simp[hsz],by rw[ac,hsz];simp,fun u hu=>by
       rw[Array.toList_replicate]at hu;rw[(List.mem_replicate.1 hu).2];exact hv1⟩⟩ (z48 hb.1.1.1 hz hz0v _) (fun b hb=>by injection hb with hb;simp at hb;omega)
      (s':={ s with fr:=(t,.own (s.nx+32*t))::s.fr,hp:=(s.nx+32*t,.row τ (List.replicate n.toNat z) E)::s.hp }) oV
     refine eq oC ?_
     unfold Oper.wp;rw[show(execOp a.eval ⟨some t,.makeSlice T y1 y2,ty,pos,after,guard⟩).run P w = .ok (.value (.slice (some ⟨w.heap.size,0,none⟩) n.toNat n.toNat)) (w.alloc (.cells (Array.replicate n.toNat v) E)) by simp[execOp,en,em,hr1]]
     rw[ac]at hG;exact hN _ hx _ _ _ hG
    ·cases h
   ·cases h
  ·cases h
 ·rename_i src dst y t e1 e2;simp only at e1 e2;subst e1 e2;split at h
  ·rename_i E hs hd;split at h
   ·rename_i b he hy;cases hb:bh (s.nx+32*t) s.hp&&Nat.blt t s.n<;>rw[hb]at h<;>simp only[qT,qF,reduceCtorEq,qI]at h
    simp only[qA]at hb;subst h;cases hdd:decide (b.length<=4294967296)<;>rw[hdd]at hx<;>simp only[qT,qF,reduceCtorEq]at hx
    have hbl:=of_decide_eq_true hdd;have hev:a.eval y = .string ⟨b.toArray⟩:=bn hr hy;have hrf:Conv.runesFrom (⟨b.toArray⟩:ByteArray) (⟨b.toArray⟩:ByteArray).size 0 #[]=((gc b).map (Value.int .i32)).toArray:=by
     rw[zd5,kj];simp[gc]
    have hlr:(gc b).length<=b.length:=q1w b _ _;have hrun:=run_runes_of_string (P:=P) w src dst E (⟨b.toArray⟩:ByteArray) hs hd he (by rw[hrf];simp;omega)
    rw[hrf]at hrun;simp only[List.size_toArray,wC]at hrun;have hcap:(gc b).length<=grownCap w (gc b).length 0 E:=grownCap_ge _ _ _ _;have hcap2:grownCap w (gc b).length 0 E<=maxLen:=grownCap_le_maxLen _ _ _ _ (by simp only[maxLen];omega)
    obtain⟨G',hG⟩:=qk9 (τ := .int .i32) (l:=gc b) (E:=E) (ad:=some ⟨w.heap.size,0,none⟩) (c:=grownCap w (gc b).length 0 E) (us:=(gc b).map (Value.int .i32)) (w':=w.drew.alloc (.cells (((gc b).map (Value.int .i32)).toArray++Array.replicate (grownCap w (gc b).length 0 E-(gc b).length) (.int .i32 0)) E)) hr hb.1 (zt0 _ _)
     ⟨by rw[wC];exact(Nat.mul_one _).symm,.inr ⟨w.heap.size,_,(0,0),rfl,qy w.drew _,.inl rfl,hcap,hcap2,by rw[show(Ty.int IntKind.i32).sz=1 from rfl,Nat.mul_one,Array.size_append,Array.size_replicate,List.size_toArray,wC];omega,by rw[show(Ty.int IntKind.i32).sz=1 from rfl,Nat.mul_one,Array.toList_append,show List.length (α:=(Ty.int IntKind.i32).den) (gc b)=((gc b).map (Value.int .i32)).length from(wC _).symm];exact List.take_left' rfl,fun u hu=>by
      simp only[Array.toList_append,wA,List.mem_map,Array.toList_replicate,List.mem_replicate]at hu;rcases hu with⟨c,_,rfl⟩|⟨_,rfl⟩<;>rfl⟩⟩ (q9j _ _) (fun b hb=>by injection hb with hb;simp at hb;omega)
     (s':={ s with fr:=(t,.own (s.nx+32*t))::s.fr,hp:=(s.nx+32*t,.row (.int .i32) (gc b) E)::s.hp }) oV
    refine eq oC ?_
    unfold Oper.wp;rw[show(execOp a.eval ⟨some t,.convert src dst y,ty,pos,after,guard⟩).run P w = .ok (.value (.slice (some ⟨w.heap.size,0,none⟩) (gc b).length (grownCap w (gc b).length 0 E))) (w.drew.alloc (.cells (((gc b).map (Value.int .i32)).toArray++Array.replicate (grownCap w (gc b).length 0 E-(gc b).length) (.int .i32 0)) E)) by simp[execOp,hev,hrun]]
    exact hN _ hx _ _ _ hG
   ·cases h
  ·rename_i E hs hd;split at h
   ·rename_i v he hy;split at h
    ·rename_i l hl;cases ht:Nat.blt t s.n<;>rw[ht]at h<;>simp only[qT,qF,reduceCtorEq,qI]at h
     subst h;have hsrc:=zd6 hl;have hrun:(convert src dst (a.eval y)).run P w = .ok (.string ⟨(jb l).toArray⟩) w:=by
      rcases qrc hr (bn hr hy) hsrc with⟨b',rfl,_⟩|⟨ad,c,us,he1,h1,h2,h3⟩
      ·simp[qlb]at hl
      ·rw[he1];have hus:=q1o h1
       cases ad with
       |none=>
        have:l=[]:=by
         rcases h3 with h3|⟨_,_,h3,_⟩
         ·rw[hus]at h3;simpa using h3
         ·cases h3
        subst this;rw[run_convert_runes_nil w src dst E _ c hs he hd];rfl
       |some ad=>
        have hlc:=qla (P:=P) (w:=w) (ad:=ad) h3;have ac:us.length=l.length:=by rw[hus];simp
        rw[ac,hus]at hlc;rw[run_convert_runes_string w src dst E _ _ _ hs he hd,run_runesToString w ad l.length c l hlc,zd4]
     refine eq oC ?_
     unfold Oper.wp;rw[show(execOp a.eval ⟨some t,.convert src dst y,ty,pos,after,guard⟩).run P w = .ok (.value (.string ⟨(jb l).toArray⟩)) w by simp[execOp,hrun]]
     exact hN _ hx _ _ _ (gn (v := .str (jb l)) hr (by simp only[St.add,ht,qT,List.nil_append]) rfl)
    ·cases h
   ·cases h
  ·cases h
 ·rename_i T y lo hi mx t e1 e2;simp only at e1 e2;subst e1 e2;split at h
  ·rename_i E hu;split at h
   ·rename_i sz lo' kb b kc c τ l hsz hlo hhi hmx hy;cases hb:Nat.beq τ.sz sz&&Nat.blt t s.n<;>rw[hb]at h<;>simp only[qT,qF,reduceCtorEq,qI]at h
    simp only[qA]at hb;subst h;cases hdd:decide (0<=lo'.getD 0/\lo'.getD 0<=b/\b<=c/\c<=(l.length:Int))<;>rw[hdd]at hx<;>simp only[qT,qF,reduceCtorEq]at hx
    obtain⟨g0,g1,g2,g3⟩:=of_decide_eq_true hdd;have hq:=qN hb.1;subst hq;obtain⟨ad,cp,hv,hc,hl⟩:=bn hr hy;have eb:a.eval hi = .int kb b:=jq hr hhi;have ec:a.eval mx = .int kc c:=jq hr hmx;have hbounds:(Instr.sliceBounds true l.length cp (lo.map a.eval) (some (a.eval hi)) (some (a.eval mx))).run P w = .ok ((lo'.getD 0).toNat,b.toNat,c.toNat) w:=by
     rcases qt hr hlo with⟨rfl,rfl⟩|⟨xo,kx,m,rfl,rfl,hxo⟩
     ·simp[Instr.sliceBounds,eb,ec,rq (P:=P) (w:=w) (show 0<=c by omega) (show c<=(cp:Int) by omega),rq (P:=P) (w:=w) (show 0<=b by omega) (show b<=(c.toNat:Int) by omega)]
     ·simp only[Option.getD_some]at g0 g1;simp[Instr.sliceBounds,eb,ec,hxo,rq (P:=P) (w:=w) (show 0<=c by omega) (show c<=(cp:Int) by omega),rq (P:=P) (w:=w) (show 0<=b by omega) (show b<=(c.toNat:Int) by omega),rq (P:=P) (w:=w) g0 (show m<=(b.toNat:Int) by omega)]
    generalize lo'.getD 0=i0 at *
    have hrun:(Instr.sliceAt T (a.eval y) (lo.map a.eval) (some (a.eval hi)) (some (a.eval mx))).run P w = .ok (.slice (if c.toNat=i0.toNat then ad else ad.map (·.add (i0.toNat*τ.sz))) (b.toNat-i0.toNat) (c.toNat-i0.toNat)) w:=by
     simp[Instr.sliceAt,Instr.slice,bm hu,hv,hbounds,gv hsz]
    refine eq oC ?_
    unfold Oper.wp
    rw[show(execOp a.eval ⟨some t,.slice T y lo (some hi) (some mx),ty,pos,after,guard⟩).run P w = .ok (.value (.slice (if c.toNat=i0.toNat then ad else ad.map (·.add (i0.toNat*τ.sz))) (b.toNat-i0.toNat) (c.toNat-i0.toNat))) w by simp[execOp,hrun]]
    refine hN _ hx _ _ _ (gn (v := .sl τ ((l.drop i0.toNat).take (b.toNat-i0.toNat))) hr (by simp[St.add,hb.2,qT,List.nil_append]) ?_)
    have ac:((l.drop i0.toNat).take (b.toNat-i0.toNat)).length=b.toNat-i0.toNat:=by simp;omega
    refine⟨_,_,by rw[ac],by rw[ac];omega,?_⟩
    rcases hl with rfl|⟨B,o,rfl,hcells⟩
    ·exact .inl oC
    ·by_cases hci:c.toNat=i0.toNat
     ·exact .inl (List.eq_nil_of_length_eq_zero (by rw[ac];omega))
     ·refine .inr ⟨B,o+i0.toNat*τ.sz,by rw[qW hci];simp[mr],fun k y hy => ?_⟩
      rw[List.getElem?_take]at hy;split at hy
      ·rw[List.getElem?_drop]at hy;have:=hcells _ _ hy
       rwa [show o+i0.toNat*τ.sz+k*τ.sz=o+(i0.toNat+k)*τ.sz by rw[Nat.add_mul];omega]
      ·cases hy
   ·cases h
  ·cases h
 ·cases h
end
def zea(P:Program)(T:TypeId):Bool:=match P.underlying T with
 |some (.struct fs)=>match fs.toList with
  |[f,g]=>match P.underlying f.type,P.underlying g.type with|some (.pointer T'),some (.slice _)=>Nat.beq T' T|_,_=>false
  |_=>false
 |_=>false
def qp6:AV->Bool|.val (.pointer none)=>true|_=>false
def zcb(n:Nat):List AV->List AV|[]=>[]|x::cs=>(bif qp6 x then .pn n else x)::cs
def q1x(P:Program)(s:St)(o:Oper):Option St:=
 match o.op,o.dst with
 | .alloc T,some t=>bif zea P T then(match qk P s .none o with
  |some ([],s1)=>match ae s1.hp (s.nx+32*t) with|some (.cells cs T')=>some { s1 with hp:=(s.nx+32*t,.cells (zcb (s.nx+32*t) cs) T')::s1.hp }|_=>none
  | _=>none) else none
 |_,_=>none
section
variable{P:Program}{z5m:World}{z5g:Gh}{z5j:List (Nat×ag)}{G:Gh}{s:St}{a:Act}{w:World}
def ai.rebox{n:Nat}{bx bx':ag}(hr:ai z5m z5g z5j G s a w)(h:ae s.hp n=some bx)(hat:G.at n bx'=G.at n bx)(hok:cm G w n bx') :
  ai z5m z5g z5j G { s with hp:=(n,bx')::s.hp } a w:=by
 have key:∀m b,ae ((n,bx')::s.hp) m=some b->(m=n/\b=bx')\/ae s.hp m=some b:=fun m b hh=>by
  simp[ae]at hh;cases hb:Nat.beq n m
  ·rw[hb]at hh;exact .inr hh
  ·rw[hb]at hh;simp at hh;exact .inl ⟨(qN hb).symm,hh.symm⟩
 have old:∀m b,ae ((n,bx')::s.hp) m=some b->∃b0,ae s.hp m=some b0/\G.at m b0=G.at m b:=fun m b hh=>by
  rcases key m b hh with⟨rfl,rfl⟩|h1
  ·exact⟨bx,h,hat.symm⟩
  ·exact⟨b,h1,rfl⟩
 refine⟨hr.defers,hr.size,hr.frame,fun m hm hl=>hr.fresh m hm ?_,⟨⟨hr.fin.mem.agree,hr.fin.mem.one,fun m b hh => ?_,fun m m' b b' c h1 h2 h3 h4 => ?_,hr.fin.mem.tab⟩,hr.fin.bel,hr.fin.imm_le,hr.fin.imm_new,fun m b c h1 h2 => ?_,hr.fin.keep,hr.fin.keepOwn⟩⟩
 ·simp[ae]at hl;cases hb:Nat.beq n m
  ·rw[hb]at hl;exact hl
  ·rw[hb]at hl;cases hl
 ·rcases key m b hh with⟨rfl,rfl⟩|h1
  ·exact hok
  ·exact hr.fin.mem.holds m b h1
 ·obtain⟨c1,k1,e1⟩:=old m b h1;obtain⟨c2,k2,e2⟩:=old m' b' h2;exact hr.fin.mem.apart m m' c1 c2 c k1 k2 (e1.trans h3) (e2.trans h4)
 ·obtain⟨c1,k1,e1⟩:=old m b h1;exact hr.fin.base m c1 c k1 (e1.trans h2)
def zov{x:AV}(h:qp6 x=true):x = .val (.pointer none):=by
 unfold qp6 at h;split at h
 ·rfl
 ·cases h
def zso{n B:Nat}(hB:G.box n=some B):∀{cs:List AV}{vs:List Value},am cs G vs->am (zcb n cs) G vs
 |[],[],_=>trivial|x::cs,v::vs,⟨h1,h2⟩=>by
  refine⟨?_,h2⟩;cases hb:qp6 x
  ·exact h1
  ·have:=zov hb;subst this;exact⟨B,hB,.inl h1⟩
 |[],_::_,h=>h.elim|_::_,[],h=>h.elim
def ztd(hr:ai z5m z5g z5j G s a w){o:Oper}{s':St}(h:q1x P s o=some s'){N:Act->World->Prop}(hN:∀G' a' w',ai z5m z5g z5j G' s' a' w'->N a' w'):fe P o a w N:=by
 unfold q1x at h;split at h
 ·rename_i T t _ _;cases hs:zea P T<;>rw[hs]at h<;>simp at h
  split at h
  ·rename_i s1 ha;split at h
   ·rename_i cs T' hl;simp at h;subst h;refine qoj hr ha trivial fun G' a' w' hr'=>hN G' a' w' ?_
    obtain⟨B,vs,h1,h2,h3,h4,h5⟩:=hr'.fin.mem.holds _ _ hl;exact hr'.rebox hl rfl ⟨B,vs,h1,h2,zso h1 h3,h4,h5⟩
   ·cases h
  ·cases h
 ·cases h
end
def qzs:Operand->Bool|.const .nilIface=>true|_=>false
def qzt:Operand->Bool|.const (.pointer none)=>true|_=>false
def qo3(P:Program)(s:St)(t:TypeId)(x y:Operand):Option Bool:=
 match P.underlying t with
 | some (.interface _)=>bif qzs y then(match s.ev x with
  |some (.val .nilIface)=>some true|some (.iface _ _)=>some false| _=>none) else none
 | some (.pointer _)=>bif qzt y then(match s.ev x with
  |some (.val (.pointer none))=>some true|some (.ptr _ _)=>some false| _=>none) else none
 |_=>none
def zav(P:Program)(T:TypeId):Bool:=match P.underlying T with
 |some (.array _ E)=>match P.underlying E with|some .string=>true|some (.struct _)=>true|_=>false
 |_=>false
def qye(P:Program)(s:St)(o:Oper):Option St:=
 match o.op,o.dst with
 | .binOp op t x y _,some tt=>bif Nat.blt tt s.n then(match op with
  |.eql=>match qo3 P s t x y with|some b=>some { s with fr:=(tt,.val (.bool b))::s.fr }|none=>none
  |.neq=>match qo3 P s t x y with|some b=>some { s with fr:=(tt,.val (.bool (!b)))::s.fr }|none=>none
  | _=>none) else none
 | .store T (.tmp t) _,none=>bif zav P T&&Nat.blt t s.n then(match ae s.fr t with
  |some (.ptr b 0)=>match qk P s .none o with
   |some ([],s1)=>match ae s1.hp b,ae s1.fr t with|some (.cells cs _),some (.ptr b' 0)=>bif Nat.beq b' b&&Nat.blt t s1.n then(bif allData (cs.map AV.sym) then some { s1 with fr:=(t,.rop (cs.map AV.sym))::s1.fr,hp:=(b,.dead)::s1.hp } else none) else none|_,_=>none
   |_=>none
  | _=>none) else none
 |_,_=>none
section
variable{P:Program}{z5m:World}{z5g:Gh}{z5j:List (Nat×ag)}{G:Gh}{s:St}{a:Act}{w:World}
def ai.ropBox(hr:ai z5m z5g z5j G s a w){b t:Nat}{cs:List AV}{T:TypeId}(hb:ae s.hp b=some (.cells cs T))(hd:allData (cs.map AV.sym)=true)(ht:ae s.fr t=some (.ptr b 0)) :
  ∃G',ai z5m z5g z5j G' { s with fr:=(t,.rop (cs.map AV.sym))::s.fr,hp:=(b,.dead)::s.hp } a w:=by
 obtain⟨B,vs,h1,h2,h3,h4,h5⟩:=hr.fin.mem.holds _ _ hb
 let G':Gh:={ imm:=fun c o=>if c=B then vs[o]? else G.imm c o,box:=G.box,own:=G.own }
 have hi:∀c o v,G.imm c o=some v->G'.imm c o=some v:=fun c o v h=>by
  show(if c=B then vs[o]? else G.imm c o)=some v
  split
  ·rename_i e;subst e;rw[h5]at h;cases h
  ·exact h
 have hB:∀o,G'.imm B o=vs[o]? := fun o=>qX rfl
 have hne:∀c,c≠B->∀o,G'.imm c o=G.imm c o:=fun c h o=>qW h
 have hle:G.le G':=⟨hi,fun _ _ h=>h,fun _ _ h=>h⟩
 have hat:∀n bx,G'.at n bx=G.at n bx:=fun n bx=>by cases bx<;>rfl
 have hatB:G.at b (.cells cs T)=some B:=h1;have hlook:∀n bx,ae ((b,ag.dead)::s.hp) n=some bx->bx = .dead\/(n≠b/\ae s.hp n=some bx):=fun n bx h=>by
  simp[ae]at h;cases hq:Nat.beq b n
  ·rw[hq]at h;exact .inr ⟨fun e=>by subst e;simp at hq,h⟩
  ·rw[hq]at h;simp at h;exact .inl h.symm
 have hother:∀n bx c,n≠b->ae s.hp n=some bx->G.at n bx=some c->(∀o,G.imm c o=none)->∀o,G'.imm c o=none:=fun n bx c hn k1 k2 k3 o=>by
  by_cases e:c=B
  ·subst e;exact absurd (hr.fin.mem.apart n b bx _ _ k1 hb k2 hatB) hn
  ·rw[hne c e];exact k3 o
 have hcell:∀o v,vs[o]? = some v->w.cell? ⟨B,o,none⟩=some v:=fun o v h=>cell_of_heap h2 (by simpa using h)
 refine⟨G',⟨hr.defers,hr.size,fun i x hx => ?_,fun m hm hl => ?_,⟨⟨fun c o v h => ?_,fun c o v h => ?_,fun n bx hn => ?_,fun n m bx bx' c k1 k2 k3 k4 => ?_,LC.mono hi (fun _ _ _ _=>rfl) hr.fin.mem.tab⟩,hr.fin.bel,fun c o v h=>hi _ _ _ (hr.fin.imm_le c o v h),fun c o v h => ?_,fun n bx c k1 k2 => ?_,hr.fin.keep,hr.fin.keepOwn⟩⟩⟩
 ·simp[ae]at hx;cases hq:Nat.beq t i
  ·rw[hq]at hx;obtain⟨v,k1,k2⟩:=hr.frame i x hx;exact⟨v,k1,k2.le hle⟩
  ·rw[hq]at hx;simp at hx;subst hx;have:=qN hq;subst this;obtain⟨v,k1,B',k2,k3⟩:=hr.frame t _ ht;rw[h1]at k2;injection k2 with k2;subst k2
   refine⟨v,k1,B,0,k3,q1f hi (q1k hd (qqv h3)) fun i u hu => ?_⟩
   rw[wO,hB];simpa using hu
 ·refine hr.fresh m hm ?_;simp[ae]at hl;cases hq:Nat.beq b m
  ·rw[hq]at hl;exact hl
  ·rw[hq]at hl;cases hl
 ·by_cases e:c=B
  ·subst e;rw[hB]at h;exact hcell o v h
  ·rw[hne c e]at h;exact hr.fin.mem.agree c o v h
 ·by_cases e:c=B
  ·subst e;rw[hB]at h;exact h4 v (by obtain⟨k,e⟩:=Array.getElem?_eq_some_iff.1 h;rw[← e];simp)
  ·rw[hne c e]at h;exact hr.fin.mem.one c o v h
 ·rcases hlook n bx hn with rfl|⟨hnb,k0⟩
  ·trivial
  ·have hb0:=hr.fin.mem.holds n bx k0;have ho:=hother n bx
   cases bx with
   |cells cs T=>
    obtain⟨C,vs,q1,q2,q3,q4,q5⟩:=hb0;exact⟨C,vs,q1,q2,q3.le hle,q4,ho C hnb k0 (by simp[Gh.at,q1]) q5⟩
   |loop st pe f j fr ps tag D=>
    obtain⟨C,tmps,DB,q1,q2,q3,q4,q5,q6⟩:=hb0;exact⟨C,tmps,DB,q1,q2,q3,q4,fun i x hx=>by obtain⟨v,r1,r2⟩:=q5 i x hx;exact⟨v,r1,r2.le hle⟩,ho C hnb k0 (by simp[Gh.at,q1]) q6⟩
   |dfr=>
    obtain⟨C,q1,q2,q3⟩:=hb0;exact⟨C,q1,q2,ho C hnb k0 (by simp[Gh.at,q1]) q3⟩
   |it s0 p0=>
    obtain⟨C,q1,q2,q3⟩:=hb0;exact⟨C,q1,q2,ho C hnb k0 (by simp[Gh.at,q1]) q3⟩
   |row τ1 l1 E1=>
    obtain⟨ad,c,q1,q3⟩:=hb0;refine⟨ad,c,q1,?_⟩;rcases q3 with q3|⟨g,vs,fz,r1,r2,r3,r4,r5,r6,r7,r8,r9⟩
    ·exact .inl q3
    ·exact .inr ⟨g,vs,fz,r1,r2,r3,r4,r5,r6,am.data_le hi r7,r8,ho g hnb k0 (by subst r1;simp[Gh.at,q1]) r9⟩
   |dead=>trivial
 ·rcases hlook n bx k1 with rfl|⟨hn,j1⟩
  ·cases k3
  ·rcases hlook m bx' k2 with rfl|⟨hm,j2⟩
   ·cases k4
   ·rw[hat]at k3 k4;exact hr.fin.mem.apart n m bx bx' c j1 j2 k3 k4
 ·by_cases e:c=B
  ·subst e;exact .inr (hr.fin.base b _ _ hb hatB)
  ·rw[hne c e]at h;exact hr.fin.imm_new c o v h
 ·rcases hlook n bx k1 with rfl|⟨hn,j1⟩
  ·cases k2
  ·rw[hat]at k2;exact hr.fin.base n bx c j1 k2
def q8s{t:TypeId}{x y:Operand}{p:String}{b:Bool}(hx:∀v,s.ev x=some v->aj v G (a.eval x))(h:qo3 P s t x y=some b) :
  (∀q:Unit,(do eqGuard .eql t x y (a.eval x) (a.eval y);binOp .eql t (a.eval x) (a.eval y):Sem Value).run P w = .ok (.bool b) w) /\
  (do eqGuard .neq t x y (a.eval x) (a.eval y);binOp .neq t (a.eval x) (a.eval y):Sem Value).run P w = .ok (.bool (!b)) w:=by
 unfold qo3 at h;split at h
 ·rename_i ms hu;cases hy:qzs y<;>rw[hy]at h<;>simp at h
  have hy:y = .const .nilIface:=by
   unfold qzs at hy;split at hy
   ·rfl
   ·cases hy
  subst hy;have hye:a.eval (.const .nilIface) = .nilIface:=rfl;have q1:∀d,(Op.equalIn (d+1) t .nilIface .nilIface).run P w = .ok true w:=fun d=>by simp[Op.equalIn,bm hu]
  have q2:∀d t' v,(Op.equalIn (d+1) t (.iface t' v) .nilIface).run P w = .ok false w:=fun d t' v=>by simp[Op.equalIn,bm hu]
  have eq1:(Op.equal t .nilIface .nilIface).run P w = .ok true w:=q1 9999;have eq2:∀t' v,(Op.equal t (.iface t' v) .nilIface).run P w = .ok false w:=q2 9999;split at h
  ·rename_i e;simp at h;subst h;have:=hx _ e;simp[aj]at this;rw[this,hye];constructor<;>simp[eqGuard,binOp,eq1]
  ·rename_i e;simp at h;subst h;obtain⟨u,hu2,_⟩:=hx _ e;rw[hu2,hye];constructor<;>simp[eqGuard,binOp,eq2]
  ·cases h
 ·rename_i ms hu;cases hy:qzt y<;>rw[hy]at h<;>simp at h
  have hy:y = .const (.pointer none):=by
   unfold qzt at hy;split at hy
   ·rfl
   ·cases hy
  subst hy;have hye:a.eval (.const (.pointer none)) = .pointer none:=rfl;have q1:∀d,(Op.equalIn (d+1) t (.pointer none) (.pointer none)).run P w = .ok true w:=fun d=>by simp[Op.equalIn,bm hu]
  have q2:∀d c,(Op.equalIn (d+1) t (.pointer (some c)) (.pointer none)).run P w = .ok false w:=fun d c=>by simp[Op.equalIn,bm hu]
  have eq1:(Op.equal t (.pointer none) (.pointer none)).run P w = .ok true w:=q1 9999;have eq2:∀c,(Op.equal t (.pointer (some c)) (.pointer none)).run P w = .ok false w:=q2 9999;split at h
  ·rename_i e;simp at h;subst h;have:=hx _ e;simp[aj]at this;rw[this,hye];constructor<;>simp[eqGuard,binOp,eq1]
  ·rename_i e;simp at h;subst h;obtain⟨B,_,hu2⟩:=hx _ e;rw[hu2,hye];constructor<;>simp[eqGuard,binOp,eq2]
  ·cases h
 ·cases h
def zl6(hr:ai z5m z5g z5j G s a w){o:Oper}{s':St}(h:qye P s o=some s'){N:Act->World->Prop}(hN:∀G' a' w',ai z5m z5g z5j G' s' a' w'->N a' w'):fe P o a w N:=by
 obtain⟨dst,op,ty,pos,after,guard⟩:=o;unfold qye at h;split at h
 ·rename_i op t x y p tt e1 e2;simp only at e1 e2;subst e1 e2;cases hb:Nat.blt tt s.n<;>rw[hb]at h<;>simp only[qT,qF,reduceCtorEq]at h
  have go:∀(q:Bool),(do eqGuard op t x y (a.eval x) (a.eval y);binOp op t (a.eval x) (a.eval y):Sem Value).run P w = .ok (.bool q) w->s'={ s with fr:=(tt,.val (.bool q))::s.fr }->fe P ⟨some tt,.binOp op t x y p,ty,pos,after,guard⟩ a w N:=by
   intro q hq hs';subst hs';refine eq oC ?_
   unfold Oper.wp;have hrun:(execOp a.eval ⟨some tt,.binOp op t x y p,ty,pos,after,guard⟩).run P w = .ok (.value (.bool q)) w:=by
    simp only[execOp,Sem.run_bind,hq,Result.andThen_ok];rfl
   rw[hrun];exact hN G _ _ (gn (v := .val (.bool q)) hr (by simp[St.add,hb,qT,List.nil_append]) rfl)
  split at h
  ·split at h
   ·rename_i b hc;simp at h;exact go b ((q8s (p := "") (fun v hv => bn hr hv) hc).1 ()) h.symm
   ·cases h
  ·split at h
   ·rename_i b hc;simp at h;exact go (!b) (q8s (p := "") (fun v hv => bn hr hv) hc).2 h.symm
   ·cases h
  ·cases h
 ·rename_i T t y e1 e2;simp only at e1 e2;subst e1 e2;cases hb:zav P T&&Nat.blt t s.n<;>rw[hb]at h<;>simp at h
  split at h
  ·rename_i b _;split at h
   ·rename_i s1 ha;split at h
    ·rename_i cs T' b' hl ht;cases hq:Nat.beq b' b&&Nat.blt t s1.n<;>rw[hq]at h<;>simp at h
     simp only[qA]at hq;have:=qN hq.1;subst this;cases hs:allData (cs.map AV.sym)<;>rw[hs]at h<;>simp at h
     subst h;refine qoj hr ha trivial fun G' a' w' hr' => ?_
     obtain⟨G2,hr2⟩:=hr'.ropBox hl hs ht;exact hN _ _ _ hr2
    ·cases h
   ·cases h
  ·cases h
 ·cases h
end
end Go.Sym
namespace Go.Sym
open Go.RowKit
variable{TT:List PanicEntry->Act->World->Prop}[LC]
structure Md:Type where
 f:List (Nat×AV)
 h:List (Nat×ag)
def St.addM(s:St)(m:Md):St:={ s with fr:=m.f++s.fr,hp:=m.h++s.hp }
def qkc(K:List Nat):List (Nat×ag)->List (Nat×ag)|[]=>[]|(n,b)::r=>bif bq K n then qkc K r else(n,b)::qkc K r
def St.hide(s:St)(K:List Nat):St:={ s with hp:=qkc K s.hp }
def qz7{K:List Nat}:∀{l:List (Nat×ag)}{n:Nat}{b:ag},ae (qkc K l) n=some b->ae l n=some b/\n∉K
 |[],n,b,h=>by cases h
 |(k,v)::r,n,b,h=>by
  simp[qkc]at h;cases hm:bq K k<;>rw[hm]at h<;>simp at h
  ·simp[ae]at h ⊢;cases hb:Nat.beq k n<;>rw[hb]at h<;>simp at h ⊢
   ·exact qz7 h
   ·refine⟨h,fun hn => ?_⟩
    rw[← qN hb]at hn;rw[fc.2 hn]at hm;cases hm
  ·obtain⟨h1,h2⟩:=qz7 h;refine⟨?_,h2⟩;simp[ae];cases hb:Nat.beq k n
   ·exact h1
   ·exfalso;apply h2;rw[← qN hb];exact fc.1 hm
def ww(s:St)(q:Prop)(ys:List AV)(names:List (Nat×Nat))(xs:List AV)(hp:List (Nat×ag))(r:AV)(hp':List (Nat×ag))(t:Nat):Option (List Prop×Md):=
 bif dn names&&o7 names&&bh (s.nx+32*t) s.hp&&Nat.blt t s.n then
  match gx (au names) s.hp names,bt false [] (AV.rens (au names) ys) xs with
  |some hpv,some ps1=>match jo hpv hp with|some ps2=>some (q::(ps1++ps2),⟨[(t,r.ren (mu names hp' (s.nx+32*t)))],mv (mu names hp' (s.nx+32*t)) hp'++ny names⟩)|none=>none
  |_,_=>none
 else none
def zbz{s:St}{q:Prop}{ys:List AV}{names:List (Nat×Nat)}{xs:List AV}{hp:List (Nat×ag)}{r:AV}{hp':List (Nat×ag)}{t:Nat}{ps:List Prop}{m:Md}(h:ww s q ys names xs hp r hp' t=some (ps,m)):rg s q ys names xs hp r hp' t=some (ps,s.addM m):=by
 unfold ww at h;unfold rg;cases hc:dn names&&o7 names&&bh (s.nx+32*t) s.hp&&Nat.blt t s.n<;>rw[hc]at h<;>simp only[qT,qF,reduceCtorEq]at h ⊢
 split at h
 ·rename_i hpv ps1 h1 h2;split at h
  ·rename_i ps2 h3;simp only[qI,qP]at h;obtain⟨rfl,rfl⟩:=h;rw[h1,h2];simp[h3,St.addM,wM,qS]
  ·cases h
 ·cases h
def q2g{ρ:Nat->Option Nat}{hp hp':List (Nat×ag)}(hhp:∀n b,ae hp n=some b->ae hp' n=some b):∀{l:List (Nat×Nat)}{r:List (Nat×ag)},gx ρ hp l=some r->gx ρ hp' l=some r
 |[],_,h=>h|(m,n)::l,r,h=>by
  simp[gx]at h ⊢;split at h
  ·rename_i b l' h1 h2;rw[hhp _ _ h1,q2g hhp h2];exact h
  ·cases h
def zb0{t s:St}{q:Prop}{ys:List AV}{names:List (Nat×Nat)}{xs:List AV}{hp:List (Nat×ag)}{r:AV}{hp':List (Nat×ag)}{tt:Nat}{R:List Prop×Md}(hhp:∀n b,ae t.hp n=some b->ae s.hp n=some b)(hroom:bh (s.nx+32*tt) s.hp=true)(hnx:t.nx=s.nx)(hn:t.n=s.n)
  (h:ww t q ys names xs hp r hp' tt=some R):ww s q ys names xs hp r hp' tt=some R:=by
 unfold ww at h ⊢;cases hc:dn names&&o7 names&&bh (t.nx+32*tt) t.hp&&Nat.blt tt t.n<;>rw[hc]at h<;>simp at h
 simp only[qA]at hc;rw[hroom,← hn,hc.1.1.1,hc.1.1.2,hc.2,← hnx];split at h
 ·rename_i hpv ps1 h1 h2;rw[q2g hhp h1,h2];exact h
 ·cases h
def qbn(P:Program)(t:St)(d:D)(o:Oper):Option (List Prop×Md):=
 match o.op,o.dst with
 |.store T x y,none=>match t.ev x,t.ev y,er P T with
  |some (.ptr b off),some v,some n=>match ae t.hp b with|some (.cells cs T')=>bif Nat.beq v.cells.length n&&AV.ones v.cells&&Nat.ble (off+n) cs.length then some ([],⟨[],[(b,.cells (fj cs off v.cells) T')]⟩) else none|_=>none
  |_,_,_=>none
 |.call { callee := .builtin .append,args,argTypes },some tt=>match args.toList,argTypes.toList with
  |[x,y],[ty,ty2]=>match t.ev x,t.ev y with
   |some (.own k),some v=>match ae t.hp k with
    |some (.row τ0 l0 E0)=>match ov P t d ty ty2 (l0.flatMap τ0.enc) l0.length v with|some (ps,.row τ l E)=>bif bh (t.nx+32*tt) t.hp&&Nat.beq τ.sz τ0.sz&&Nat.beq E E0&&Nat.blt tt t.n then some (ps,⟨[(tt,.own (t.nx+32*tt))],[(t.nx+32*tt,.row τ l E),(k,.dead)]⟩) else none|_=>none
    |_=>none
   |_,_=>none
  |_,_=>none
 |.call { callee := .value g,args,argTypes:=_ },some tt=>match t.ev g,t.evs args.toList,d with|some (.fn (.func f) fst cap),some ys,.mem names xs hp r hp'=>ww t (Plain P f/\ci P f xs hp r hp') ((fst++ys)++cap) names xs hp r hp' tt|_,_,_=>none
 |_,_=>none
def zb6{P:Program}{t:St}{d:D}{o:Oper}{ps:List Prop}{m:Md}(h:qbn P t d o=some (ps,m)):qk P t d o=some (ps,t.addM m):=by
 obtain⟨dst,op,ty,pos,after,guard⟩:=o;unfold qbn at h;split at h
 ·rename_i T x y ho hd;simp only at ho hd;subst ho hd;split at h
  ·rename_i b off v n hx hy hn;split at h
   ·rename_i cs T' hb;cases hc:Nat.beq v.cells.length n&&AV.ones v.cells&&Nat.ble (off+n) cs.length<;>rw[hc]at h<;>simp at h
    obtain⟨rfl,rfl⟩:=h;unfold qk;rw[show fb P t d ⟨none,.store T x y,ty,pos,after,guard⟩=none from rfl]
    simp[ql,hx,hy,hn,hb,hc,qT];rfl
   ·cases h
  ·cases h
 ·rename_i args argTypes tt ho hd;simp only at ho hd;subst ho hd;split at h
  ·rename_i x y t1 t2 ha ht;split at h
   ·rename_i k v hx hy;split at h
    ·rename_i τ0 l0 E0 hk;split at h
     ·rename_i ps' τ l E hap;cases hc:bh (t.nx+32*tt) t.hp&&Nat.beq τ.sz τ0.sz&&Nat.beq E E0&&Nat.blt tt t.n<;>rw[hc]at h<;>simp at h
      obtain⟨rfl,rfl⟩:=h;have hadd:fb P t d ⟨some tt,.call { callee := .builtin .append,args:=args,argTypes:=argTypes },ty,pos,after,guard⟩=none:=by
       simp[fb,cz,je,ha,ht,hx,hy]
      unfold qk;rw[hadd];simp[ql,ha,ht,hx,hy,hk,hap,hc,qT];rfl
     ·cases h
    ·cases h
   ·cases h
  ·cases h
 ·rename_i g args argTypes tt ho hd;simp only at ho hd;subst ho hd;split at h
  ·rename_i f fst cap ys names xs hp r hp' hg hys;have hadd:fb P t (.mem names xs hp r hp') ⟨some tt,.call { callee := .value g,args:=args,argTypes:=argTypes },ty,pos,after,guard⟩=none:=by
    simp[fb,cz,je,hg,hys]
   unfold qk;rw[hadd];simp[ql,hg,hys];rw[qS fst ys cap]at h;exact zbz h
  ·cases h
 ·cases h
def zp0{P:Program}{t st:St}{d:D}{o:Oper}{R:List Prop×Md}(hs:qi o t st)(hn:t.n=st.n)(h:qbn P t d o=some R):qbn P st d o=some R:=by
 obtain⟨dst,op,ty,pos,after,guard⟩:=o;have hev:=hs.ev;have hhp:=hs.hp;have hroom:=hs.room;have hnx:=hs.nx;simp only at hev hroom;unfold qbn at h ⊢;split at h
 ·rename_i T x y ho hd;simp only at ho hd;subst ho hd;rw[hev x oH,hev y oH]at h
  split at h
  ·rename_i b off v n hx hy hn;split at h
   ·rename_i cs T' hb;simp[hhp _ _ hb];exact h
   ·cases h
  ·cases h
 ·rename_i args argTypes tt ho hd;simp only at ho hd;subst ho hd;have hm:∀z∈args.toList,t.ev z=st.ev z:=fun z hz=>hev z (by simp[Op.operands,Call.operands];simpa using hz)
  split at h
  ·rename_i x y t1 t2 ha ht;rw[hm x (by rw[ha];simp),hm y (by rw[ha];simp)]at h
   split at h
   ·rename_i k v hx hy;split at h
    ·rename_i τ0 l0 E0 hk;simp[hhp _ _ hk];split at h
     ·rename_i ps' τ l E hap;simp[q66 hhp hap];cases hc:bh (t.nx+32*tt) t.hp&&Nat.beq τ.sz τ0.sz&&Nat.beq E E0&&Nat.blt tt t.n<;>rw[hc]at h<;>simp only[qT,qF,reduceCtorEq]at h
      simp only[qA]at hc;rw[hroom tt rfl,← hn,hc.1.1.2,hc.1.2,hc.2,← hnx];exact h
     ·cases h
    ·cases h
   ·cases h
  ·cases h
 ·rename_i g args argTypes tt ho hd;simp only at ho hd;subst ho hd;have h1:t.ev g=st.ev g:=hev g oS
  have h2:t.evs args.toList=st.evs args.toList:=qe3 (fun x hx=>hev x (by simp[Op.operands,Call.operands];exact .inr (by simpa using hx)))
  rw[h1,h2]at h;split at h
  ·exact zb0 hhp (hroom tt rfl) hnx hn h
  ·cases h
 ·cases h
def fg{β:Type}(A:Nat->List (Nat×β)):List Nat->List (Nat×β)->List (Nat×β)|[],b=>b|i::L,b=>A i++fg A L b
def qko{β:Type}(l r:List (Nat×β))(n:Nat):ae (l++r) n=match ae l n with|some b=>some b|none=>ae r n:=by
 induction l with
 |nil=>rfl|cons x l ih=>
  obtain⟨k,v⟩:=x;simp[wK,ae];cases Nat.beq k n<;>simp[ih]
def oa{β:Type}:∀{l:List (Nat×β)}{m:Nat},ae l m≠none->∃e∈l,e.1=m
 |[],m,h=>absurd rfl h|(k,v)::r,m,h=>by
  simp[ae]at h;cases hb:Nat.beq k m
  ·rw[hb]at h;obtain⟨e,h1,h2⟩:=oa h;exact⟨e,qE _ h1,h2⟩
  ·exact⟨(k,v),qH,qN hb⟩
def q8m{β:Type}(A:Nat->List (Nat×β)):∀(L M:List Nat)(b:List (Nat×β)),fg A (L++M) b=fg A L (fg A M b)|[],M,b=>rfl|i::L,M,b=>by simp[wK,fg,q8m A L M b]
def qek{β:Type}{A:Nat->List (Nat×β)}{x:Nat}{b:List (Nat×β)}:∀{L:List Nat},(∀j∈L,ae (A j) x=none)->ae (fg A L b) x=ae b x
 |[],_=>rfl|i::L,h=>by
  simp[fg];rw[qko,h i qH];exact qek (fun j hj=>h j (qE _ hj))
def zb2{β:Type}{A:Nat->List (Nat×β)}{b:List (Nat×β)}:∀{L:List Nat}{e:Nat×β},e∈fg A L b->(∃j∈L,e∈A j)\/e∈b
 |[],e,h => .inr h|i::L,e,h=>by
  rcases List.mem_append.1 h with h|h
  ·exact .inl ⟨i,qH,h⟩
  ·rcases zb2 h with⟨j,h1,h2⟩|h
   ·exact .inl ⟨j,qE _ h1,h2⟩
   ·exact .inr h
def mn(pr:Nat->List Nat):List Nat->Prop|[]=>True|i::L=>i∉L/\(∀j∈pr i,j∈L)/\mn pr L
def mn.closed{pr:Nat->List Nat}:∀{L:List Nat},mn pr L->∀i∈L,∀j∈pr i,j∈L
 |[],_,i,hi,_,_=>by cases hi
 |k::L,h,i,hi,j,hj=>by
  rcases List.mem_cons.1 hi with rfl|hi
  ·exact qE _ (h.2.1 j hj)
  ·exact qE _ (h.2.2.closed i hi j hj)
def qya{β:Type}{A:Nat->List (Nat×β)}{x:Nat}{b:List (Nat×β)}{pr:Nat->List Nat}:∀{L:List Nat},mn pr L->(∀i∈L,∀j∈L,i<j->ae (A i) x≠none->ae (A j) x≠none->i∈pr j) ->
  ∀j∈L,ae (A j) x≠none->(∀k∈L,ae (A k) x≠none->k<=j)->ae (fg A L b) x=ae (A j) x
 |[],_,_,j,hj,_,_=>by cases hj
 |i::L,hg,hd,j,hj,hx,hm=>by
  simp[fg];rw[qko]
  cases hq:ae (A i) x with
  |some v=>
   have hij:i<=j:=hm i qH (by rw[hq];simp)
   rcases Nat.lt_or_eq_of_le hij with h|h
   ·exfalso;have hjL:j∈L:=by
     rcases List.mem_cons.1 hj with e|e
     ·omega
     ·exact e
    exact hg.1 (hg.2.2.closed j hjL i (hd i qH j hj h (by rw[hq];simp) hx))
   ·subst h;rw[hq]
  |none=>
   have hjL:j∈L:=by
    rcases List.mem_cons.1 hj with e|e
    ·subst e;exact absurd hq hx
    ·exact e
   exact qya hg.2.2 (fun a ha c hc=>hd a (qE _ ha) c (qE _ hc)) j hjL hx (fun k hk=>hm k (qE _ hk))
def q9u(p:Nat->Prop):∀(L:List Nat),(∃j∈L,p j)->∃j∈L,p j/\∀k∈L,p k->k<=j
 |[],h=>by obtain⟨j,hj,_⟩:=h;cases hj
 |i::L,h=>by
  by_cases hL:∃j∈L,p j
  ·obtain⟨j,hj,pj,hm⟩:=q9u p L hL;by_cases hi:p i/\j<i
   ·exact⟨i,qH,hi.1,fun k hk pk=>by
     rcases List.mem_cons.1 hk with e|e
     ·omega
     ·have:=hm k e pk;omega⟩
   ·exact⟨j,qE _ hj,pj,fun k hk pk=>by
     rcases List.mem_cons.1 hk with e|e
     ·subst e;have:¬j<k:=fun h=>hi ⟨pk,h⟩
      omega
     ·exact hm k e pk⟩
  ·obtain⟨j,hj,pj⟩:=h;rcases List.mem_cons.1 hj with e|e
   ·subst e;exact⟨j,qH,pj,fun k hk pk=>by
     rcases List.mem_cons.1 hk with e|e
     ·omega
     ·exact absurd ⟨k,e,pk⟩ hL⟩
   ·exact absurd ⟨j,e,pj⟩ hL
def qo1{β:Type}{A:Nat->List (Nat×β)}{x:Nat}{b:List (Nat×β)}{pr:Nat->List Nat}{L L':List Nat}(hg:mn pr L)(hg':mn pr L')(hd:∀i j,(i∈L\/i∈L')->(j∈L\/j∈L')->i<j->ae (A i) x≠none->ae (A j) x≠none->i∈pr j)
  (hs:∀j,ae (A j) x≠none->(j∈L↔j∈L')):ae (fg A L b) x=ae (fg A L' b) x:=by
 by_cases hex:∃j∈L,ae (A j) x≠none
 ·obtain⟨j,hj,hx,hm⟩:=q9u (fun j=>ae (A j) x≠none) L hex
  rw[qya hg (fun i hi j hj=>hd i j (.inl hi) (.inl hj)) j hj hx hm,qya hg' (fun i hi j hj=>hd i j (.inr hi) (.inr hj)) j ((hs j hx).1 hj) hx (fun k hk hk2=>hm k ((hs k hk2).2 hk) hk2)]
 ·have h1:∀j∈L,ae (A j) x=none:=fun j hj=>by
   cases hq:ae (A j) x with|none=>rfl|some v=>exact absurd ⟨j,hj,by rw[hq];simp⟩ hex
  have h2:∀j∈L',ae (A j) x=none:=fun j hj=>by
   cases hq:ae (A j) x with|none=>rfl|some v=>exact absurd ⟨j,(hs j (by rw[hq];simp)).2 hj,by rw[hq];simp⟩ hex
  rw[qek h1,qek h2]
def qzl{sel:List Nat}{pr:Nat->List Nat}:∀(m:Nat),(∀i,i<m->i∈sel->∀j∈pr i,j<i/\j∈sel)->mn pr (((List.range' 0 m).filter (bq sel)).reverse)
 |0,_=>trivial|m+1,h=>by
  have ih:=qzl m (fun i hi=>h i oA)
  rw[List.range'_1_concat,List.filter_append,List.reverse_append,wO];cases hm:bq sel m
  ·rw[List.filter_cons_of_neg (by simp[hm])];exact ih
  ·rw[List.filter_cons_of_pos hm];refine⟨fun hin => ?_,fun j hj => ?_,ih⟩
   ·have hin:m∈((List.range' 0 m).filter (bq sel)).reverse:=hin;simp only[List.mem_reverse,List.mem_filter,List.mem_range'_1]at hin;omega
   ·have:=h m oA (fc.1 hm) j hj
    show j∈((List.range' 0 m).filter (bq sel)).reverse;rw[List.mem_reverse,List.mem_filter,List.mem_range'_1,fc];exact⟨⟨oA,oA⟩,this.2⟩
def e8(Rs:List HR)(Ms:List (Nat×Md))(j:Nat):List (Nat×AV):=match ae Ms j with
 |some md=>md.f|none=>match Rs[j]? with|some r=>[(r.dst,r.v)]|none=>[]
def du(Rs:List HR)(Ms:List (Nat×Md))(j:Nat):List (Nat×ag):=match ae Ms j with
 |some md=>md.h|none=>match Rs[j]? with|some r=>r.new|none=>[]
def ja(Rs:List HR)(j:Nat):List Nat:=match Rs[j]? with|some r=>r.pred|none=>[]
def e9(Rs:List HR)(Ms:List (Nat×Md))(L:List Nat)(s:St):St:={ s with fr:=fg (e8 Rs Ms) L s.fr,hp:=fg (du Rs Ms) L s.hp }
def dz(Ms:List (Nat×Md))(sel:List Nat):List HR->Nat->St->St
 |[],_,t=>t| r::rs,j,t=>dz Ms sel rs (j+1) (bif bq sel j then(match ae Ms j with
  |some md=>t.addM md| none=>t.addR r) else t)
def qjh{Rs:List HR}{Ms:List (Nat×Md)}{sel:List Nat}:∀(rs:List HR)(j:Nat)(t:St),(∀k,k<rs.length->Rs[j+k]? = rs[k]?)->dz Ms sel rs j t=e9 Rs Ms (((List.range' j rs.length).filter (bq sel)).reverse) t
 |[],j,t,_=>rfl|r::rs,j,t,h=>by
  have h0:Rs[j]? = some r:=by simpa using h 0 oC
  rw[dz,qjh rs (j+1) _ (fun k hk=>by have:=h (k+1) oE;rw[show j+1+k=j+(k+1) by omega,this];simp),qL,List.range'_succ]
  cases hm:bq sel j
  ·rw[List.filter_cons_of_neg (by simp[hm])];rfl
  ·rw[List.filter_cons_of_pos hm,List.reverse_cons];simp only[e9,q8m,fg,qT,e8,du,h0];cases ae Ms j<;>rfl
def gp(Cs:List (Nat×List Nat×List Nat))(pred:List Nat)(i:Nat):List Nat:=match Cs with|[]=>[]|(m,K,Pm)::r=>bif Nat.beq m i||bq pred m||bq Pm i then gp r pred i else K++gp r pred i
def zb3{pred:List Nat}{i x:Nat}:∀{Cs:List (Nat×List Nat×List Nat)}{m:Nat}{K Pm:List Nat},(m,K,Pm)∈Cs->m≠i->m∉pred->i∉Pm->x∈K->x∈gp Cs pred i
 |(m',K',P')::Cs,m,K,Pm,h,h1,h2,h3,h4=>by
  simp[gp];rcases List.mem_cons.1 h with e|h
  ·simp at e;obtain⟨rfl,rfl,rfl⟩:=e;have hc:(Nat.beq m i||bq pred m||bq Pm i)=false:=by
    simp;refine⟨⟨?_,?_⟩,?_⟩
    ·cases hb:Nat.beq m i
     ·rfl
     ·exact absurd (qN hb) h1
    ·cases hb:bq pred m
     ·rfl
     ·exact absurd (fc.1 hb) h2
    ·cases hb:bq Pm i
     ·rfl
     ·exact absurd (fc.1 hb) h3
   rw[hc];exact List.mem_append.2 (.inl h4)
  ·have ih:=zb3 h h1 h2 h3 h4;cases Nat.beq m' i||bq pred m' || bq P' i
   ·exact List.mem_append.2 (.inr ih)
   ·exact ih
def m0(lo k:Nat):Prop:=lo<=k/\k<lo+32
def qqn{Rs:List HR}:∀{es:List Edge}{l:List Nat},ni Rs es=some l->∀e∈es,Region.binds .any e=true->∀r,Rs[e.on]? = some r->∀j∈r.pred,j∈l
 |[],l,_,e,he,_,_,_,_,_=>by cases he
 |e0::es,l,h,e,he,hb,r,hr,j,hj=>by
  simp[ni]at h;cases hb0:Region.binds .any e0<;>rw[hb0]at h<;>simp at h
  ·rcases List.mem_cons.1 he with rfl|he
   ·rw[hb0]at hb;cases hb
   ·exact qqn h e he hb r hr j hj
  ·split at h
   ·rename_i r' l' h1 h2;simp at h;subst h;rw[qkt];rcases List.mem_cons.1 he with rfl|he
    ·rw[hr]at h1;cases h1;exact .inl (qE _ hj)
    ·exact .inr (qqn h2 e he hb r hr j hj)
   ·cases h
section
variable{P:Program}{z5m:World}{z5g:Gh}{z5j:List (Nat×ag)}{s:St}
structure mp(ops:Array Oper)(s:St)(Rs:List HR)(Ms:List (Nat×Md))(Cs:List (Nat×List Nat×List Nat))(i:Nat)(o:Oper)(r:HR):Prop where
 get:Rs[i]? = some r
 room:bh (s.nx+32*r.dst) s.hp=true
 pred:ni (Rs.take i) o.after.toList=some r.pred
 fresh:ph r.dst (Rs.take i)=true
 reads:rl r.pred (jj ops o) (Rs.take i) 0=true
 writes:rx ops r.dst r.pred i=true
 f:∀e∈e8 Rs Ms i,e.1=r.dst
 h:∀e∈du Rs Ms i,m0 (s.nx+32*r.dst) e.1\/(ae Ms i≠none/\(∃K Pm,(i,K,Pm)∈Cs/\e.1∈K/\∀j∈Pm,j∈r.pred)/\((∃b,ae s.hp e.1=some b)\/∃c rc,c∈r.pred/\Rs[c]? = some rc/\m0 (s.nx+32*rc.dst) e.1)/\∀j,j<i->ae Ms j≠none->j∈r.pred)
def gw(s:St)(Rs:List HR)(Ms:List (Nat×Md))(Cs:List (Nat×List Nat×List Nat))(i:Nat)(r:HR):St:=(dz Ms r.pred (Rs.take i) 0 s).hide (gp Cs r.pred i)
def qgr(P:Program)(o:Oper)(t:St)(md:Md):Prop:=∀(st:St),qi o t st->t.n=st.n->∀(z5m:World)(z5g:Gh)(z5j:List (Nat×ag))(G:Gh)(a:Act)(w:World),ai z5m z5g z5j G st a w->∀N:Act->World->Prop,(∀G' a' w',ai z5m z5g z5j G' (st.addM md) a' w'->N a' w')->fe P o a w N
def zpz{P:Program}{t:St}{d:D}{o:Oper}{ps:List Prop}{md:Md}(h:qbn P t d o=some (ps,md))(hp:aq ps):qgr P o t md:=
 fun _ hs hn _ _ _ _ _ _ hr _ hN=>qoj hr (zb6 (zp0 hs hn h)) hp hN
def qw1(P:Program)(TT:List PanicEntry->Act->World->Prop)(z5m:World)(z5g:Gh)(z5j:List (Nat×ag))(n:Nat)(s:St)(Rs:List HR)(Ms:List (Nat×Md))(Cs:List (Nat×List Nat×List Nat))(i:Nat)(o:Oper)(r:HR):Prop:=
 o.guard=none/\(∀t,o.dst=some t->t=r.dst/\t<s.n)/\∀L:List Nat,(∀j∈L,j<n)->qi o (gw s Rs Ms Cs i r) (e9 Rs Ms L s)->∀(G:Gh)(a:Act)(w:World),ai z5m z5g z5j G (e9 Rs Ms L s) a w->∀N:Act->World->Prop,rt P TT o a w N
def LdX(P:Program)(s:St)(Rs:List HR)(Ms:List (Nat×Md))(Cs:List (Nat×List Nat×List Nat))(i:Nat)(o:Oper)(r:HR)(b:Nat)(T:TypeId)(off k:Nat):Prop:=
 ae Ms i=none/\o.guard=none/\o.dst=some r.dst/\r.dst<s.n/\r.new=[]/\r.v = .own k/\(∃x,o.op = .load T x/\(gw s Rs Ms Cs i r).ev x=some (.ptr b off))/\∃cs E,ae s.hp b=some (.cells cs E)/\iu P T cs off=some (.own k)
def q6z(P:Program)(Ms:List (Nat×Md))(b:Nat)(T:TypeId)(off k:Nat):Prop:=∀j md bx,ae Ms j=some md->ae md.h b=some bx->∃cs E,bx = .cells cs E/\iu P T cs off=some (.own k)
def StX(P:Program)(ops:Array Oper)(s:St)(Rs:List HR)(Ms:List (Nat×Md))(Cs:List (Nat×List Nat×List Nat))(i:Nat)(o:Oper)(r:HR):Prop:=
 (ae Ms i=none/\o.dst=some r.dst/\r.dst<s.n/\∃ps,∃c:uw,jx P ops (gw s Rs Ms Cs i r) c o=some (ps,r.v,r.new)/\aq ps) \/
 (∃md,ae Ms i=some md/\o.guard=none/\(∀t,o.dst=some t->t=r.dst/\t<s.n)/\qgr P o (gw s Rs Ms Cs i r) md) \/
 (∃b T off k,LdX P s Rs Ms Cs i o r b T off k/\q6z P Ms b T off k)
def zah{B:Nat->Prop}{ops:Array Oper}{n:Nat}{Rs:List HR}{Ms:List (Nat×Md)}{Cs:List (Nat×List Nat×List Nat)}{N:Act->World->Prop}(hn:n<=ops.size)(hed:ld ops.toList 0=true)(ac:Rs.length=n)
  (hbnd:∀(L:List Nat)(listed:Array Bool)(i:Nat)(o:Oper),Inv ops n L listed->(∀j∈L,¬B j)->ops[i]? = some o->(∀e∈o.after,Region.binds .any e=true->e.on∈L)->(∃i0,i0<n/\i0∉L)->i<n)
  (hO:∀i o,i<n->ops[i]? = some o->∃r,mp ops s Rs Ms Cs i o r/\((¬B i/\StX P ops s Rs Ms Cs i o r)\/(B i/\qw1 P TT z5m z5g z5j n s Rs Ms Cs i o r)))
  (htail:(∀i,i<n->¬B i)->∀(G:Gh)(a:Act)(w:World)(listed:Array Bool),ai z5m z5g z5j G (dz Ms (List.range n) Rs 0 s) a w->yc ops n listed->jz P TT ops N (ops.size-n) listed a w) :
  ∀(g:Nat)(L:List Nat)(listed:Array Bool)(G:Gh)(a:Act)(w:World),ops.size=g+L.length->Inv ops n L listed->mn (ja Rs) L->(∀j∈L,¬B j)->ai z5m z5g z5j G (e9 Rs Ms L s) a w->jz P TT ops N g listed a w:=by
 have hop:∀i,i<n->ops[i]? = some (ops[i]?.getD default):=fun i hi=>by
  have:i<ops.size:=oA
  simp[this]
 -- predecessors
 have hpreds:∀{L:List Nat},(∀i∈L,∀o,ops[i]? = some o->∀e∈o.after,Region.binds .any e=true->e.on∈L)->∀(i:Nat)(o:Oper)(r:HR),i<n->ops[i]? = some o->Rs[i]? = some r->(∀e∈o.after,Region.binds .any e=true->e.on∈L)->(∀j∈r.pred,j∈L/\j<i):=by
  intro L hcl i
  induction i using Nat.strongRecOn with
  |ind i ih=>
   intro o r hi ho hr hall j hj;obtain⟨r',ok,_⟩:=hO i o hi ho;have h1:=ok.get;rw[hr]at h1;injection h1 with h1;subst h1
   obtain⟨e,he,hb,hje⟩:=(qk5 ok.pred).2 j hj;have hlt:=o8 hed i o (by simpa using ho) e (by simpa using he) hb
   have hlt':e.on<i:=oA
   have heL:=hall e (by simpa using he) hb
   rcases hje with rfl|⟨re,hre,hje⟩
   ·exact⟨heL,hlt'⟩
   ·have hre':Rs[e.on]? = some re:=by rw[List.getElem?_take]at hre;rw[qX hlt']at hre;exact hre
    have hoe:ops[e.on]? = some ops[e.on]:=oC
    have:=ih e.on hlt' ops[e.on] re oA hoe hre' (hcl e.on heL _ hoe) j hje
    exact⟨this.1,oA⟩
 have hlt:∀(i:Nat)(r:HR),i<n->Rs[i]? = some r->∀j∈r.pred,j<i:=fun i r hi hr j hj=>by
  refine(hpreds (L:=List.range n) (fun k hk o ho e he hb => ?_) i _ r hi (hop i hi) hr (fun e he hb => ?_) j hj).2
  ·have:=o8 hed k o (by simpa using ho) e (by simpa using he) hb
   have hk':=List.mem_range.1 hk;exact List.mem_range.2 oA
  ·have:=o8 hed i _ (by simpa using hop i hi) e (by simpa using he) hb
   exact List.mem_range.2 oA
 have htrans:∀(i:Nat)(r:HR),i<n->Rs[i]? = some r->∀k∈r.pred,∀rk:HR,Rs[k]? = some rk->∀c∈rk.pred,c∈r.pred:=by
  intro i
  induction i using Nat.strongRecOn with
  |ind i ih=>
   intro r hi hr k hk rk hrk c hc;obtain⟨r',ok,_⟩:=hO i _ hi (hop i hi);have h1:=ok.get;rw[hr]at h1;injection h1 with h1;subst h1
   obtain⟨e,he,hb,hje⟩:=(qk5 ok.pred).2 k hk;have hle:=o8 hed i _ (by simpa using hop i hi) e (by simpa using he) hb
   have hle':e.on<i:=oA
   rcases hje with rfl|⟨re,hre,hje⟩
   ·exact qqn ok.pred e he hb rk (by rw[List.getElem?_take,qX hle'];exact hrk) c hc
   ·have hre':Rs[e.on]? = some re:=by rw[List.getElem?_take,qX hle']at hre;exact hre
    exact qqn ok.pred e he hb re hre c (ih e.on hle' re oA hre' k hje rk hrk c hc)
 have hdst:∀(i j:Nat)(r r':HR),i<n->j<n->Rs[i]? = some r->Rs[j]? = some r'->r.dst=r'.dst->i=j:=fun i j r r' hi hj hr hr' hd=>by
  rcases Nat.lt_trichotomy i j with h|h|h
  ·obtain⟨r2,ok,_⟩:=hO j _ hj (hop j hj);have h1:=ok.get;rw[hr']at h1;injection h1 with h1;subst h1
   exact absurd hd (yy.1 ok.fresh r (List.mem_of_getElem? (i:=i) (by rw[List.getElem?_take,qX h];exact hr)))
  ·exact h
  ·obtain⟨r2,ok,_⟩:=hO i _ hi (hop i hi);have h1:=ok.get;rw[hr]at h1;injection h1 with h1;subst h1
   exact absurd hd.symm (yy.1 ok.fresh r' (List.mem_of_getElem? (i:=j) (by rw[List.getElem?_take,qX h];exact hr')))
 have hrs:∀i,i<n->∃r,Rs[i]? = some r/\mp ops s Rs Ms Cs i (ops[i]?.getD default) r:=fun i hi=>by
  obtain⟨r,ok,_⟩:=hO i _ hi (hop i hi);exact⟨r,ok.get,ok⟩
 -- two that touch the same are ordered
 have old:∀(i:Nat)(r:HR)(x:Nat),mp ops s Rs Ms Cs i (ops[i]?.getD default) r->m0 (s.nx+32*r.dst) x->ae s.hp x=none:=fun i r x ok hx=>by
  cases hq:ae s.hp x with
  |none=>rfl|some b=>
   have:=zi.1 ok.room _ (qbl hq);unfold m0 at hx;simp only at this;omega
 have hC1:∀(x i j:Nat),i<n->j<n->i<j->ae (du Rs Ms i) x≠none->ae (du Rs Ms j) x≠none->i∈ja Rs j:=fun x i j hi hj hij h1 h2=>by
  obtain⟨ri,gi,oki⟩:=hrs i hi;obtain⟨rj,gj,okj⟩:=hrs j hj;have hpj:ja Rs j=rj.pred:=by unfold ja;rw[gj]
  rw[hpj];obtain⟨e1,m1,rfl⟩:=oa h1;obtain⟨e2,m2,hx⟩:=oa h2;rcases oki.h e1 m1 with a1|⟨n1,_,c1,_⟩
  ·rcases okj.h e2 m2 with a2|⟨n2,_,c2,_⟩
   ·rw[hx]at a2;exact absurd (hdst i j ri rj hi hj gi gj (by unfold m0 at a1 a2;omega)) oA
   ·rw[hx]at c2;rcases c2 with⟨b,hb⟩|⟨c,rc,c3,c4,c5⟩
    ·rw[old i ri _ oki a1]at hb;cases hb
    ·have hcn:c<n:=by have:=hlt j rj hj gj c c3;omega
     have:c=i:=hdst c i rc ri hcn hi c4 gi (by unfold m0 at a1 c5;omega)
     exact this▸c3
  ·rcases okj.h e2 m2 with a2|⟨n2,_,c2,c6⟩
   ·rw[hx]at a2;rcases c1 with⟨b,hb⟩|⟨c,rc,c3,c4,c5⟩
    ·rw[old j rj _ okj a2]at hb;cases hb
    ·have hcn:c<i:=hlt i ri hi gi c c3;have:c=j:=hdst c j rc rj oA hj c4 gj (by unfold m0 at a2 c5;omega)
     omega
   ·exact c6 i hij n1
 have hC2:∀(d i j:Nat),i<n->j<n->i<j->ae (e8 Rs Ms i) d≠none->ae (e8 Rs Ms j) d≠none->i∈ja Rs j:=fun d i j hi hj hij h1 h2=>by
  obtain⟨ri,gi,oki⟩:=hrs i hi;obtain⟨rj,gj,okj⟩:=hrs j hj;obtain⟨e1,m1,rfl⟩:=oa h1;obtain⟨e2,m2,hx⟩:=oa h2;have:=oki.f e1 m1;have:=okj.f e2 m2;exact absurd (hdst i j ri rj hi hj gi gj oA) oA
 -- all have run
 have fin:∀(L:List Nat)(listed:Array Bool)(G:Gh)(a:Act)(w:World),(∀i,i<n->i∈L)->Inv ops n L listed->mn (ja Rs) L->(∀j∈L,¬B j)->ai z5m z5g z5j G (e9 Rs Ms L s) a w->jz P TT ops N (ops.size-n) listed a w:=by
  intro L listed G a w hall hinv hgood hB hr;refine htail (fun i hi=>hB i (hall i hi)) G a w listed (hr.eqv ?_) ⟨hinv.size,fun j hj=>by rw[hinv.iff j hj];exact⟨fun h=>hinv.lt j h,fun h=>hall j h⟩⟩
  rw[qjh (Rs:=Rs) Rs 0 s (fun k _=>by rw[wO]),ac]
  have hmem:∀j,j∈((List.range' 0 n).filter (bq (List.range n))).reverse↔j∈L:=fun j=>by
   rw[List.mem_reverse,List.mem_filter,fc,List.mem_range'_1,List.mem_range];exact⟨fun h=>hall j h.2,fun h=>by have:=hinv.lt j h;exact⟨⟨oA,oA⟩,this⟩⟩
  have hg2:mn (ja Rs) (((List.range' 0 n).filter (bq (List.range n))).reverse):=qzl n (fun i hi _ j hj=>by
   obtain⟨r,gr,_⟩:=hrs i hi;have hp:ja Rs i=r.pred:=by unfold ja;rw[gr]
   rw[hp]at hj;have:=hlt i r hi gr j hj;exact⟨this,List.mem_range.2 oA⟩)
  have hb:∀i,(i∈L\/i∈((List.range' 0 n).filter (bq (List.range n))).reverse)->i<n:=fun i h=>by
   rcases h with h|h
   ·exact hinv.lt i h
   ·exact hinv.lt i ((hmem i).1 h)
  exact⟨rfl,rfl,fun d=>qo1 hgood hg2 (fun i j hi hj=>hC2 d i j (hb i hi) (hb j hj)) (fun j _=>(hmem j).symm),fun x=>qo1 hgood hg2 (fun i j hi hj=>hC1 x i j (hb i hi) (hb j hj)) (fun j _=>(hmem j).symm),rfl⟩
 intro g
 induction g with
 |zero=>
  intro L listed G a w hg hinv hgood hB hr;have h1:=zj n L hinv.nodup hinv.lt;have hnn:n=ops.size:=oA
  have hall:∀i,i<n->i∈L:=fun i hi=>by
   by_cases hm:i∈L
   ·exact hm
   ·have:=zj n (i::L) (List.nodup_cons.2 ⟨hm,hinv.nodup⟩) (fun j hj=>by
     rcases List.mem_cons.1 hj with rfl|hj;· exact hi
     ·exact hinv.lt j hj)
    simp at this;omega
  have:=fin L listed G a w hall hinv hgood hB hr
  rwa [hnn,Nat.sub_self]at this
 |succ g ih=>
  intro L listed G a w hg hinv hgood hB hr;by_cases hall:∀i,i<n->i∈L
  ·have h1:=zj n L hinv.nodup hinv.lt;have h2:=qz3 n L hall;have:=fin L listed G a w hall hinv hgood hB hr
   rwa [show ops.size-n=g+1 by omega]at this
  ·have hex:∃i,i<n/\i∉L/\∀j,j<i->j∈L:=by
    have:∃i,i<n/\i∉L:=by
     simpa using hall
    obtain⟨i,hi,hm⟩:=this;clear hall
    induction i using Nat.strongRecOn with
    |ind i ih=>
     by_cases hsm:∀j,j<i->j∈L
     ·exact⟨i,hi,hm,hsm⟩
     ·have:∃j,j<i/\j∉L:=by simpa using hsm
      obtain⟨j,hj,hjm⟩:=this;exact ih j hj oA hjm
   obtain⟨i0,hi0,hm0,hsm0⟩:=hex;have hi0s:i0<ops.size:=oA
   have h0r:i0∈Region.ready .any ops listed:=by
    refine qbm.2 ⟨hi0s,?_,ops[i0],oC,fun e he hb => ?_⟩
    ·cases hq:listed.getD i0 true
     ·rfl
     ·exact absurd ((hinv.iff i0 hi0s).1 hq) hm0
    ·have:=o8 hed i0 ops[i0] oC e he hb
     have hlt:e.on<i0:=oA
     exact(hinv.getD_false oA).2 (hsm0 _ hlt)
   refine⟨fun hnil=>(by rw[hnil]at h0r;cases h0r),fun i hi => ?_⟩
   obtain⟨i1,i2,o,i3,i4⟩:=qbm.1 hi;have hiL:i∉L:=fun h=>by rw[(hinv.iff i i1).2 h]at i2;cases i2
   have hedge:∀e∈o.after,Region.binds .any e=true->e.on∈L:=fun e he hb=>by
    have hlt:=o8 hed i o (by simpa using i3) e he hb
    exact(hinv.getD_false oA).1 (i4 e he hb)
   have hin:i<n:=hbnd L listed i o hinv hB i3 hedge ⟨i0,hi0,hm0⟩;obtain⟨r,ok,st⟩:=hO i o hin i3;have gr:=ok.get;have hpred:=hpreds hinv.closed i o r hin i3 gr hedge;have hpr:ja Rs i=r.pred:=by unfold ja;rw[gr]
   have hgood':mn (ja Rs) (i::L):=⟨hiL,fun j hj=>by rw[hpr]at hj;exact(hpred j hj).1,hgood⟩
   have hnext:Inv ops n (i::L) (listed.setIfInBounds i true):=by
    refine⟨List.nodup_cons.2 ⟨hiL,hinv.nodup⟩,fun j hj => ?_,by simp[hinv.size],fun j hj => ?_,fun j hj oj hoj e he hb => ?_⟩
    ·rcases List.mem_cons.1 hj with rfl|hj
     ·exact hin
     ·exact hinv.lt j hj
    ·rw[Array.getD_eq_getD_getElem?,Array.getElem?_setIfInBounds];by_cases hij:i=j
     ·subst hij;simp[hinv.size,i1]
     ·rw[qW hij];have:=hinv.iff j hj;rw[Array.getD_eq_getD_getElem?]at this;rw[this,wE];exact⟨fun h => .inr h,fun h=>h.resolve_left (fun e=>hij e.symm)⟩
    ·rcases List.mem_cons.1 hj with rfl|hj
     ·rw[i3]at hoj;injection hoj with hoj;subst hoj
      exact qE _ (hedge e he hb)
     ·exact qE _ (hinv.closed j hj oj hoj e he hb)
   have htk:(Rs.take i).length=i:=by simp;omega
   have hlen':∀k,k<(Rs.take i).length->Rs[0+k]? = (Rs.take i)[k]? := fun k hk=>by
    rw[List.getElem?_take,qX (by rw[htk]at hk;omega),wO]
   have hseen:gw s Rs Ms Cs i r=(e9 Rs Ms (((List.range' 0 i).filter (bq r.pred)).reverse) s).hide (gp Cs r.pred i):=by
    unfold gw;rw[qjh (Rs:=Rs) (Rs.take i) 0 s hlen',htk]
   have hsel:∀j,j∈((List.range' 0 i).filter (bq r.pred)).reverse↔j∈r.pred:=fun j=>by
    rw[List.mem_reverse,List.mem_filter,fc];refine⟨fun h=>h.2,fun h=>⟨?_,h⟩⟩
    rw[List.mem_range'_1];exact⟨oA,by have:=(hpred j h).2;omega⟩
   have hgsel:mn (ja Rs) (((List.range' 0 i).filter (bq r.pred)).reverse):=qzl i (fun k hk hks j hj=>by
    obtain⟨rk,gk,_⟩:=hrs k oA
    have hpk:ja Rs k=rk.pred:=by unfold ja;rw[gk]
    rw[hpk]at hj;exact⟨hlt k rk oA gk j hj,htrans i r hin gr k hks rk gk j hj⟩)
   have hbn:∀k,(k∈((List.range' 0 i).filter (bq r.pred)).reverse\/k∈L)->k<n:=fun k h=>by
    rcases h with h|h
    ·have:=(hpred k ((hsel k).1 h)).2;omega
    ·exact hinv.lt k h
   -- an operation that has run already,and is no predecessor,writes nothing that is looked at
   have late:∀(j:Nat)(rj:HR),Rs[j]? = some rj->j∈L->rj.dst∈jj ops o->j∈r.pred:=by
    intro j rj hj h hd;have hjn:=hinv.lt j h;have hji:j≠i:=fun e=>hiL (e▸h)
    rcases Nat.lt_or_gt_of_ne hji with hlt'|hgt
    ·rcases q1e ok.reads j rj (by rw[List.getElem?_take,qX hlt'];exact hj) with h'|h'
     ·simpa using h'
     ·exact absurd hd h'
    ·have hoj:=hop j hjn;obtain⟨rj',okj,_⟩:=hO j _ hjn hoj;have k1:=okj.get;rw[hj]at k1;injection k1 with k1;subst k1
     rcases q2o okj.writes i o hgt i3 with h'|h'
     ·have:=hpreds hinv.closed j _ rj hjn hoj hj (hinv.closed j h _ hoj) i h';exact absurd this.1 hiL
     ·exact absurd hd h'
   have hreads:∀d∈jj ops o,ae (gw s Rs Ms Cs i r).fr d=ae (e9 Rs Ms L s).fr d:=fun d hd=>by
    rw[hseen];show ae (fg (e8 Rs Ms) _ s.fr) d=ae (fg (e8 Rs Ms) L s.fr) d;refine qo1 hgsel hgood (fun a b ha hb=>hC2 d a b (hbn a ha) (hbn b hb)) (fun j hj=>⟨fun h=>(hpred j ((hsel j).1 h)).1,fun h=>(hsel j).2 ?_⟩)
    obtain⟨rj,gj,okj⟩:=hrs j (hinv.lt j h);obtain⟨e,he,rfl⟩:=oa hj;exact late j rj gj h (by rw[← okj.f e he];exact hd)
   have hhp:∀x b,ae (gw s Rs Ms Cs i r).hp x=some b->ae (e9 Rs Ms L s).hp x=some b:=fun x b hb=>by
    rw[hseen]at hb;obtain⟨b1,b2⟩:=qz7 hb;have b1':ae (fg (du Rs Ms) (((List.range' 0 i).filter (bq r.pred)).reverse) s.hp) x=some b:=b1;rw[← b1'];refine(qo1 hgsel hgood (fun a b ha hb=>hC1 x a b (hbn a ha) (hbn b hb)) (fun j hj=>⟨fun h=>(hpred j ((hsel j).1 h)).1,fun h=>(hsel j).2 ?_⟩)).symm
    have hjn:=hinv.lt j h;obtain⟨rj,gj,okj⟩:=hrs j hjn;obtain⟨e,he,hex⟩:=oa hj;by_cases hjp:j∈r.pred
    ·exact hjp
    ·exfalso;have hji:j≠i:=fun e=>hiL (e▸h)
     rcases okj.h e he with a1|⟨_,⟨K,Pm,k1,k2,k3⟩,_,_⟩
     ·rw[hex]at a1;by_cases hk:∃k∈((List.range' 0 i).filter (bq r.pred)).reverse,ae (du Rs Ms k) x≠none
      ·obtain⟨k,hk1,hk2⟩:=hk;have hkp:=(hsel k).1 hk1;have hkn:k<n:=hbn k (.inl hk1);obtain⟨rk,gk,okk⟩:=hrs k hkn;obtain⟨e2,he2,hex2⟩:=oa hk2;rcases okk.h e2 he2 with a2|⟨_,_,c1,_⟩
       ·rw[hex2]at a2;have:j=k:=hdst j k rj rk hjn hkn gj gk (by unfold m0 at a1 a2;omega)
        exact hjp (this▸hkp)
       ·rw[hex2]at c1;rcases c1 with⟨b',hb'⟩|⟨c,rc,c3,c4,c5⟩
        ·rw[old j rj x okj a1]at hb';cases hb'
        ·have hcn:c<n:=by have:=hlt k rk hkn gk c c3;omega
         have:c=j:=hdst c j rc rj hcn hjn c4 gj (by unfold m0 at a1 c5;omega)
         exact hjp (htrans i r hin gr k hkp rk gk j (this▸c3))
      ·have hnone:∀k∈((List.range' 0 i).filter (bq r.pred)).reverse,ae (du Rs Ms k) x=none:=fun k hk1=>by
        cases hq:ae (du Rs Ms k) x with|none=>rfl|some v=>exact absurd ⟨k,hk1,by rw[hq];simp⟩ hk
       rw[qek hnone,old j rj x okj a1]at b1';cases b1'
     ·refine b2 (zb3 k1 hji hjp (fun hiP=>hiL ?_) (hex▸k2))
      exact hgood.closed j h i (by unfold ja;rw[gj];exact k3 i hiP)
   have hroom:bh (s.nx+32*r.dst) (e9 Rs Ms L s).hp=true:=by
    rw[zi];intro e he;rcases zb2 he with⟨j,hj,he⟩|he
    ·have hjn:=hinv.lt j hj;have hji:j≠i:=fun e=>hiL (e▸hj)
     obtain⟨rj,gj,okj⟩:=hrs j hjn;rcases okj.h e he with a1|⟨_,_,c1,_⟩
     ·have:rj.dst≠r.dst:=fun hq=>hji (hdst j i rj r hjn hin gj gr hq)
      unfold m0 at a1;omega
     ·rcases c1 with⟨b',hb'⟩|⟨c,rc,c3,c4,c5⟩
      ·exact zi.1 ok.room (e.1,b') (qbl hb')
      ·have hcL:c∈L:=hgood.closed j hj c (by unfold ja;rw[gj];exact c3)
       have hcn:=hinv.lt c hcL;have:rc.dst≠r.dst:=fun hq=>hiL ((hdst c i rc r hcn hin c4 gr hq)▸hcL)
       unfold m0 at c5;omega
    ·exact zi.1 ok.room _ he
   have hsees:(∀d,o.dst=some d->d=r.dst)->qi o (gw s Rs Ms Cs i r) (e9 Rs Ms L s):=fun hd=>by
    refine⟨by rw[hseen];rfl,fun x hx => ?_,hhp,fun d hd' => ?_⟩
    ·cases x with
     |tmp t=>
      exact hreads t (by simp only[jj];refine List.mem_append.2 (.inl ?_);rw[List.mem_filterMap];exact⟨.tmp t,hx,rfl⟩)
     |_=>rfl
    ·rw[hd d hd'];exact hroom
   rcases st with⟨nB,st⟩|⟨_,s2,s3,s4⟩
   rotate_left
   ·exact qo8 i3 (by simp[Region.wanted,s2]) (s4 L hinv.lt (hsees (fun d hd=>(s3 d hd).1)) G a w hr _)
   have hB':∀j∈i::L,¬B j:=fun j hj=>by
    rcases List.mem_cons.1 hj with rfl|hj
    ·exact nB
    ·exact hB j hj
   rcases st with⟨s1,s2,s3,ps,c,s4,s5⟩|⟨md,s1,s2,s3,s4⟩|⟨b,T,off,k,⟨s1,sg,s2,s3,sn,sv,⟨y,so,se⟩,cs0,E0,sc,sa⟩,sM⟩
   ·have h9':=q7z (hsees (fun d hd=>by rw[s2]at hd;injection hd with hd;exact hd.symm)) hreads s4
    have hadd:(e9 Rs Ms L s).add o.dst r.v r.new=some (e9 Rs Ms (i::L) s):=by
     rw[s2];have hbl:Nat.blt r.dst s.n=true:=by simpa using s3
     simp only[St.add,e9,hbl,qT,fg,e8,du,s1,gr,wM]
    exact qxs hr i3 h9' s5 hadd (fun G' a' w' hr'=>ih (i::L) _ G' a' w' oE hnext hgood' hB' hr')
   ·refine qym i3 (by simp[Region.wanted,s2]) (s4 _ (hsees (fun d hd=>(s3 d hd).1)) (by rw[hseen];rfl) _ _ _ _ _ _ hr _ (fun G' a' w' hr'=>ih (i::L) _ G' a' w' oE hnext hgood' hB' ?_))
    have:(e9 Rs Ms L s).addM md=e9 Rs Ms (i::L) s:=by
     simp[St.addM,e9,fg,e8,du,s1]
    rw[← this];exact hr'
   ·
    have hbox:∀L':List Nat,(∀j∈L',j<n)->∃cs E,ae (fg (du Rs Ms) L' s.hp) b=some (.cells cs E)/\iu P T cs off=some (.own k):=by
     intro L'
     induction L' with
     |nil=>exact fun _=>⟨cs0,E0,sc,sa⟩
     |cons j L' ihL=>
      intro hj;have ihL:=ihL (fun k hk=>hj k (qE _ hk))
      have hjn:=hj j qH;show ∃cs E,ae (du Rs Ms j++fg (du Rs Ms) L' s.hp) b=some (.cells cs E)/\_;rw[qko]
      cases hq:ae (du Rs Ms j) b with
      |none=>exact ihL|some bx=>
       simp only
       cases hm:ae Ms j with
       |some md=>
        have e:du Rs Ms j=md.h:=by unfold du;rw[hm]
        rw[e]at hq;obtain⟨cs,E,rfl,h2⟩:=sM j md bx hm hq;exact⟨cs,E,rfl,h2⟩
       |none=>
        exfalso;obtain⟨rj,gj,okj⟩:=hrs j hjn;obtain⟨e,he,hx⟩:=oa (l:=du Rs Ms j) (m:=b) (by rw[hq];simp)
        rcases okj.h e he with a1|⟨h1,_⟩
        ·rw[hx]at a1;have:=old j rj b okj a1;rw[sc]at this;cases this
        ·exact h1 hm
    obtain⟨cs,E,c1,c2⟩:=hbox L hinv.lt;have hev:(e9 Rs Ms L s).ev y=some (.ptr b off):=by
     have:=(hsees (fun d hd=>by rw[s2]at hd;injection hd with hd;exact hd.symm)).ev y (by simp[so,Op.operands])
     rw[← this];exact se
    have h9:jx P ops (e9 Rs Ms L s) (false,.none) o=some ([],r.v,r.new):=by
     unfold jx;rw[sg];simp only;unfold fb;rw[so];simp only[cz,qeb,hev];rw[show ae (e9 Rs Ms L s).hp b=some (.cells cs E) from c1]
     simp only[c2];rw[sv,sn]
    have hadd:(e9 Rs Ms L s).add o.dst r.v r.new=some (e9 Rs Ms (i::L) s):=by
     rw[s2];have hbl:Nat.blt r.dst s.n=true:=by simpa using s3
     simp only[St.add,e9,hbl,qT,fg,e8,du,s1,gr,wM]
    exact qxs hr i3 h9 trivial hadd (fun G' a' w' hr'=>ih (i::L) _ G' a' w' oE hnext hgood' hB' hr')
def zn8{ops:Array Oper}{n:Nat}{Rs:List HR}{Ms:List (Nat×Md)}{Cs:List (Nat×List Nat×List Nat)}{N:Act->World->Prop}(hn:n<=ops.size)(hed:ld ops.toList 0=true)(ht:ol ops n=true)(ac:Rs.length=n)
  (hO:∀i o,i<n->ops[i]? = some o->∃r,mp ops s Rs Ms Cs i o r/\StX P ops s Rs Ms Cs i o r)
  (htail:∀(G:Gh)(a:Act)(w:World)(listed:Array Bool),ai z5m z5g z5j G (dz Ms (List.range n) Rs 0 s) a w->yc ops n listed->jz P TT ops N (ops.size-n) listed a w)
  (g:Nat) (L:List Nat) (listed:Array Bool) (G:Gh) (a:Act) (w:World) (hg:ops.size=g+L.length) (hinv:Inv ops n L listed) (hgood:mn (ja Rs) L) (hr:ai z5m z5g z5j G (e9 Rs Ms L s) a w):jz P TT ops N g listed a w:=by
 refine zah (B:=fun _=>False) (Cs:=Cs) hn hed ac (fun L listed i o hinv _ i3 i4 hex => ?_) (fun i o hi ho=>by obtain⟨r,h1,h2⟩:=hO i o hi ho;exact⟨r,h1,.inl ⟨id,h2⟩⟩) (fun _=>htail) g L listed G a w hg hinv hgood (fun _ _ h=>h) hr
 obtain⟨i0,hi0,hm0⟩:=hex;have hso:i<ops.size:=(Array.getElem?_eq_some_iff.1 i3).1;rcases Nat.lt_or_ge i n with h|h
 ·exact h
 ·rcases Nat.lt_or_ge n i with h|h
  ·obtain⟨e,he1,he2,he3⟩:=q2m (q18 ht h i3);have:=hinv.lt _ (i4 e he1 he3);omega
  ·have:i=n:=oA
   subst this;exact absurd (zez ht i3 hinv.closed i4 i0 hi0) hm0
def zn7{ops:Array Oper}{j:Nat}{Rs:List HR}{Ms:List (Nat×Md)}{Cs:List (Nat×List Nat×List Nat)}{N:Act->World->Prop}(hj:j<ops.size)(hed:ld ops.toList 0=true)(hlate:∀i o,j<i->ops[i]? = some o->∃e∈o.after,Region.binds .any e=true/\j<=e.on)(ac:Rs.length=j+1)
  (hO:∀i o,i<j->ops[i]? = some o->∃r,mp ops s Rs Ms Cs i o r/\StX P ops s Rs Ms Cs i o r)
  (hT:∀o,ops[j]? = some o->∃r,mp ops s Rs Ms Cs j o r/\qw1 P TT z5m z5g z5j (j+1) s Rs Ms Cs j o r)
  (g:Nat) (L:List Nat) (listed:Array Bool) (G:Gh) (a:Act) (w:World) (hg:ops.size=g+L.length) (hinv:Inv ops (j+1) L listed) (hgood:mn (ja Rs) L) (hB:∀k∈L,k≠j) (hr:ai z5m z5g z5j G (e9 Rs Ms L s) a w):jz P TT ops N g listed a w:=by
 refine zah (B:=fun k=>k=j) (n:=j+1) (Cs:=Cs) hj hed ac (fun L listed i o hinv hB i3 i4 hex => ?_) (fun i o hi ho => ?_) (fun h=>absurd rfl (h j (Nat.lt_succ_self j))) g L listed G a w hg hinv hgood hB hr
 ·rcases Nat.lt_or_ge i (j+1) with h|h
  ·exact h
  ·obtain⟨e,e1,e2,e3⟩:=hlate i o h i3;have h1:=i4 e e1 e2;have h2:=hinv.lt _ h1;exact absurd (show e.on=j by omega) (hB _ h1)
 ·by_cases hij:i=j
  ·subst hij;obtain⟨r,h1,h2⟩:=hT o ho;exact⟨r,h1,.inr ⟨rfl,h2⟩⟩
  ·obtain⟨r,h1,h2⟩:=hO i o oA ho
   exact⟨r,h1,.inl ⟨hij,h2⟩⟩
end
end Go.Sym
namespace Go.Sym
open Go.RowKit
variable[LC]
def qsd(P:Program)(T:TypeId):Option AV:=match P.info? T with
 |some i=>match i.zero with|some (.agg vs)=>some (.agg (qfk vs.toList))|_=>none
 |none=>none
def qzr(P:Program)(T:TypeId):Bool:=match P.info? T,P.underlying T with|some i,some (.int _)=>i.comparable|_,_=>false
def qp4(P:Program):AV->AV->Option AV
 |.val .nilIface,.iface _ _=>some (.val (.bool false))| .iface t x,.iface t' y=>bif Nat.beq t t' then(match x,y with
   |.byte a,.byte b=>bif qzr P t then some (.bool (a==b)) else none| _,_=>none) else some (.val (.bool false))
 |_,_=>none
def q0t:AV->Option AV|.val (.bool b)=>some (.val (.bool (!b)))|.bool b=>some (.bool (!b))|_=>none
def ifV(P:Program)(s:St)(op:BinOp)(x y:Operand):Option AV:=match s.ev x,s.ev y with
 |some u,some v=>match op with
  |.eql=>qp4 P u v|.neq=>match qp4 P u v with|some r=>q0t r|none=>none
  |_=>none
 |_,_=>none
def taV(P:Program)(s:St)(x:Operand)(T:TypeId):Option AV:=match P.underlying T with
 | some d=>bif qkz d then(match s.ev x with
   | some (.iface t v)=>bif Nat.beq t T then some (.tup [v,.val (.bool true)]) else(match qsd P T with
    |some z=>some (.tup [z,.val (.bool false)])| none=>none)
   | some (.val .nilIface)=>(match qsd P T with
    |some z=>some (.tup [z,.val (.bool false)])| none=>none)
   | _=>none) else none
 |none=>none
def zap(P:Program)(s:St):Op->Option AV
 |.typeAssert x _ T true=>taV P s x T|.binOp op t x y _=>match P.underlying t with|some (.interface _)=>ifV P s op x y|_=>none
 |_=>none
def qzn(P:Program)(s:St)(o:Oper):Option St:=match o.dst with
 |some tt=>match zap P s o.op with|some v=>bif Nat.blt tt s.n then some { s with fr:=(tt,v)::s.fr } else none|none=>none
 |none=>none
section
variable{P:Program}{z5m:World}{z5g:Gh}{z5j:List (Nat×ag)}{G:Gh}{s:St}{a:Act}{w:World}
def zh8{T:TypeId}{z:AV}(h:qsd P T=some z)(w:World)(G:Gh):∃v,(zeroValue T).run P w = .ok v w/\aj z G v:=by
 unfold qsd at h;split at h
 ·rename_i i hi;split at h
  ·rename_i vs hz;simp only[qI]at h;subst h;exact⟨.agg vs,by simp[zeroValue,uk hi,hz],vs,rfl,q1n G _⟩
  ·cases h
 ·cases h
def zua{x:Operand}{T xT:TypeId}{r:AV}(hx:∀v,s.ev x=some v->aj v G (a.eval x))(h:taV P s x T=some r):∃v,(Instr.typeAssert (a.eval x) xT T true).run P w = .ok v w/\aj r G v:=by
 unfold taV at h;split at h
 ·rename_i d hd;cases hn:qkz d<;>rw[hn]at h<;>simp only[qT,qF,reduceCtorEq]at h
  have hnot:∀ms,d ≠ .interface ms:=fun ms e=>by subst e;cases hn
  split at h
  ·rename_i t v e;obtain⟨u,hu,hr⟩:=hx _ e;rw[hu];cases hb:Nat.beq t T<;>rw[hb]at h<;>simp only[qT,qF]at h
   ·have hne:t≠T:=fun e=>by subst e;simp at hb
    split at h
    ·rename_i z hz;simp only[qI]at h;subst h;obtain⟨zv,h1,h2⟩:=zh8 hz w G;refine⟨.tuple #[zv,.bool false],?_,_,rfl,h2,rfl,trivial⟩;cases d<;>first
      |exact absurd rfl (hnot _)
      |simp[Instr.typeAssert,bm hd,hne,h1]
    ·cases h
   ·have:=qN hb;subst this;simp only[qI]at h;subst h;refine⟨.tuple #[u,.bool true],?_,_,rfl,hr,rfl,trivial⟩;cases d<;>first
     |exact absurd rfl (hnot _)
     |simp[Instr.typeAssert,bm hd]
  ·rename_i e;have hu:=hx _ e;simp only[aj]at hu;rw[hu];split at h
   ·rename_i z hz;simp only[qI]at h;subst h;obtain⟨zv,h1,h2⟩:=zh8 hz w G;refine⟨.tuple #[zv,.bool false],?_,_,rfl,h2,rfl,trivial⟩;cases d<;>first
     |exact absurd rfl (hnot _)
     |simp[Instr.typeAssert,bm hd,h1]
   ·cases h
  ·cases h
 ·cases h
def zan{t:TypeId}{ms:Array (String×TypeId)}(hu:P.underlying t=some (.interface ms)){u v r:AV}(h:qp4 P u v=some r){x y:Value}(hx:aj u G x)(hy:aj v G y) :
  ∃b,aj r G (.bool b)/\∀(p q:Operand),(do eqGuard .eql t p q x y;binOp .eql t x y:Sem Value).run P w = .ok (.bool b) w/\(do eqGuard .neq t p q x y;binOp .neq t x y:Sem Value).run P w = .ok (.bool (!b)) w:=by
 have key:∀b,(∀d,(Op.equalIn (d+2) t x y).run P w = .ok b w)->(Op.equal t x y).run P w = .ok b w:=fun b h=>h 9998
 unfold qp4 at h;split at h
 ·rename_i t' x';simp only[qI]at h;subst h;simp only[aj]at hx;obtain⟨u',hy,_⟩:=hy;subst hx hy;have k:=key false fun d=>by simp[Op.equalIn,bm hu]
  exact⟨false,rfl,fun p q=>⟨by simp[eqGuard,binOp,k],by simp[eqGuard,binOp,k]⟩⟩
 ·rename_i t1 x1 t2 y1;obtain⟨u1,e1,r1⟩:=hx;obtain⟨u2,e2,r2⟩:=hy;subst e1 e2;cases hb:Nat.beq t1 t2<;>rw[hb]at h<;>simp only[qT,qF]at h
  ·have hne:t1≠t2:=fun e=>by subst e;simp at hb
   simp only[qI]at h;subst h;have k:=key false fun d=>by simp[Op.equalIn,bm hu,hne]
   exact⟨false,rfl,fun p q=>⟨by simp[eqGuard,binOp,k],by simp[eqGuard,binOp,k]⟩⟩
  ·have:=qN hb;subst this;split at h
   ·rename_i b1 b2;cases hc:qzr P t1<;>rw[hc]at h<;>simp only[qT,qF,reduceCtorEq,qI]at h
    subst h;simp only[aj]at r1 r2;subst r1 r2;unfold qzr at hc;split at hc
    ·rename_i i k hi hk;have k:=key (b1==b2) ?_;exact⟨b1==b2,rfl,fun p q=>⟨by simp[eqGuard,binOp,k],by simp[eqGuard,binOp,k]⟩⟩
     intro d;have e:((b1.toNat:Int)==(b2.toNat:Int))=(b1==b2):=by
      by_cases hq:b1=b2
      ·subst hq;simp
      ·have:b1.toNat≠b2.toNat:=fun e=>hq (UInt8.toNat_inj.1 e)
       have h1:((b1.toNat:Int)==(b2.toNat:Int))=false:=by
        rw[beq_eq_false_iff_ne];exact fun e=>this (Int.ofNat_inj.1 e)
       have h2:(b1==b2)=false:=by simpa using hq
       rw[h1,h2]
     have hin:(Op.equalIn (d+1) t1 (.int .u8 b1.toNat) (.int .u8 b2.toNat)).run P w = .ok (b1==b2) w:=by
      rw[← e];simp[Op.equalIn,bm hk]
     obtain⟨m,hm⟩:∃m,m=d+1:=⟨_,rfl⟩;rw[← hm]at hin;rw[show d+2=m+1 by omega]
     simp[Op.equalIn,bm hu,uk hi,hc,hin]
    ·cases hc
   ·cases h
 ·cases h
def zqd{r r':AV}(h:q0t r=some r'){b:Bool}(hr:aj r G (.bool b)):aj r' G (.bool (!b)):=by
 unfold q0t at h;split at h
 ·simp only[qI]at h;subst h;simp only[aj,Value.bool.injEq]at hr;subst hr;rfl
 ·simp only[qI]at h;subst h;simp only[aj,Value.bool.injEq]at hr;subst hr;rfl
 ·cases h
def zog(hr:ai z5m z5g z5j G s a w){o:Oper}{s':St}(h:qzn P s o=some s'){N:Act->World->Prop}(hN:∀G' a' w',ai z5m z5g z5j G' s' a' w'->N a' w'):fe P o a w N:=by
 obtain⟨dst,op,ty,pos,after,guard⟩:=o;unfold qzn at h;split at h
 ·rename_i tt e1;simp only at e1;subst e1;split at h
  ·rename_i v hv;cases hb:Nat.blt tt s.n<;>rw[hb]at h<;>simp only[qT,qF,reduceCtorEq,qI]at h
   subst h;simp only at hv;have fin:∀u,(execOp a.eval ⟨some tt,op,ty,pos,after,guard⟩).run P w = .ok (.value u) w->aj v G u->(∀c,op ≠ .defer c)->fe P ⟨some tt,op,ty,pos,after,guard⟩ a w N:=by
    intro u hrun hru hd;refine eq hd ?_;unfold Oper.wp;rw[hrun];exact hN G _ _ (gn (v:=v) hr (by simp[St.add,hb,qT,List.nil_append]) hru)
   unfold zap at hv;split at hv
   ·rename_i x xT T;obtain⟨u,h1,h2⟩:=zua (xT:=xT) (w:=w) (fun v hv=>bn hr hv) hv
    exact fin u (by simp[execOp,h1]) h2 oC
   ·rename_i op t x y p;split at hv
    ·rename_i ms hu;unfold ifV at hv;split at hv
     ·rename_i u1 u2 e1 e2;have r1:=bn hr e1;have r2:=bn hr e2;split at hv
      ·obtain⟨b,h2,h3⟩:=zan (w:=w) hu hv r1 r2;exact fin (.bool b) (by simp only[execOp,Sem.run_bind,(h3 x y).1,Result.andThen_ok];rfl) h2 oC
      ·split at hv
       ·rename_i r hr';obtain⟨b,h2,h3⟩:=zan (w:=w) hu hr' r1 r2;exact fin (.bool (!b)) (by simp only[execOp,Sem.run_bind,(h3 x y).2,Result.andThen_ok];rfl) (zqd hv h2) oC
       ·cases hv
      ·cases hv
     ·cases hv
    ·cases hv
   ·cases hv
  ·cases h
 ·cases h
end
structure ia(z5m:World)(z5g:Gh)(z5j:List (Nat×ag))(G:Gh)(s:St)(a:Act)(w:World):Prop where
 defers:∃bs:List Nat,a.defers=bs.map (fun b=>{ target := .collected b,args:=#[] })/\bs.map some=s.df.map G.box
 frame:∀i x,ae s.fr i=some x->∃v,a.tmps[i]? = some v/\aj x G v
 fin:Fin z5m z5g z5j G s.hp w
def ai.lt{z5m:World}{z5g:Gh}{z5j:List (Nat×ag)}{G:Gh}{s:St}{a:Act}{w:World}(h:ai z5m z5g z5j G s a w):ia z5m z5g z5j G s a w:=⟨h.defers,h.frame,h.fin⟩
def ia.less{z5m:World}{z5g:Gh}{z5j:List (Nat×ag)}{G:Gh}{s s':St}{a:Act}{w:World}(h:ia z5m z5g z5j G s a w)(h1:s'.df=s.df)(h2:∀i x,ae s'.fr i=some x->ae s.fr i=some x)(h3:∀i x,ae s'.hp i=some x->x = .dead\/ae s.hp i=some x):ia z5m z5g z5j G s' a w:=
 ⟨by rw[h1];exact h.defers,fun i x hx=>h.frame i x (h2 i x hx),⟨⟨h.fin.mem.agree,h.fin.mem.one,fun n b hb=>by
  rcases h3 _ _ hb with rfl|hb
  ·trivial
  ·exact h.fin.mem.holds n b hb,fun n m b b' c k1 k2 e1 e2=>by
  rcases h3 _ _ k1 with rfl|k1
  ·cases e1
  ·rcases h3 _ _ k2 with rfl|k2
   ·cases e2
   ·exact h.fin.mem.apart n m b b' c k1 k2 e1 e2,h.fin.mem.tab⟩,h.fin.bel,h.fin.imm_le,h.fin.imm_new,fun n b c k1 e1=>by
  rcases h3 _ _ k1 with rfl|k1
  ·cases e1
  ·exact h.fin.base n b c k1 e1,h.fin.keep,h.fin.keepOwn⟩⟩
def qkm(f:FuncId):qh->Bool|.thr f' _=>Nat.beq f' f|_=>false
def zo8{f:FuncId}{k:qh}(h:qkm f k=true):∃ks,k = .thr f ks:=by
 cases k with|thr f' ks=>exact⟨ks,by rw[qN (show Nat.beq f' f=true from h)]⟩|_=>cases h
def ze6(s:St)(f:FuncId)(ys:List AV)(e:cf):Option Rq:=bif qkm f e.key then qkq s ys [] e else none
def qb6(tb:Tb)(s:St)(o:Oper):Option (Rq×List AV×Nat):=
 match o.op,o.dst with
 |.call { callee := .value g,args,argTypes:=_ },some t=>match s.ev g,s.evs args.toList with
  |some (.fn (.func f) [] cap),some xs=>match yv (ze6 s f (xs++cap)) tb.ents with|some q=>some (q,xs++cap,t)|none=>none
  |_,_=>none
 |_,_=>none
def qre{R:Type}(s:St)(x:Rq×List AV×Nat)(E:AV->St->Option R)(K:St->Option R):Option R:=
 x.1.K fun d=>match d with
  |.mem N xs hp r hp'=>match rg s True x.2.1 N xs hp r hp' x.2.2 with
   |some (_,s')=>match lr r with|some (t,n)=>E (ep t n) { s' with fr:=s.fr }|none=>K s'
   |none=>none
  |_=>none
def q04:AV->Option (TypeId×Int)|.iface t (.agg [.int .i64 n])=>some (t,n)|.iface t (.agg [.val (.int .i64 n)])=>some (t,n)|_=>none
def q03{R:Type}(s:St)(x:Operand)(E:AV->St->Option R):Option R:=match s.ev x with
 |some v=>match q04 v with|some (t,n)=>E (ep t n) s|none=>none
 |none=>none
section
variable{P:Program}{z5m:World}{z5g:Gh}{z5j:List (Nat×ag)}{G:Gh}{s:St}{a:Act}{w:World}{TT:List PanicEntry->Act->World->Prop}
def zqs{v:AV}{t:TypeId}{n:Int}(h:q04 v=some (t,n)){u:Value}(hr:aj v G u):u=wv t n:=by
 unfold q04 at h;split at h
 ·simp only[qI,qP]at h;obtain⟨rfl,rfl⟩:=h;obtain⟨u1,rfl,vs,rfl,h3⟩:=hr;obtain⟨l⟩:=vs
  match l,h3 with|[x],h3=>have:=h3.1;simp only[aj]at this;rw[this];rfl
 ·simp only[qI,qP]at h;obtain⟨rfl,rfl⟩:=h;obtain⟨u1,rfl,vs,rfl,h3⟩:=hr;obtain⟨l⟩:=vs
  match l,h3 with|[x],h3=>have:=h3.1;simp only[aj]at this;rw[this];rfl
 ·cases h
def zqr{R:Type}(hr:ai z5m z5g z5j G s a w){x:Operand}{o:Oper}(ho:o.op = .panic x){E:AV->St->Option R}{y:R}(h:q03 s x E=some y){N:Act->World->Prop}
  (hE:∀t n s',E (ep t n) s'=some y->∀G' a' w',ia z5m z5g z5j G' s' a' w'->TT [{ v:=wv t n,recovered:=false }] a' w'):rt P TT o a w N:=by
 obtain⟨dst,op,ty,pos,after,guard⟩:=o;simp only at ho;subst ho;unfold q03 at h;split at h
 ·rename_i v hv;split at h
  ·rename_i t n hp;have hu:=zqs hp (bn hr hv);have hrun:(execOp a.eval ⟨dst,.panic x,ty,pos,after,guard⟩).run P w = .halt (.panic (wv t n)) w:=by
    simp[execOp,Instr.panic,hu,wv,goPanic]
   refine zey oC ?_
   unfold Oper.wp;rw[hrun];exact⟨_,rfl,hE t n s h G a w hr.lt⟩
  ·cases h
 ·cases h
def ze4(hr:ai z5m z5g z5j G s a w){o:Oper}{g:Operand}{args:Array Operand}{tys:Array TypeId}{t:Tmp}(ho:o.op = .call { callee := .value g,args,argTypes:=tys })(hd:o.dst=some t){f:FuncId}{cap ys:List AV}(hg:s.ev g=some (.fn (.func f) [] cap))(hargs:s.evs args.toList=some ys)(hpl:Plain P f)
  {names:List (Nat×Nat)} {xs:List AV} {hp1 hp2:List (Nat×ag)} {r:AV} {ps:List Prop} {s':St} (hmc:rg s True (ys++cap) names xs hp1 r hp2 t=some (ps,s'))
  (k5:∀ps,bt false [] (AV.rens (au names) (ys++cap)) xs=some ps->aq ps) (k6:∀hpv ps,gx (au names) s.hp names=some hpv->jo hpv hp1=some ps->aq ps) :
  (ci P f xs hp1 r hp2->∀N:Act->World->Prop,(∀G' a' w',ai z5m z5g z5j G' s' a' w'->N a' w')->fe P o a w N) /\
  (∀x,ql1 P x f xs hp1 hp2->(∀G' w',ai z5m z5g z5j G' { s' with fr:=s.fr } a w'->TT [{ v:=wv x.1 x.2,recovered:=false }] a w')->∀N:Act->World->Prop,rt P TT o a w N):=by
 obtain⟨dst,op,ty,pos,after,guard⟩:=o;simp only at ho hd;subst ho hd;unfold rg at hmc;cases hbb:dn names&&o7 names&&bh (s.nx+32*t) s.hp&&Nat.blt t s.n<;>rw[hbb]at hmc<;>simp only[qT,qF,reduceCtorEq]at hmc
 simp only[qA,Nat.blt_eq]at hbb;obtain⟨⟨⟨hq1',_⟩,hq2⟩,hq3⟩:=hbb;split at hmc
 ·rename_i hpv ps1 hv hvs;split at hmc
  ·rename_i ps2 hvw;simp only[qI,qP]at hmc;obtain⟨rfl,rfl⟩:=hmc;have p1:=k5 _ hvs;have p2:=k6 _ _ hv hvw;obtain⟨fs,cs,hge,hfs,hcs⟩:=bn hr hg;have hfs0:fs=#[]:=Array.eq_empty_of_size_eq_zero (by simpa using hfs.length.symm)
   subst hfs0;have hrun:(execOp a.eval ⟨some t,.call { callee := .value g,args:=args,argTypes:=tys },ty,pos,after,guard⟩).run P w = .ok (.enter f (args.map a.eval++cs)) w:=by
    simp[execOp,resolve,hge,Deferred.ofValue,invoke,hpl _ w]
   have hreps:am (ys++cap) G ((args.toList.map a.eval)++cs.toList):=rn (yq hr hargs) hcs;have e1:((args.toList.map a.eval)++cs.toList).toArray=args.map a.eval++cs:=oC
   have hm:b8 (G.view names) hp1 w:=(hr.fin.mem.view hv (ym hq1')).vw hvw p2;have hreps2:=ko (Gh.le.refl _) (fun e=>by cases e) hvs p1 (am.ren (G:=G) (G':=G.view names) (fun _ _ _ h=>h) (ru names) (ut names) hreps)
   refine⟨fun hct N hN => ?_,fun x hct hE N => ?_⟩
   ·refine eq oC ?_
    unfold Oper.wp;rw[hrun];have:=hct w (G.view names) _ hm hreps2;rw[e1]at this;refine this.mono ?_;intro en w' hpost;obtain⟨G',v,rfl,hG⟩:=q0d hr hq1' hq2 hq3 hv hvw p2 hpost;exact hN _ _ _ hG
   ·refine zey oC ?_
    unfold Oper.wp;rw[hrun];have:=hct w (G.view names) _ hm hreps2;rw[e1]at this;refine this.mono ?_;intro en w' hpost;obtain⟨rfl,G',hf⟩:=hpost;obtain⟨G2,v,_,_,_,hR⟩:=qks (r := .undef) (e := .returned undef) hr hq1' hq2 oA hv hvw p2 ⟨undef,G',rfl,hf,trivial⟩
    exact⟨_,rfl,hE _ _ hR⟩
  ·cases hmc
 ·cases hmc
def ze3{tb:Tb}(hT:∀e∈tb.ents,e.Sound P){o:Oper}{q:Rq×List AV×Nat}(hq:qb6 tb s o=some q){d:D}(hd:q.1.Out d) :
  ∃g args tys t f cap ys names xs hp1 r hp2,o.op = .call { callee := .value g,args,argTypes:=tys }/\o.dst=some t/\s.ev g=some (.fn (.func f) [] cap)/\s.evs args.toList=some ys/\q.2=(ys++cap,t)/\d = .mem names xs hp1 r hp2/\Plain P f /\
   (match lr r with
    |none=>ci P f xs hp1 r hp2| some x=>ql1 P x f xs hp1 hp2) /\
   (∀ps,bt false [] (AV.rens (au names) (ys++cap)) xs=some ps->aq ps)/\(∀hpv ps,gx (au names) s.hp names=some hpv->jo hpv hp1=some ps->aq ps):=by
 unfold qb6 at hq;split at hq
 ·rename_i g args tys t e1 e2;split at hq
  ·rename_i f cap ys hg hargs;split at hq
   ·rename_i q1 hq1;have hq:=qJ hq;subst hq;obtain⟨e,hemem,hc⟩:=yw hq1;unfold ze6 at hc;cases hkk:qkm f e.key<;>rw[hkk]at hc<;>simp only[qT,qF,reduceCtorEq]at hc
    obtain⟨names,x1,x1',z,k1,k2,k3,k4,k5,k6⟩:=qkr hc hd;have hs:=hT e hemem x1 x1' z k1;obtain⟨ks,hks⟩:=zo8 hkk;rw[hks]at hs;exact⟨g,args,tys,t,f,cap,ys,names,_,_,_,_,e1,e2,hg,hargs,rfl,k2,hs.1,hs.2,k5,k6⟩
   ·cases hq
  ·cases hq
 ·cases hq
def ze5{tb:Tb}(hT:∀e∈tb.ents,e.Sound P)(hr:ai z5m z5g z5j G s a w){R:Type}{o:Oper}{q:Rq×List AV×Nat}(hq:qb6 tb s o=some q){E:AV->St->Option R}{K:St->Option R}{y:R}(h:qre s q E K=some y){N:Act->World->Prop}
  (hN:∀s',K s'=some y->∀G' a' w',ai z5m z5g z5j G' s' a' w'->N a' w')
  (hE:∀t n s',E (ep t n) s'=some y->∀G' a' w',ia z5m z5g z5j G' s' a' w'->TT [{ v:=wv t n,recovered:=false }] a' w'):rt P TT o a w N:=by
 unfold qre at h;obtain⟨d,hd,h⟩:=Rq.K_some h;obtain⟨g,args,tys,t,f,cap,ys,names,xs,hp1,r,hp2,ho,hdst,hg,hargs,hq2,rfl,hpl,hct,k5,k6⟩:=ze3 hT hq hd;simp only[hq2]at h;split at h
 ·rename_i ps s' hmc;obtain⟨c1,c2⟩:=ze4 (TT:=TT) hr ho hdst hg hargs hpl hmc k5 k6;split at h
  ·rename_i tx n hmk;rw[hmk]at hct;exact c2 _ hct (fun G' w' hR=>hE tx n _ h _ _ _ hR.lt) N
  ·rename_i hmk;rw[hmk]at hct;intro ops i b rest k cs h1 h2 h3;exact .inl (c1 hct N (fun G' a' w' hR=>hN _ h _ _ _ hR) ops i b rest k cs h1 h2 h3)
 ·cases h
def zuj{tb:Tb}(hT:∀e∈tb.ents,e.Sound P){t:St}{o:Oper}{q:Rq×List AV×Nat}(hq:qb6 tb t o=some q){N:List (Nat×Nat)}{xs:List AV}{hp1 hp2:List (Nat×ag)}{r:AV}(hd:q.1.Out (.mem N xs hp1 r hp2)){ps:List Prop}{md:Md}(hm:ww t True q.2.1 N xs hp1 r hp2 q.2.2=some (ps,md)) :
  (lr r=none->qgr P o t md) /\
  ∀x,lr r=some x->∀(st:St),qi o t st->t.n=st.n->∀(G:Gh)(a:Act)(w:World),ai z5m z5g z5j G st a w->(∀G' w',ai z5m z5g z5j G' { st with hp:=md.h++st.hp } a w'->TT [{ v:=wv x.1 x.2,recovered:=false }] a w')->∀N:Act->World->Prop,rt P TT o a w N:=by
 obtain⟨g,args,tys,tt,f,cap,ys,names,xs,hp1,r,hp2,ho,hdst,hg,hargs,hq2,e,hpl,hct,k5,k6⟩:=ze3 hT hq hd;cases e
 rw[hq2]at hm;simp only at hm;have core:∀(z5m:World)(z5g:Gh)(z5j:List (Nat×ag))(st:St),qi o t st->t.n=st.n->∀(G:Gh)(a:Act)(w:World),ai z5m z5g z5j G st a w->(ci P f xs hp1 r hp2->∀N:Act->World->Prop,(∀G' a' w',ai z5m z5g z5j G' (st.addM md) a' w'->N a' w')->fe P o a w N) /\
  (∀x,ql1 P x f xs hp1 hp2->(∀G' w',ai z5m z5g z5j G' { st.addM md with fr:=st.fr } a w'->TT [{ v:=wv x.1 x.2,recovered:=false }] a w')->∀N:Act->World->Prop,rt P TT o a w N):=by
  intro z5m z5g z5j st hs hn G a w hr;have hev:=hs.ev;rw[ho]at hev;have h1:t.ev g=st.ev g:=hev g oS
  have h2:t.evs args.toList=st.evs args.toList:=qe3 (fun x hx=>hev x (by simp[Op.operands,Call.operands];exact .inr (by simpa using hx)))
  rw[h1]at hg;rw[h2]at hargs;have hm':=zb0 hs.hp (hs.room tt hdst) hs.nx hn hm;refine ze4 (TT:=TT) hr ho hdst hg hargs hpl (zbz hm') k5 fun hpv ps hv hvw => ?_
  unfold ww at hm;cases hc:dn N&&o7 N&&bh (t.nx+32*tt) t.hp&&Nat.blt tt t.n<;>rw[hc]at hm<;>simp only[qT,qF,reduceCtorEq]at hm
  split at hm
  ·rename_i hpv' ps1 hv' hvs;have:=q2g hs.hp hv';rw[hv]at this;have:=qJ this;subst this;exact k6 _ _ hv' hvw
  ·cases hm
 refine⟨fun hmk st hs hn z5m z5g z5j G a w hr N hN => ?_,fun x hmk st hs hn G a w hr hE N => ?_⟩
 ·rw[hmk]at hct;exact(core z5m z5g z5j st hs hn G a w hr).1 hct N hN
 ·rw[hmk]at hct;exact(core z5m z5g z5j st hs hn G a w hr).2 x hct hE N
end
end Go.Sym
