/- What the claim rests on, part 2: gathered texts. -/
import Derived.RangeFuncRecord
import Derived.Laws.RangeAny
import Derived.Laws.MakeOwn
import Derived.Laws.IdiomStrings
import Derived.Laws.Cover4
import Derived.Test.YtiidadfafmcdmaaGreatDoorSyB1
namespace Go.Sym
open Go.RowKit
variable [LC]
theorem q60 {P:Program} {o:Oper} {t st:St} {d:D} {R:List Prop×AV×List (Nat×Box)} (h:anew P t d o=some R):aval P st d o.op=none:=by
 obtain⟨dst,op,ty,pos,after,guard⟩:=o;unfold anew at h;split at h
 ·rename_i ho _;simp only at ho;subst ho;rfl
 ·rename_i ho _;simp only at ho;subst ho;rfl
 ·rename_i ho _;simp only at ho;subst ho;rfl
 ·rename_i ho _;simp only at ho;subst ho;rfl
 ·rename_i ho _;simp only at ho;subst ho;rfl
 ·rename_i src dst x tt ho _;simp only at ho;subst ho;split at h
  ·rename_i sd E b hs hd hx;simp only[aval,hs];split
   ·rename_i v _ hv;have h0:∀ v,q37 P dst v=none:=fun v=>by unfold q37;rw[hd]
    have:q0v P dst v=none:=by unfold q0v;split<;>simp[h0]
    rw[this];simp only[hd]
   ·rfl
  ·cases h
 ·cases h
omit [LC] in
theorem zd8 {t st:St} {y:AV} {r:List AV×Nat} (hhp:∀ n b,look t.hp n=some b->look st.hp n=some b) (h:qqu t y=some r):qqu st y=some r:=by
 unfold qqu at h ⊢;split at h
 ·exact h
 ·exact h
 ·exact h
 ·split at h
  ·rename_i hb;simp only[hhp _ _ hb];exact h
  ·cases h
 ·split at h
  ·rename_i hb;simp only[hhp _ _ hb];exact h
  ·cases h
 ·cases h
omit [LC] in
theorem q06 {P:Program} {t st:St} {d:D} {ty ty2:TypeId} {old:List AV} {n:Nat} {y:AV} {r:List Prop×Box} (hhp:∀ n b,look t.hp n=some b->look st.hp n=some b) (h:qqk P t d ty ty2 old n y=some r):qqk P st d ty ty2 old n y=some r:=by
 unfold qqk at h ⊢;split at h
 ·split at h
  ·rename_i hsz hsrc;rw[zd8 hhp hsrc,hsz];exact h
  ·cases h
 ·cases h
omit [LC] in
mutual
theorem zp2 {b:Bool} {hp hp':List (Nat×Box)} (hhp:∀ n b,look hp n=some b->look hp' n=some b) {x y:AV} {ps:List Prop} (h:vw b hp x y=some ps):vw b hp' x y=some ps:=by
 unfold vw at h ⊢;split at h
 ·exact qw9 hhp h
 ·exact qw9 hhp h
 ·split at h
  ·rename_i h1 h2;rw[qw9 hhp h1,qw9 hhp h2];exact h
  ·cases h
 ·cases b
  ·cases h
  ·simp only[qT]at h ⊢;split at h
   ·rename_i hl;rw[hhp _ _ hl];exact h
   ·cases h
 ·exact h
 ·exact h
 ·exact h
 ·exact h
 ·exact h
theorem qw9 {b:Bool} {hp hp':List (Nat×Box)} (hhp:∀ n b,look hp n=some b->look hp' n=some b) {xs ys:List AV} {ps:List Prop} (h:vws b hp xs ys=some ps):vws b hp' xs ys=some ps:=by
 unfold vws at h ⊢;split at h
 ·exact h
 ·split at h
  ·rename_i h1;split at h
   ·rename_i h2;rw[zp2 hhp h1,qw9 hhp h2];exact h
   ·cases h
  ·cases h
 ·cases h
end
theorem zj0 {P:Program} {o:Oper} {t st:St} {d:D} {R:List Prop×AV×List (Nat×Box)} (hs:Sees o t st) (h:anew P t d o=some R):anew P st d o=some R:=by
 have hev:=hs.ev;have hroom:=hs.room;have hnx:=hs.nx;obtain⟨dst,op,ty,pos,after,guard⟩:=o;unfold anew at h ⊢;simp only at hev hroom h ⊢;split at h
 ·rename_i T tt;split at h
  ·rename_i cs hz;cases hb:AV.ones cs&&qah (t.nx+32*tt) t.hp<;>rw[hb]at h<;>simp only[qT,qF,reduceCtorEq]at h
   simp only[qA]at hb;rw[hb.1,hroom tt rfl,← hnx];exact h
  ·cases h
 ·rename_i T x tt;rw[← hev x (by simp[Op.operands])]
  split at h
  ·rename_i v hx;cases hb:AV.ones v.cells&&qah (t.nx+32*tt) t.hp<;>rw[hb]at h<;>simp only[qT,qF,reduceCtorEq]at h
   simp only[qA]at hb;have hr:=hroom tt rfl;rw[← hnx]at hr;simp only[hb.1,hr,← hnx,Bool.and_self,qT];exact h
  ·cases h
 ·rename_i g args tys tt;have h1:t.ev g=st.ev g:=hev g (by simp[Op.operands,Call.operands])
  have h2:t.evs args.toList=st.evs args.toList:=qyx (fun x hx=>hev x (by simp[Op.operands,Call.operands];exact .inr (by simpa using hx)))
  rw[← h1,← h2];split at h
  ·rename_i f cap xs bb xs' r hp' hg hargs;split at h
   ·rename_i pv hvw;cases hb:qta 32 hp'&&qah (t.nx+32*tt) t.hp&&(!bb||noRef r)<;>rw[hb]at h<;>simp only[qT,qF,reduceCtorEq]at h
    simp only[qA]at hb;have hr:=hroom tt rfl;rw[← hnx]at hr;rw[qw9 hs.hp hvw];simp only[hb.1.1,hb.2,hr,← hnx,Bool.and_self,qT];exact h
   ·cases h
  ·cases h
 ·rename_i args argTypes tt;split at h
  ·rename_i x y ty1 ty2 ha ht;have hm:∀ z∈args.toList,t.ev z=st.ev z:=fun z hz=>hev z (by simp[Op.operands,Call.operands];simpa using hz)
   rw[← hm x (by rw[ha];simp),← hm y (by rw[ha];simp)]
   split at h
   ·rename_i v hx hy;split at h
    ·rename_i ps b happ;cases hb:qah (t.nx+32*tt) t.hp<;>rw[hb]at h<;>simp only[qT,qF,reduceCtorEq]at h
     have hr:=hroom tt rfl;rw[← hnx]at hr;simp only[q06 hs.hp happ,hr,← hnx,qT];exact h
    ·cases h
   ·cases h
  ·cases h
 ·rename_i ty1 len parts tt;split at h
  ·rename_i ps b hbs;have:qkb P st d ty1 len parts.toList=some (ps,b):=by
    unfold qkb at hbs ⊢;rw[← qu6 (t:=t) (st:=st) (fun x hx=>hev x (by simpa [Op.operands] using hx))];exact hbs
   cases hb:qah (t.nx+32*tt) t.hp<;>rw[hb]at h<;>simp only[qT,qF,reduceCtorEq]at h
   have hr:=hroom tt rfl;rw[← hnx]at hr;simp only[this,hr,← hnx,qT];exact h
  ·split at h
   ·rename_i cs E hbc;have this:qnx P st d ty1 len parts.toList=some (cs,E):=by
     unfold qnx at hbc ⊢;rw[← qu6 (t:=t) (st:=st) (fun x hx=>hev x (by simpa [Op.operands] using hx))];exact hbc
    have that:qkb P st d ty1 len parts.toList=none:=by
     unfold qnx at hbc;split at hbc
     ·simp[qkb]
     ·cases hbc
    cases hb:qah (t.nx+32*tt) t.hp<;>rw[hb]at h<;>simp only[qT,qF,reduceCtorEq]at h
    have hr:=hroom tt rfl;rw[← hnx]at hr;simp only[this,that,hr,← hnx,qT];exact h
   ·cases h
 ·rename_i src dst x tt;rw[← hev x (by simp[Op.operands])]
  split at h
  ·rename_i sd E b hs1 hd hx;split at h
   ·rename_i he;cases hb:qah (t.nx+32*tt) t.hp<;>rw[hb]at h<;>simp only[qT,qF,reduceCtorEq]at h
    have hr:=hroom tt rfl;rw[← hnx]at hr;simp only[hr,← hnx,qT];exact h
   ·cases h
  ·cases h
 ·cases h
theorem q8z {P:Program} {o:Oper} {t st:St} {d:D} {R:List Prop×AV×List (Nat×Box)} (hs:Sees o t st) (h:aadd P t d o=some R):aadd P st d o=some R:=by
 unfold aadd at h ⊢;split at h
 ·rename_i ps v hv;rw[zjo hs hv];exact h
 ·rw[q60 h];exact zj0 hs h
omit [LC] in
theorem q9w {ops:Array Oper} {o:Oper} {t st:St} {j:Nat} {want:Bool} (hg:o.guard=some (j,want)) (hr:∀ d∈qka ops o,look t.fr d=look st.fr d):qub ops t j=qub ops st j:=by
 unfold qub
 cases hj:ops[j]? with
 | none=>rfl
 | some oj=>
  simp only
  cases hd:oj.dst with
  | none=>rfl
  | some d=>simp only;rw[hr d (by simp[qka,hg,hj,hd])]
theorem q2w {P:Program} {ops:Array Oper} {o:Oper} {t st:St} {c:Dec} {R:List Prop×AV×List (Nat×Box)} (hs:Sees o t st) (hr:∀ d∈qka ops o,look t.fr d=look st.fr d) (h:qt4 P ops t c o=some R):qt4 P ops st c o=some R:=by
 unfold qt4 at h ⊢;split at h
 ·exact q8z hs h
 ·rename_i j want hg;rw[← q9w hg hr];split at h
  ·cases h
  ·exact h
  ·rename_i b hb;cases hq:c.1==want<;>rw[hq]at h<;>simp only[qT,qF]at h ⊢
   ·exact h
   ·split at h
    ·rename_i ps v new ha;rw[q8z hs ha];exact h
    ·cases h
section
variable {P:Program} {vbr:World} {vbm:Gh} {vbo:List (Nat×Box)} {G:Gh} {s:St} {a:Act} {w:World}
theorem q75 (hr:Rel vbr vbm vbo G s a w) {ops:Array Oper} {i:Nat} {o:Oper} {c:Dec} {ps:List Prop} {v:AV} {new:List (Nat×Box)} {s':St} (ho:ops[i]? = some o) (h:qt4 P ops s c o=some (ps,v,new)) (hp:Alls ps) (hs:s.add o.dst v new=some s')
  {N:Act->World->Prop} (hN:∀ G' a' w',Rel vbr vbm vbo G' s' a' w'->N a' w'):dOp P ops i N a w:=by
 unfold qt4 at h;split at h
 ·rename_i hg;exact q5d ho (by simp[Region.wanted,hg]) (qat (qtl h) (zbl hr h hp hs hN))
 ·rename_i j want hg;split at h
  ·cases h
  ·rename_i hb;have hy:=qw3 hr hb;simp only[qI,qP]at h;obtain⟨rfl,rfl,rfl⟩:=h;exact q6r ho (by simp[Region.wanted,hg,hy]) (hN _ _ _ (qd7 hr hs rfl))
  ·rename_i b hb;have hy:=qw3 hr hb;cases hq:c.1==want<;>rw[hq]at h<;>simp only[qT,qF]at h
   ·simp only[qI,qP]at h;obtain⟨rfl,rfl,rfl⟩:=h;simp only[Alls,and_true]at hp;exact q6r ho (by
     simp only[Region.wanted,hg,hy,hp];simp only[beq_eq_false_iff_ne,ne_eq]at hq;simpa using hq) (hN _ _ _ (qd7 hr hs rfl))
   ·split at h
    ·rename_i ps' v' new' ha;simp only[qI,qP]at h;obtain⟨rfl,rfl,rfl⟩:=h;obtain⟨hp1,hp2⟩:=hp;exact q5d ho (by simp only[Region.wanted,hg,hy,hp1];simpa using hq) (qat (qtl ha) (zbl hr ha hp2 hs hN))
    ·cases h
structure St.eqv (s t:St):Prop where
 n:s.n=t.n
 nx:s.nx=t.nx
 fr:∀ i,look s.fr i=look t.fr i
 hp:∀ i,look s.hp i=look t.hp i
 df:s.df=t.df
theorem Rel.eqv (hr:Rel vbr vbm vbo G s a w) {t:St} (h:s.eqv t):Rel vbr vbm vbo G t a w:=by
 refine⟨by rw[← h.df];exact hr.defers,by rw[hr.size,h.n],fun i x hx=>hr.frame i x (by rw[h.fr];exact hx),fun m hm hl=>hr.fresh m (by rw[h.nx];exact hm) (by rw[h.hp];exact hl),⟨⟨hr.fin.mem.agree,hr.fin.mem.one,fun n bx hb=>hr.fin.mem.holds n bx (by rw[h.hp];exact hb),fun n m bx bx' b h1 h2=>hr.fin.mem.apart n m bx bx' b (by rw[h.hp];exact h1) (by rw[h.hp];exact h2),hr.fin.mem.tab⟩,hr.fin.bel,hr.fin.imm_le,hr.fin.imm_new,fun n bx b h1=>hr.fin.base n bx b (by rw[h.hp];exact h1),hr.fin.keep,hr.fin.keepOwn⟩⟩
def inR (lo:Nat) (l:List (Nat×Box)):Prop:=∀ e∈l,lo<=e.1/\e.1<lo+32
omit [LC] in
theorem qys {ρ:Nat->Option Nat} {k:Nat}:∀ {l:List (Nat×Box)},qta 32 l=true->inR k (qm3 ρ k l)
 | [],_=>by intro e he;cases he
 | (n,b)::r,h=>by
  simp only[qta,qA,Nat.blt_eq]at h;intro e he;rcases List.mem_cons.1 he with rfl|he
  ·exact⟨by simp,by simp;omega⟩
  ·exact qys h.2 e he
theorem zd5 {o:Oper} {t:St} {d:D} {ps:List Prop} {v:AV} {new:List (Nat×Box)} {k:Nat} (hd:o.dst=some k) (h:anew P t d o=some (ps,v,new)):inR (t.nx+32*k) new:=by
 obtain⟨dst,op,ty,pos,after,guard⟩:=o;simp only at hd;subst hd;unfold anew at h;simp only at h;split at h
 ·rename_i T tt hh;injection hh with hh;subst hh
  split at h
  ·rename_i cs hz;cases hb:AV.ones cs&&qah (t.nx+32*k) t.hp<;>rw[hb]at h<;>simp only[qT,qF,reduceCtorEq,qI,qP]at h
   obtain⟨_,_,rfl⟩:=h;intro e he;simp at he;subst he;exact⟨by simp,by simp⟩
  ·cases h
 ·rename_i T x tt hh;injection hh with hh;subst hh
  split at h
  ·rename_i v hx;cases hb:AV.ones v.cells&&qah (t.nx+32*k) t.hp<;>rw[hb]at h<;>simp only[qT,qF,reduceCtorEq,qI,qP]at h
   obtain⟨_,_,rfl⟩:=h;intro e he;simp at he;subst he;exact⟨by simp,by simp⟩
  ·cases h
 ·rename_i g args tys tt hh;injection hh with hh;subst hh
  split at h
  ·rename_i bb _ r hp' hg hargs;split at h
   ·cases hb:qta 32 hp'&&qah (t.nx+32*k) t.hp&&(!bb||noRef r)<;>rw[hb]at h<;>simp only[qT,qF,reduceCtorEq,qI,qP]at h
    obtain⟨_,_,rfl⟩:=h;simp only[qA]at hb;exact qys hb.1.1
   ·cases h
  ·cases h
 ·rename_i args argTypes tt hh;injection hh with hh;subst hh
  split at h
  ·split at h
   ·split at h
    ·cases hb:qah (t.nx+32*k) t.hp<;>rw[hb]at h<;>simp only[qT,qF,reduceCtorEq,qI,qP]at h
     obtain⟨_,_,rfl⟩:=h;intro e he;simp at he;subst he;exact⟨by simp,by simp⟩
    ·cases h
   ·cases h
  ·cases h
 ·rename_i ty1 len parts tt hh;injection hh with hh;subst hh
  split at h
  ·cases hb:qah (t.nx+32*k) t.hp<;>rw[hb]at h<;>simp only[qT,qF,reduceCtorEq,qI,qP]at h
   obtain⟨_,_,rfl⟩:=h;intro e he;simp at he;subst he;exact⟨by simp,by simp⟩
  ·split at h
   ·cases hb:qah (t.nx+32*k) t.hp<;>rw[hb]at h<;>simp only[qT,qF,reduceCtorEq,qI,qP]at h
    obtain⟨_,_,rfl⟩:=h;intro e he;simp at he;subst he;exact⟨by simp,by simp⟩
   ·cases h
 ·rename_i src dst x tt hh;injection hh with hh;subst hh
  split at h
  ·split at h
   ·cases hb:qah (t.nx+32*k) t.hp<;>rw[hb]at h<;>simp only[qT,qF,reduceCtorEq,qI,qP]at h
    obtain⟨_,_,rfl⟩:=h;intro e he;simp at he;subst he;exact⟨by simp,by simp⟩
   ·cases h
  ·cases h
 ·cases h
theorem q4z {o:Oper} {t:St} {d:D} {ps:List Prop} {v:AV} {new:List (Nat×Box)} {k:Nat} (hd:o.dst=some k) (h:aadd P t d o=some (ps,v,new)):inR (t.nx+32*k) new:=by
 unfold aadd at h;split at h
 ·simp only[qI,qP]at h;obtain⟨_,_,rfl⟩:=h;intro e he;cases he
 ·exact zd5 hd h
theorem q00 {ops:Array Oper} {o:Oper} {t:St} {c:Dec} {ps:List Prop} {v:AV} {new:List (Nat×Box)} {k:Nat} (hd:o.dst=some k) (h:qt4 P ops t c o=some (ps,v,new)):inR (t.nx+32*k) new:=by
 unfold qt4 at h;split at h
 ·exact q4z hd h
 ·split at h
  ·cases h
  ·simp only[qI,qP]at h;obtain⟨_,_,rfl⟩:=h;intro e he;cases he
  ·rename_i j want _ _ b _;cases hq:c.1==want<;>rw[hq]at h<;>simp only[qT,qF]at h
   ·simp only[qI,qP]at h;obtain⟨_,_,rfl⟩:=h;intro e he;cases he
   ·split at h
    ·rename_i ha;simp only[qI,qP]at h;obtain⟨_,_,rfl⟩:=h;exact q4z hd ha
    ·cases h
omit [LC] in
theorem qu3:∀ {l:List (Nat×Box)} {m:Nat} {b:Box},look l m=some b->(m,b)∈l
 | [],m,b,h=>by cases h
 | (k,v)::r,m,b,h=>by
  simp only[look]at h;cases hb:Nat.beq k m
  ·rw[hb]at h;exact qE _ (qu3 h)
  ·rw[hb]at h;simp only[qT,qI]at h;subst h;rw[← qN hb];exact qH
omit [LC] in
theorem qj7 {lo:Nat}:∀ {l:List (Nat×Box)},qah lo l=true↔∀ e∈l,e.1<lo\/lo+32<=e.1
 | []=>by simp[qah]
 | (n,b)::r=>by
  simp only[qah,qA,Bool.or_eq_true,Nat.blt_eq,Nat.ble_eq,qj7 (l:=r),wE,forall_eq_or_imp]
def addL (Rs:List HR):List Nat->St->St
 | [],s=>s
 | i::L,s=>match Rs[i]? with
  | some r=>(addL Rs L s).addR r
  | none=>addL Rs L s
omit [LC] in
theorem qx6 (Rs:List HR):∀ (A B:List Nat) (s:St),addL Rs (A++B) s=addL Rs A (addL Rs B s)
 | [],B,s=>rfl
 | i::A,B,s=>by simp only[wK,addL,qx6 Rs A B s]
omit [LC] in
theorem q3w {Rs:List HR} {sel:List Nat}:∀ (rs:List HR) (j:Nat) (t:St),(∀ k,k<rs.length->Rs[j+k]? = rs[k]?)->qxl sel rs j t=addL Rs (((List.range' j rs.length).filter (memN sel)).reverse) t
 | [],j,t,_=>rfl
 | r::rs,j,t,h=>by
  have h0:Rs[j]? = some r:=by simpa using h 0 (by simp)
  rw[qxl,q3w rs (j+1) _ (fun k hk=>by have:=h (k+1) (by simp;omega);rw[show j+1+k=j+(k+1) by omega,this];simp),qL,List.range'_succ]
  cases hm:memN sel j
  ·rw[List.filter_cons_of_neg (by simp[hm])];rfl
  ·rw[List.filter_cons_of_pos hm,List.reverse_cons,qx6];simp only[addL,h0,qT]
omit [LC] in
theorem q9j {Rs:List HR}:∀ (rs:List HR) (j:Nat) (t:St),(∀ k,k<rs.length->Rs[j+k]? = rs[k]?)->qsx rs t=addL Rs ((List.range' j rs.length).reverse) t
 | [],j,t,_=>rfl
 | r::rs,j,t,h=>by
  have h0:Rs[j]? = some r:=by simpa using h 0 (by simp)
  rw[qsx,q9j rs (j+1) _ (fun k hk=>by have:=h (k+1) (by simp;omega);rw[show j+1+k=j+(k+1) by omega,this];simp),qL,List.range'_succ,List.reverse_cons,qx6]
  simp only[addL,h0]
omit [LC] in
theorem qv6 (Rs:List HR):∀ (L:List Nat) (s:St),(addL Rs L s).n=s.n/\(addL Rs L s).nx=s.nx
 | [],s=>⟨rfl,rfl⟩
 | i::L,s=>by
  simp only[addL];split
  ·exact qv6 Rs L s
  ·exact qv6 Rs L s
omit [LC] in
theorem q62 (Rs:List HR):∀ (L:List Nat) (s:St),(addL Rs L s).df=s.df
 | [],s=>rfl
 | i::L,s=>by
  simp only[addL];split
  ·exact q62 Rs L s
  ·exact q62 Rs L s
structure Head (s:St) (Rs:List HR):Prop where
 dst:∀ (i j:Nat) (r r':HR),Rs[i]? = some r->Rs[j]? = some r'->r.dst=r'.dst->i=j
 names:∀ (i:Nat) (r:HR),Rs[i]? = some r->inR (s.nx+32*r.dst) r.new
 room:∀ (i:Nat) (r:HR),Rs[i]? = some r->qah (s.nx+32*r.dst) s.hp=true
omit [LC] in
theorem qrt {Rs:List HR} (hh:Head s Rs):∀ {L:List Nat} {i:Nat} {r:HR},i∈L->Rs[i]? = some r->look (addL Rs L s).fr r.dst=some r.v
 | j::L,i,r,hi,hr=>by
  simp only[addL];by_cases hij:j=i
  ·subst hij;rw[hr];simp only[St.addR,look];rw[show Nat.beq r.dst r.dst=true by simp];rfl
  ·have hi':i∈L:=by
    rcases List.mem_cons.1 hi with h|h;· exact absurd h.symm hij
    ·exact h
   split
   ·rename_i r' hr';have hne:Nat.beq r'.dst r.dst=false:=by
     cases hb:Nat.beq r'.dst r.dst
     ·rfl
     ·exact absurd (hh.dst _ _ _ _ hr' hr (qN hb)) hij
    simp only[St.addR,look,hne,qF];exact qrt hh hi' hr
   ·exact qrt hh hi' hr
omit [LC] in
theorem qse {Rs:List HR} {d:Nat}:∀ {L:List Nat},(∀ i∈L,∀ r:HR,Rs[i]? = some r->r.dst≠d)->look (addL Rs L s).fr d=look s.fr d
 | [],_=>rfl
 | j::L,h=>by
  simp only[addL];have ih:=qse (L:=L) (fun i hi=>h i (qE _ hi))
  split
  ·rename_i r hr;have hne:Nat.beq r.dst d=false:=by
    cases hb:Nat.beq r.dst d
    ·rfl
    ·exact absurd (qN hb) (h j qH r hr)
   simp only[St.addR,look,hne,qF];exact ih
  ·exact ih
omit [LC] in
theorem qz8 {Rs:List HR} (hh:Head s Rs):∀ {L:List Nat} {i:Nat} {r:HR} {m:Nat} {b:Box},i∈L->Rs[i]? = some r->look r.new m=some b->look (addL Rs L s).hp m=some b
 | j::L,i,r,m,b,hi,hr,hb=>by
  simp only[addL];by_cases hij:j=i
  ·subst hij;rw[hr];simp only[St.addR];rw[qe9,hb]
  ·have hi':i∈L:=by
    rcases List.mem_cons.1 hi with h|h;· exact absurd h.symm hij
    ·exact h
   have ih:=qz8 hh hi' hr hb;split
   ·rename_i r' hr';have hne:r'.dst≠r.dst:=fun e=>hij (hh.dst _ _ _ _ hr' hr e)
    simp only[St.addR];rw[qe9]
    cases hq:look r'.new m with
    | none=>exact ih
    | some b'=>
     have h1:=hh.names _ _ hr' _ (qu3 hq);have h2:=hh.names _ _ hr _ (qu3 hb);simp only at h1 h2;omega
   ·exact ih
omit [LC] in
theorem qx7 {Rs:List HR} {m:Nat}:∀ {L:List Nat},(∀ i∈L,∀ r:HR,Rs[i]? = some r->look r.new m=none)->look (addL Rs L s).hp m=look s.hp m
 | [],_=>rfl
 | j::L,h=>by
  simp only[addL];have ih:=qx7 (L:=L) (fun i hi=>h i (qE _ hi))
  split
  ·rename_i r hr;simp only[St.addR];rw[qe9,h j qH r hr];exact ih
  ·exact ih
omit [LC] in
theorem qvq {Rs:List HR} (hh:Head s Rs) {L L':List Nat} (hs:∀ i∈L,i∈L') {m:Nat} {b:Box} (h:look (addL Rs L s).hp m=some b):look (addL Rs L' s).hp m=some b:=by
 by_cases hex:∃ i∈L,∃ r:HR,Rs[i]? = some r/\∃ b',look r.new m=some b'
 ·obtain⟨i,hi,r,hr,b',hb'⟩:=hex;rw[qz8 hh hi hr hb']at h;injection h with h;subst h
  exact qz8 hh (hs i hi) hr hb'
 ·rw[qx7 (fun i hi r hr=>by cases hq:look r.new m with|none=>rfl|some b'=>exact absurd ⟨i,hi,r,hr,b',hq⟩ hex)]at h
  rw[qx7]
  ·exact h
  ·intro i hi r hr
   cases hq:look r.new m with
   | none=>rfl
   | some b'=>
    have h1:=hh.names _ _ hr _ (qu3 hq);have h2:=qj7.1 (hh.room _ _ hr) _ (qu3 h);simp only at h1 h2;omega
omit [LC] in
theorem q86 {Rs:List HR} (hh:Head s Rs) {i:Nat} {r:HR} (hr:Rs[i]? = some r):∀ {L:List Nat},i∉L->qah (s.nx+32*r.dst) (addL Rs L s).hp=true
 | [],_=>hh.room i r hr
 | j::L,hi=>by
  simp only[addL];have ih:=q86 hh hr (L:=L) (fun h=>hi (qE _ h))
  split
  ·rename_i r' hr';have hne:r'.dst≠r.dst:=fun e=>hi (by rw[← hh.dst _ _ _ _ hr' hr e];exact qH)
   simp only[St.addR];rw[qj7];intro e he;rcases List.mem_append.1 he with he|he
   ·have:=hh.names _ _ hr' _ he;omega
   ·exact qj7.1 ih e he
  ·exact ih
end
end Go.Sym
namespace Go.Sym
open Go.RowKit
variable [LC]
section
variable {P:Program} {vbr:World} {vbm:Gh} {vbo:List (Nat×Box)} {s:St}
def HOk (P:Program) (ops:Array Oper) (s:St) (Rs:List HR) (i:Nat) (o:Oper):Prop:=
 ∃ r ps,∃ c:Dec,Rs[i]? = some r/\o.dst=some r.dst/\r.dst<s.n/\qah (s.nx+32*r.dst) s.hp=true/\qn4 (Rs.take i) o.after.toList=some r.pred/\qmv r.dst (Rs.take i)=true /\
  qlr r.pred (qka ops o) (Rs.take i) 0=true/\qjc ops r.dst r.pred i=true/\qt4 P ops (qxl r.pred (Rs.take i) 0 s) c o=some (ps,r.v,r.new)/\Alls ps
omit [LC] in
theorem qig {d:Nat}:∀ {rs:List HR},qmv d rs=true↔∀ r∈rs,r.dst≠d
 | []=>by simp[qmv]
 | r::rs=>by
  simp only[qmv,qA,Bool.not_eq_true',qig (rs:=rs),wE,forall_eq_or_imp];constructor
  ·rintro⟨h1,h2⟩;exact⟨fun e=>by subst e;simp at h1,h2⟩
  ·rintro⟨h1,h2⟩
   refine⟨?_,h2⟩;cases hb:Nat.beq r.dst d
   ·rfl
   ·exact absurd (qN hb) h1
omit [LC] in
theorem qrw {Rs:List HR}:∀ {es:List Edge} {l:List Nat},qn4 Rs es=some l ->
  (∀ e∈es,Region.binds .any e=true->e.on∈l)/\(∀ j∈l,∃ e∈es,Region.binds .any e=true/\(j=e.on\/∃ r,Rs[e.on]? = some r/\j∈r.pred))
 | [],l,h=>by simp only[qn4,qI]at h;subst h;exact⟨fun e he=>(by cases he),fun j hj=>(by cases hj)⟩
 | e::es,l,h=>by
  simp only[qn4]at h;cases hb:Region.binds .any e<;>rw[hb]at h<;>simp only[qT,qF]at h
  ·obtain⟨h1,h2⟩:=qrw h;refine⟨fun e' he' hbe => ?_,fun j hj => ?_⟩
   ·rcases List.mem_cons.1 he' with rfl|he'
    ·rw[hb]at hbe;cases hbe
    ·exact h1 e' he' hbe
   ·obtain⟨e',he',r⟩:=h2 j hj;exact⟨e',qE _ he',r⟩
  ·split at h
   ·rename_i r l' hr hl';simp only[qI]at h;subst h;obtain⟨h1,h2⟩:=qrw hl';refine⟨fun e' he' hbe => ?_,fun j hj => ?_⟩
    ·rw[qt3];rcases List.mem_cons.1 he' with rfl|he'
     ·exact .inl qH
     ·exact .inr (h1 e' he' hbe)
    ·rw[qt3]at hj;rcases hj with hj|hj
     ·rcases List.mem_cons.1 hj with rfl|hj
      ·exact⟨e,qH,hb,.inl rfl⟩
      ·exact⟨e,qH,hb,.inr ⟨r,hr,hj⟩⟩
     ·obtain⟨e',he',r⟩:=h2 j hj;exact⟨e',qE _ he',r⟩
   ·cases h
omit [LC] in
theorem quk {pred reads:List Nat}:∀ {rs:List HR} {j:Nat},qlr pred reads rs j=true->∀ k r,rs[k]? = some r->j+k∈pred\/r.dst∉reads
 | [],j,_,k,r,hr=>by simp at hr
 | r0::rs,j,h,k,r,hr=>by
  simp only[qlr,qA,Bool.or_eq_true,Bool.not_eq_true']at h
  cases k with
  | zero=>
   simp at hr;subst hr;rcases h.1 with h|h
   ·exact .inl (qct.1 h)
   ·exact .inr (fun hm=>by rw[qct.2 hm]at h;cases h)
  | succ k=>
   have:=quk h.2 k r (by simpa using hr)
   rwa [show j+(k+1)=j+1+k by omega]
omit [LC] in
theorem qtb {ops:Array Oper} {d:Nat} {pred:List Nat}:∀ {i:Nat},qjc ops d pred i=true->∀ j o,j<i->ops[j]? = some o->j∈pred\/d∉qka ops o
 | 0,_,j,o,hj,_=>by omega
 | i+1,h,j,o,hj,ho=>by
  simp only[qjc,qA,Bool.or_eq_true]at h;by_cases hij:j=i
  ·subst hij;rcases h.1 with h|h
   ·exact .inl (qct.1 h)
   ·rw[ho]at h;simp only[Bool.not_eq_true']at h;exact .inr (fun hm=>by rw[qct.2 hm]at h;cases h)
  ·exact qtb h.2 j o (by omega) ho
omit [LC] in
theorem qxw {o:Oper} {j:Nat} (h:q24 o j=true):∃ e∈o.after,e.on=j/\Region.binds .any e=true:=by
 obtain⟨e,he,hb⟩:=List.any_eq_true.1 h;simp only[qA]at hb;exact⟨e,by simpa using he,qN hb.1,hb.2⟩
omit [LC] in
theorem qzg:∀ {l:List Oper} {i:Nat},qzt l i=true->∀ j o,l[j]? = some o->q24 o (i+j-1)=true
 | [],i,_,j,o,ho=>by simp at ho
 | o0::l,i,h,j,o,ho=>by
  simp only[qzt,qA]at h
  cases j with
  | zero=>simp at ho;subst ho;exact h.1
  | succ j=>have:=qzg h.2 j o (by simpa using ho);rwa [show i+(j+1)-1=i+1+j-1 by omega]
omit [LC] in
theorem quz {L:List Nat}:∀ {es:List Edge},(∀ e∈es,Region.binds .any e=true->e.on∈L)->∀ j∈q0i es,j∈L
 | [],_,j,h=>by cases h
 | e::es,hL,j,h=>by
  simp only[q0i]at h;cases hb:Region.binds .any e<;>rw[hb]at h<;>simp only[qT,qF]at h
  ·exact quz (fun e he=>hL e (qE _ he)) j h
  ·rcases List.mem_cons.1 h with rfl|h
   ·exact hL e qH hb
   ·exact quz (fun e he=>hL e (qE _ he)) j h
omit [LC] in
theorem q2g {ops:Array Oper} {L:List Nat} (hcl:∀ i∈L,∀ o,ops[i]? = some o->∀ e∈o.after,Region.binds .any e=true->e.on∈L):∀ {n:Nat} {S:List Nat},(∀ j∈S,j∈L)->∀ j∈q7c ops n S,j∈L
 | 0,S,hS,j,h=>hS j h
 | n+1,S,hS,j,h=>by
  simp only[q7c]at h;refine q2g hcl (fun i hi => ?_) j h
  cases hb:memN S n<;>rw[hb]at hi<;>simp only[qT,qF]at hi
  ·exact hS i hi
  ·split at hi
   ·rename_i o ho;rcases List.mem_append.1 hi with hi|hi
    ·exact quz (fun e he hb'=>hcl n (hS n (qct.1 hb)) o ho e (by simpa using he) hb') i hi
    ·exact hS i hi
   ·exact hS i hi
omit [LC] in
theorem zdm {S:List Nat}:∀ {n:Nat},allN S n=true->∀ j,j<n->j∈S
 | 0,_,j,h=>by omega
 | n+1,h,j,hj=>by
  simp only[allN,qA]at h;by_cases e:j=n
  ·subst e;exact qct.1 h.1
  ·exact zdm h.2 j (by omega)
omit [LC] in
theorem qxk {ops:Array Oper} {n:Nat} (h:qk6 ops n=true) {o:Oper} (ho:ops[n]? = some o) {L:List Nat} (hcl:∀ i∈L,∀ o,ops[i]? = some o->∀ e∈o.after,Region.binds .any e=true->e.on∈L)
  (hL:∀ e∈o.after,Region.binds .any e=true->e.on∈L):∀ j,j<n->j∈L:=fun j hj=>by
 unfold qk6 at h;split at h
 ·rename_i hd;have:n<ops.size:=(Array.getElem?_eq_some_iff.1 ho).1;have:=congrArg List.length hd;simp at this;omega
 ·rename_i o' l hd;have:o'=o:=by
   have:=congrArg (fun l=>l[0]?) hd
   simp only[List.getElem?_drop,Nat.add_zero,List.getElem?_cons_zero,Array.getElem?_toList]at this;rw[ho]at this;injection this with this;exact this.symm
  subst this;simp only[qA]at h;exact q2g hcl (quz fun e he=>hL e (by simpa using he)) j (zdm h.1 j hj)
omit [LC] in
theorem qus {ops:Array Oper} {n:Nat} (h:qk6 ops n=true) {i:Nat} {o:Oper} (hi:n<i) (ho:ops[i]? = some o):q24 o (i-1)=true:=by
 unfold qk6 at h;split at h
 ·rename_i hd;have:i<ops.size:=(Array.getElem?_eq_some_iff.1 ho).1;have:=congrArg List.length hd;simp at this;omega
 ·rename_i o' l hd;simp only[qA]at h;have hl:l[i-(n+1)]? = some o:=by
   have:=congrArg (fun l=>l[i-n]?) hd
   simp only[List.getElem?_drop,Array.getElem?_toList]at this;rw[show n+(i-n)=i by omega,ho,show i-n=(i-(n+1))+1 by omega,List.getElem?_cons_succ]at this
   exact this.symm
  have:=qzg h.2 (i-(n+1)) o hl
  rwa [show n+1+(i-(n+1))-1=i-1 by omega]at this
omit [LC] in
theorem qb3:∀ {l:List Oper} {i:Nat},qia l i=true->∀ j o,l[j]? = some o->∀ e∈o.after,Region.binds .any e=true->e.on<i+j
 | [],i,_,j,o,ho=>by simp at ho
 | o0::l,i,h,j,o,ho=>by
  simp only[qia,qA]at h
  cases j with
  | zero=>
   simp at ho;subst ho;intro e he hb;have:=List.all_eq_true.1 h.1 e (by simpa using he)
   simp only[hb,Bool.not_true,Bool.false_or,Nat.blt_eq]at this;exact this
  | succ j=>have:=qb3 h.2 j o (by simpa using ho);rwa [show i+(j+1)=i+1+j by omega]
omit [LC] in
theorem qod {ops:Array Oper} {listed:Array Bool} {i:Nat}:i∈Region.ready .any ops listed↔i<ops.size/\listed.getD i true=false/\∃ o,ops[i]? = some o/\∀ e∈o.after,Region.binds .any e=true->listed.getD e.on false=true:=by
 unfold Region.ready;simp only[List.mem_filter,List.mem_range,qA,Bool.not_eq_true'];constructor
 ·rintro⟨h1,h2,h3⟩
  obtain⟨o,ho⟩:∃ o,ops[i]? = some o:=⟨ops[i],by simp[h1]⟩
  refine⟨h1,h2,o,ho,fun e he hb => ?_⟩
  rw[ho]at h3;simp only[wQ,Option.getD_some]at h3;have:=Array.all_eq_true'.1 h3 e he;simpa [hb] using this
 ·rintro⟨h1,h2,o,ho,h3⟩
  refine⟨h1,h2,?_⟩;rw[ho];simp only[wQ,Option.getD_some];refine Array.all_eq_true'.2 (fun e he => ?_)
  cases hb:Region.binds .any e
  ·simp
  ·simp[h3 e he hb]
omit [LC] in
theorem qsr:∀ (n:Nat) (L:List Nat),L.Nodup->(∀ i∈L,i<n)->L.length<=n
 | 0,L,_,h=>by
  cases L with
  | nil=>simp
  | cons x L=>have:=h x qH;omega
 | n+1,L,hd,h=>by
  by_cases hm:n∈L
  ·have:=qsr n (L.erase n) (hd.erase n) (fun i hi=>by
    have h1:=h i (List.mem_of_mem_erase hi);have h2:i≠n:=fun e=>by subst e;exact (hd.not_mem_erase) hi
    omega)
   rw[List.length_erase_of_mem hm]at this;omega
  ·have:=qsr n L hd (fun i hi=>by
    have h1:=h i hi;have h2:i≠n:=fun e=>hm (e▸hi)
    omega)
   omega
omit [LC] in
theorem q5t:∀ (n:Nat) (L:List Nat),(∀ i,i<n->i∈L)->n<=L.length
 | 0,L,_=>Nat.zero_le _
 | n+1,L,h=>by
  have hm:n∈L:=h n (by omega)
  have:=q5t n (L.erase n) (fun i hi=>(List.mem_erase_of_ne (by omega)).2 (h i (by omega)))
  rw[List.length_erase_of_mem hm]at this;have:0<L.length:=List.length_pos_of_mem hm;omega
structure Upto (ops:Array Oper) (m:Nat) (listed:Array Bool):Prop where
 size:listed.size=ops.size
 iff:∀ j,j<ops.size->(listed.getD j true=true↔j<m)
omit [LC] in
theorem zm1 {ops:Array Oper} {N:Act->World->Prop} {listed:Array Bool} {a:Act} {w:World} (hu:Upto ops ops.size listed) (h:N a w):dAny P ops N (ops.size-ops.size) listed a w:=by
 rw[Nat.sub_self];refine⟨?_,h⟩
 cases hq:Region.ready .any ops listed with
 | nil=>rfl
 | cons i r=>
  have hi:i∈Region.ready .any ops listed:=by rw[hq];exact qH
  obtain⟨h1,h2,_⟩:=qod.1 hi;rw[(hu.iff i h1).2 h1]at h2;cases h2
omit [LC] in
theorem zls {ops:Array Oper} {N:Act->World->Prop} {n m:Nat} (he:qia ops.toList 0=true) (ht:qk6 ops n=true) (hn:n<=m) (hms:m<ops.size) {listed:Array Bool} {a:Act} {w:World} (hu:Upto ops m listed)
  (h:dOp P ops m (fun a w=>∀ listed,Upto ops (m+1) listed->dAny P ops N (ops.size-(m+1)) listed a w) a w):dAny P ops N (ops.size-m) listed a w:=by
 obtain⟨k,hk⟩:∃ k,ops.size-m=k+1:=⟨ops.size-m-1,by omega⟩
 obtain⟨o,ho⟩:∃ o,ops[m]? = some o:=⟨ops[m],by simp[hms]⟩
 have hli:=hu.iff;have hsz:=hu.size;rw[hk];have hmr:m∈Region.ready .any ops listed:=by
  refine qod.2 ⟨hms,?_,o,ho,fun e hee hb => ?_⟩
  ·cases hq:listed.getD m true
   ·rfl
   ·have:=(hli m hms).1 hq;omega
  ·have:=qb3 he m o (by simpa using ho) e hee hb
   have hlt:e.on<m:=by omega
   have h5:=(hli e.on (by omega)).2 hlt
   rw[Array.getD_eq_getD_getElem?]at h5 ⊢;have:listed[e.on]? = some listed[e.on]:=by simp[show e.on<listed.size by omega]
   rw[this]at h5 ⊢;exact h5
 refine⟨fun hnil=>(by rw[hnil]at hmr;cases hmr),fun i hi => ?_⟩
 have him:i=m:=by
  obtain⟨i1,i2,oi,i3,i4⟩:=qod.1 hi;rcases Nat.lt_trichotomy i m with hlt|heq|hgt
  ·rw[(hli i i1).2 hlt]at i2;cases i2
  ·exact heq
  ·have hw:=qus ht (show n<i by omega) i3
   obtain⟨e,he1,he2,he3⟩:=qxw hw;have:=i4 e he1 he3;rw[he2]at this;have hf:listed.getD (i-1) true=false:=by
    cases hq:listed.getD (i-1) true
    ·rfl
    ·have:=(hli (i-1) (by omega)).1 hq;omega
   rw[Array.getD_eq_getD_getElem?]at this hf;have h6:listed[i-1]? = some listed[i-1]:=by simp[show i-1<listed.size by omega]
   rw[h6]at this hf;simp only[Option.getD_some]at this hf;rw[this]at hf;cases hf
 subst him;refine zbz (fun a w h => ?_) h
 have:=h (listed.setIfInBounds i true) ⟨by simp[hsz],fun j hj => ?_⟩
 ·rwa [show ops.size-(i+1)=k by omega]at this
 ·rw[Array.getD_eq_getD_getElem?,Array.getElem?_setIfInBounds];by_cases hij:i=j
  ·subst hij;simp[show i<listed.size by omega]
  ·rw[qW hij];have:=hli j hj;rw[Array.getD_eq_getD_getElem?]at this;rw[this];omega
structure Inv (ops:Array Oper) (n:Nat) (L:List Nat) (listed:Array Bool):Prop where
 nodup:L.Nodup
 lt:∀ i∈L,i<n
 size:listed.size=ops.size
 iff:∀ j,j<ops.size->(listed.getD j true=true↔j∈L)
 closed:∀ i∈L,∀ o,ops[i]? = some o->∀ e∈o.after,Region.binds .any e=true->e.on∈L
omit [LC] in
theorem Inv.getD_false {ops:Array Oper} {n:Nat} {L:List Nat} {listed:Array Bool} (h:Inv ops n L listed) {j:Nat} (hj:j<ops.size):listed.getD j false=true↔j∈L:=by
 rw[← h.iff j hj,Array.getD_eq_getD_getElem?,Array.getD_eq_getD_getElem?];have hj':j<listed.size:=by rw[h.size];exact hj
 have:listed[j]? = some listed[j]:=by simp[hj']
 rw[this];simp
omit [LC] in
theorem zc0 {Rs:List HR} (hh:Head s Rs) {n:Nat} (vbu:Rs.length=n) {L:List Nat} (hlt:∀ i∈L,i<n) (hall:∀ i,i<n->i∈L):(addL Rs L s).eqv (qsx Rs s):=by
 have he:=q9j (Rs:=Rs) Rs 0 s (fun k _=>by rw[wO])
 rw[he];have hmem:∀ j,j∈(List.range' 0 Rs.length).reverse↔j∈L:=fun j=>by
  rw[List.mem_reverse,List.mem_range'_1,vbu];exact⟨fun h=>hall j (by omega),fun h=>⟨by omega,by have:=hlt j h;omega⟩⟩
 refine⟨by rw[(qv6 Rs _ s).1,(qv6 Rs _ s).1],by rw[(qv6 Rs _ s).2,(qv6 Rs _ s).2],fun d => ?_,fun m => ?_,by rw[q62,q62]⟩
 ·by_cases hw:∃ j,j∈L/\∃ rj:HR,Rs[j]? = some rj/\rj.dst=d
  ·obtain⟨j,hj,rj,hrj,rfl⟩:=hw;rw[qrt hh hj hrj,qrt hh ((hmem j).2 hj) hrj]
  ·rw[qse (fun j hj rj hrj e=>hw ⟨j,hj,rj,hrj,e⟩),qse (fun j hj rj hrj e=>hw ⟨j,(hmem j).1 hj,rj,hrj,e⟩)]
 ·cases hq:look (addL Rs L s).hp m with
  | some b=>exact (qvq hh (fun j hj=>(hmem j).2 hj) hq).symm
  | none=>
   cases hq':look (addL Rs (List.range' 0 Rs.length).reverse s).hp m with
   | none=>rfl
   | some b=>rw[qvq hh (fun j hj=>(hmem j).1 hj) hq']at hq;cases hq
theorem zdh {ops:Array Oper} {n:Nat} {Rs:List HR} (hn:n<=ops.size) (hed:qia ops.toList 0=true) (hH:∀ i o,i<n->ops[i]? = some o->HOk P ops s Rs i o) {L:List Nat}
  (hcl:∀ i∈L,∀ o,ops[i]? = some o->∀ e∈o.after,Region.binds .any e=true->e.on∈L):∀ (i:Nat) (o:Oper) (r:HR),i<n->ops[i]? = some o->Rs[i]? = some r->(∀ e∈o.after,Region.binds .any e=true->e.on∈L)->(∀ j∈r.pred,j∈L/\j<i):=by
 intro i
 induction i using Nat.strongRecOn with
 | ind i ih=>
  intro o r hi ho hr hall j hj;obtain⟨r',ps,_,h1,_,_,_,h5,_⟩:=hH i o hi ho;rw[hr]at h1;injection h1 with h1;subst h1
  obtain⟨e,he,hb,hje⟩:=(qrw h5).2 j hj;have hlt:=qb3 hed i o (by simpa using ho) e (by simpa using he) hb
  have hlt':e.on<i:=by omega
  have heL:=hall e (by simpa using he) hb
  rcases hje with rfl|⟨re,hre,hje⟩
  ·exact⟨heL,hlt'⟩
  ·have hre':Rs[e.on]? = some re:=by rw[List.getElem?_take]at hre;rw[qX hlt']at hre;exact hre
   have hoe:ops[e.on]? = some ops[e.on]:=by simp
   have:=ih e.on hlt' ops[e.on] re (by omega) hoe hre' (hcl e.on heL _ hoe) j hje
   exact⟨this.1,by omega⟩
theorem ztb {ops:Array Oper} {n:Nat} {Rs:List HR} {N:Act->World->Prop} (hn:n<=ops.size) (hed:qia ops.toList 0=true) (ht:qk6 ops n=true) (vbu:Rs.length=n)
  (hH:∀ i o,i<n->ops[i]? = some o->HOk P ops s Rs i o) (hh:Head s Rs)
  (htail:∀ (G:Gh) (a:Act) (w:World) (listed:Array Bool),Rel vbr vbm vbo G (qsx Rs s) a w->Upto ops n listed->dAny P ops N (ops.size-n) listed a w) :
  ∀ (g:Nat) (L:List Nat) (listed:Array Bool) (G:Gh) (a:Act) (w:World),ops.size=g+L.length->Inv ops n L listed->Rel vbr vbm vbo G (addL Rs L s) a w->dAny P ops N g listed a w:=by
 intro g
 induction g with
 | zero=>
  intro L listed G a w hg hinv hr;have h1:=qsr n L hinv.nodup hinv.lt;have hnn:n=ops.size:=by omega
  have hall:∀ i,i<n->i∈L:=fun i hi=>by
   by_cases hm:i∈L
   ·exact hm
   ·have:=qsr n (i::L) (List.nodup_cons.2 ⟨hm,hinv.nodup⟩) (fun j hj=>by
     rcases List.mem_cons.1 hj with rfl|hj;· exact hi
     ·exact hinv.lt j hj)
    simp at this;omega
  have:=htail G a w listed (hr.eqv (zc0 hh vbu hinv.lt hall)) ⟨hinv.size,fun j hj=>by rw[hinv.iff j hj];exact⟨fun h=>hinv.lt j h,fun h=>hall j h⟩⟩
  rwa [hnn,Nat.sub_self]at this
 | succ g ih=>
  intro L listed G a w hg hinv hr;by_cases hall:∀ i,i<n->i∈L
  ·have h1:=qsr n L hinv.nodup hinv.lt;have h2:=q5t n L hall;have:=htail G a w listed (hr.eqv (zc0 hh vbu hinv.lt hall)) ⟨hinv.size,fun j hj=>by rw[hinv.iff j hj];exact⟨fun h=>hinv.lt j h,fun h=>hall j h⟩⟩
   rwa [show ops.size-n=g+1 by omega]at this
  ·
   have hex:∃ i,i<n/\i∉L/\∀ j,j<i->j∈L:=by
    have:∃ i,i<n/\i∉L:=by
     simpa using hall
    obtain⟨i,hi,hm⟩:=this;clear hall
    induction i using Nat.strongRecOn with
    | ind i ih=>
     by_cases hsm:∀ j,j<i->j∈L
     ·exact⟨i,hi,hm,hsm⟩
     ·have:∃ j,j<i/\j∉L:=by simpa using hsm
      obtain⟨j,hj,hjm⟩:=this;exact ih j hj (by omega) hjm
   obtain⟨i0,hi0,hm0,hsm0⟩:=hex;have hi0s:i0<ops.size:=by omega
   have h0r:i0∈Region.ready .any ops listed:=by
    refine qod.2 ⟨hi0s,?_,ops[i0],by simp,fun e he hb => ?_⟩
    ·cases hq:listed.getD i0 true
     ·rfl
     ·exact absurd ((hinv.iff i0 hi0s).1 hq) hm0
    ·have:=qb3 hed i0 ops[i0] (by simp) e he hb
     have hlt:e.on<i0:=by omega
     exact (hinv.getD_false (by omega)).2 (hsm0 _ hlt)
   refine⟨fun hnil=>(by rw[hnil]at h0r;cases h0r),fun i hi => ?_⟩
   obtain⟨i1,i2,o,i3,i4⟩:=qod.1 hi;have hiL:i∉L:=fun h=>by rw[(hinv.iff i i1).2 h]at i2;cases i2
   have hin:i<n:=by
    rcases Nat.lt_or_ge i n with h|h
    ·exact h
    ·rcases Nat.lt_or_ge n i with h|h
     ·obtain⟨e,he1,he2,he3⟩:=qxw (qus ht h i3);have:=i4 e he1 he3;rw[he2,hinv.getD_false (by omega)]at this
      have:=hinv.lt _ this;omega
     ·have:i=n:=by omega
      subst this;exact absurd (qxk ht i3 hinv.closed (fun e he hb=>by
       have hlt:=qb3 hed i o (by simpa using i3) e he hb
       exact (hinv.getD_false (by omega)).1 (i4 e he hb)) i0 hi0) hm0
   have hedge:∀ e∈o.after,Region.binds .any e=true->e.on∈L:=fun e he hb=>by
    have hlt:=qb3 hed i o (by simpa using i3) e he hb
    exact (hinv.getD_false (by omega)).1 (i4 e he hb)
   obtain⟨r,ps,c,h1,h2,h3,h4,h5,h6,h7,h8,h9,h10⟩:=hH i o hin i3;have hpred:=zdh hn hed hH hinv.closed i o r hin i3 h1 hedge;have hlen':∀ k,k<(Rs.take i).length->Rs[0+k]? = (Rs.take i)[k]? := fun k hk=>by
    rw[List.getElem?_take,qX (by simp at hk;omega),wO]
   have htk:(Rs.take i).length=i:=by simp;omega
   rw[q3w (Rs:=Rs) (Rs.take i) 0 s hlen',htk]at h9
   -- which slots and boxes the operation sees
   have hsel:∀ j,j∈((List.range' 0 i).filter (memN r.pred)).reverse↔j∈r.pred:=fun j=>by
    rw[List.mem_reverse,List.mem_filter,qct];constructor
    ·exact fun h=>h.2
    ·intro h;refine⟨?_,h⟩;rw[List.mem_range'_1];exact⟨by omega,by have:=(hpred j h).2;omega⟩
   have hreads:∀ d∈qka ops o,look (addL Rs ((List.range' 0 i).filter (memN r.pred)).reverse s).fr d=look (addL Rs L s).fr d:=fun d hd=>by
    by_cases hw:∃ j rj,Rs[j]? = some rj/\rj.dst=d/\(j∈r.pred\/j∈L)
    ·obtain⟨j,rj,hj,rfl,hjj⟩:=hw;have hjp:j∈r.pred:=by
      rcases hjj with h|h
      ·exact h
      ·
       have hjn:=hinv.lt j h;have hji:j≠i:=fun e=>hiL (e▸h)
       rcases Nat.lt_or_gt_of_ne hji with hlt|hgt
       ·rcases quk h7 j rj (by rw[List.getElem?_take,qX hlt];exact hj) with h'|h'
        ·simpa using h'
        ·exact absurd hd h'
       ·have hoj:ops[j]? = some ops[j]:=by simp
        obtain⟨rj',psj,cj,k1,k2,_,_,_,_,_,k8,_⟩:=hH j ops[j] hjn hoj;rw[hj]at k1;injection k1 with k1;subst k1
        rcases qtb k8 i o hgt i3 with h'|h'
        ·have:=zdh hn hed hH hinv.closed j ops[j] rj hjn hoj hj (hinv.closed j h _ hoj) i h';exact absurd this.1 hiL
        ·exact absurd hd h'
     rw[qrt hh ((hsel j).2 hjp) hj,qrt hh (hpred j hjp).1 hj]
    ·rw[qse (fun j hj rj hrj e=>hw ⟨j,rj,hrj,e,.inl ((hsel j).1 hj)⟩),qse (fun j hj rj hrj e=>hw ⟨j,rj,hrj,e,.inr hj⟩)]
   have hsees:Sees o (addL Rs ((List.range' 0 i).filter (memN r.pred)).reverse s) (addL Rs L s):=by
    refine⟨by rw[(qv6 Rs _ s).2,(qv6 Rs _ s).2],fun x hx => ?_,fun m b hb=>qvq hh (fun j hj=>(hpred j ((hsel j).1 hj)).1) hb,fun d hd => ?_⟩
    ·cases x with
     | tmp t=>
      exact hreads t (by simp only[qka];refine List.mem_append.2 (.inl ?_);rw[List.mem_filterMap];exact⟨.tmp t,hx,rfl⟩)
     | _=>rfl
    ·rw[h2]at hd;injection hd with hd;subst hd
     rw[(qv6 Rs _ s).2];exact q86 hh h1 hiL
   have h9':=q2w hsees hreads h9;have hadd:(addL Rs L s).add o.dst r.v r.new=some (addL Rs (i::L) s):=by
    rw[h2];have hbl:Nat.blt r.dst s.n=true:=by simpa using h3
    simp only[St.add,(qv6 Rs L s).1,hbl,qT,addL,h1,St.addR]
   refine q75 hr i3 h9' h10 hadd (fun G' a' w' hr'=>ih (i::L) _ G' a' w' (by simp;omega) ?_ hr')
   refine⟨List.nodup_cons.2 ⟨hiL,hinv.nodup⟩,fun j hj => ?_,by simp[hinv.size],fun j hj => ?_,fun j hj oj hoj e he hb => ?_⟩
   ·rcases List.mem_cons.1 hj with rfl|hj
    ·exact hin
    ·exact hinv.lt j hj
   ·rw[Array.getD_eq_getD_getElem?,Array.getElem?_setIfInBounds];by_cases hij:i=j
    ·subst hij;simp[hinv.size,i1]
    ·rw[qW hij];have:=hinv.iff j hj;rw[Array.getD_eq_getD_getElem?]at this;rw[this,wE];exact⟨fun h => .inr h,fun h=>h.resolve_left (fun e=>hij e.symm)⟩
   ·rcases List.mem_cons.1 hj with rfl|hj
    ·rw[i3]at hoj;injection hoj with hoj;subst hoj
     exact qE _ (hedge e he hb)
    ·exact qE _ (hinv.closed j hj oj hoj e he hb)
theorem zpm {ops:Array Oper} {n:Nat} {Rs:List HR} {N:Act->World->Prop} (hn:n<=ops.size) (hed:qia ops.toList 0=true) (ht:qk6 ops n=true) (hm:P.follows .mixedOrders=true) (vbu:Rs.length=n)
  (hH:∀ i o,i<n->ops[i]? = some o->HOk P ops s Rs i o)
  (htail:∀ (G:Gh) (a:Act) (w:World) (listed:Array Bool),Rel vbr vbm vbo G (qsx Rs s) a w->Upto ops n listed->dAny P ops N (ops.size-n) listed a w) {G:Gh} {a:Act} {w:World} (hr:Rel vbr vbm vbo G s a w) (id:Nat)
  (b:Frame) (k:List Item) (cs:List Frame) (hk:b.kind = .normal) :
  ∃ a' w',N a' w'/\Steps P (lone (b.atR a (.code (.region id ops true)::k)) cs w) (lone (b.atR a' k) cs w'):=by
 have hop:∀ i,i<n->ops[i]? = some (ops[i]?.getD default):=fun i hi=>by
  have:i<ops.size:=by omega
  simp[this]
 have hh:Head s Rs:=by
  refine⟨fun i j r r' hi hj hd => ?_,fun i r hi => ?_,fun i r hi => ?_⟩
  ·have hi':i<n:=by have:=(List.getElem?_eq_some_iff.1 hi).1;omega
   have hj':j<n:=by have:=(List.getElem?_eq_some_iff.1 hj).1;omega
   obtain⟨ri,_,_,k1,_,_,_,_,k6,_⟩:=hH i _ hi' (hop i hi');obtain⟨rj,_,_,l1,_,_,_,_,l6,_⟩:=hH j _ hj' (hop j hj');rw[hi]at k1;injection k1 with k1;subst k1
   rw[hj]at l1;injection l1 with l1;subst l1
   rcases Nat.lt_trichotomy i j with hlt|heq|hgt
   ·exact absurd hd (qig.1 l6 r (List.mem_of_getElem? (i:=i) (by rw[List.getElem?_take,qX hlt];exact hi)))
   ·exact heq
   ·exact absurd hd.symm (qig.1 k6 r' (List.mem_of_getElem? (i:=j) (by rw[List.getElem?_take,qX hgt];exact hj)))
  ·have hi':i<n:=by have:=(List.getElem?_eq_some_iff.1 hi).1;omega
   obtain⟨ri,ps,_,k1,k2,_,_,_,_,_,_,k9,_⟩:=hH i _ hi' (hop i hi');rw[hi]at k1;injection k1 with k1;subst k1
   have:=q00 k2 k9;have hlen':∀ k,k<(Rs.take i).length->Rs[0+k]? = (Rs.take i)[k]? := fun k hk=>by
    rw[List.getElem?_take,qX (by simp at hk;omega),wO]
   rw[q3w (Rs:=Rs) (Rs.take i) 0 s hlen',(qv6 Rs _ s).2]at this;exact this
  ·have hi':i<n:=by have:=(List.getElem?_eq_some_iff.1 hi).1;omega
   obtain⟨ri,_,_,k1,_,_,k4,_⟩:=hH i _ hi' (hop i hi');rw[hi]at k1;injection k1 with k1;subst k1
   exact k4
 refine q2z hm ?_ b k cs hk;refine ztb (vbr:=vbr) (vbm:=vbm) (vbo:=vbo) (N:=N) hn hed ht vbu hH hh htail ops.size [] _ G a _ (by simp) ?_ ?_
 ·refine⟨List.nodup_nil,fun i hi=>(by cases hi),by simp,fun j hj => ?_,fun i hi=>(by cases hi)⟩
  rw[Array.getD_eq_getD_getElem?];simp[hj]
 ·exact⟨hr.defers,hr.size,hr.frame,hr.fresh,⟨⟨hr.fin.mem.agree,hr.fin.mem.one,hr.fin.mem.holds,hr.fin.mem.apart,hr.fin.mem.tab⟩,⟨hr.fin.bel.os,hr.fin.bel.tape,hr.fin.bel.output,hr.fin.bel.size,hr.fin.bel.block⟩,hr.fin.imm_le,hr.fin.imm_new,hr.fin.base,hr.fin.keep,hr.fin.keepOwn⟩⟩
end
end Go.Sym
namespace Go.Sym
open Go.RowKit
variable [LC]
def St.ownNew (s:St) (k:Nat) (τ:Ty) (E:TypeId):St:={ s with hp:=(k,.row τ [] E)::s.hp }
def qyg:AV->Bool
 | .val (.slice none 0 0)=>true
 | _=>false
def St.ownNil (s:St) (i:Nat) (τ:Ty) (E:TypeId):Option St:=
 match look s.fr i with
 | some x=>bif qyg x&&qah (s.nx+32*i) s.hp then
   some { n:=s.n,fr:=(i,.own (s.nx+32*i))::s.fr,hp:=(s.nx+32*i,.row τ [] E)::s.hp,nx:=s.nx+32*s.n,df:=s.df } else none
 | none=>none
def St.ownCell (s:St) (b off:Nat) (τ:Ty) (E:TypeId):Option St:=
 match look s.hp b with
 | some (.cells cs T)=>match cs[off]? with
  | some x=>bif qyg x&&qah s.nx s.hp then
    some { n:=s.n,fr:=s.fr,hp:=(b,.cells (cs.set off (.own s.nx)) T)::(s.nx,.row τ [] E)::s.hp,nx:=s.nx+32*s.n,df:=s.df } else none
  | none=>none
 | _=>none
section
variable {P:Program} {vbr:World} {vbm:Gh} {vbo:List (Nat×Box)} {G:Gh} {s:St} {a:Act} {w:World}
theorem Rel.bump (hr:Rel vbr vbm vbo G s a w):Rel vbr vbm vbo G s.bump a w:=⟨hr.defers,hr.size,hr.frame,fun m hm hl=>hr.fresh m (by simp only[St.bump]at hm;omega) hl,hr.fin⟩
omit [LC] in
mutual
theorem Rep.frz {k:Nat} {y:AV} {G':Gh} (hle:G.le G') (hy:∀ v,Rep (.own k) G v->Rep y G' v):∀ {x:AV} {v:Value},Rep x G v->Rep (AV.frz k y x) G' v
 | .undef,_,_=>trivial
 | .int _ _,_,h=>h
 | .byte _,_,h=>h
 | .bool _,_,h=>h
 | .str _,_,h=>h
 | .val _,_,h=>h
 | .sl τ l,v,h=>(show Rep (.sl τ l) G v from h).le hle
 | .yld n,v,h=>(show Rep (.yld n) G v from h).le hle
 | .pn n,v,h=>(show Rep (.pn n) G v from h).le hle
 | .arr τ l,v,h=>(show Rep (.arr τ l) G v from h).le hle
 | .rop cs,v,h=>(show Rep (.rop cs) G v from h).le hle
 | .ptr b off,v,h=>(show Rep (.ptr b off) G v from h).le hle
 | .oel n sz i off,v,h=>(show Rep (.oel n sz i off) G v from h).le hle
 | .osl n sz lo,v,h=>(show Rep (.osl n sz lo) G v from h).le hle
 | .asl b n c,v,h=>(show Rep (.asl b n c) G v from h).le hle
 | .agg cs,_,⟨vs,h1,h2⟩=>⟨vs,h1,Reps.frz hle hy h2⟩
 | .tup cs,_,⟨vs,h1,h2⟩=>⟨vs,h1,Reps.frz hle hy h2⟩
 | .own n,v,h=>by
  simp only[AV.frz];cases hb:Nat.beq n k
  ·exact (show Rep (.own n) G v from h).le hle
  ·have:=qN hb;subst this;exact hy v h
 | .fn f first cap,_,⟨fs,cs,h1,h2,h3⟩=>⟨fs,cs,h1,Reps.frz hle hy h2,Reps.frz hle hy h3⟩
 | .iface t x,_,⟨u,h1,h2⟩=>⟨u,h1,Rep.frz hle hy h2⟩
theorem Reps.frz {k:Nat} {y:AV} {G':Gh} (hle:G.le G') (hy:∀ v,Rep (.own k) G v->Rep y G' v):∀ {xs:List AV} {vs:List Value},Reps xs G vs->Reps (AV.frzs k y xs) G' vs
 | [],[],_=>trivial
 | _x::_xs,_v::_vs,h=>⟨Rep.frz hle hy h.1,Reps.frz hle hy h.2⟩
 | [],_::_,h=>h.elim
 | _::_,[],h=>h.elim
end
omit [LC] in
theorem qz9 {k:Nat} {y:AV}:∀ {fr:List (Nat×AV)} {i:Nat} {x:AV},look (zg4 k y fr) i=some x->∃ x0,look fr i=some x0/\x=AV.frz k y x0
 | [],i,x,h=>by cases h
 | (n,z)::r,i,x,h=>by
  simp only[zg4,look]at h ⊢;cases hb:Nat.beq n i
  ·rw[hb]at h;exact qz9 h
  ·rw[hb]at h;simp only[qT,qI]at h ⊢;exact⟨z,rfl,h.symm⟩
omit [LC] in
theorem q0m {k:Nat} {y:AV}:∀ {hp:List (Nat×Box)} {i:Nat},look (zfu k y hp) i=(look hp i).map (frzB k y)
 | [],i=>rfl
 | (n,b)::r,i=>by
  simp only[zfu,look];cases hb:Nat.beq n i<;>simp[q0m (hp:=r)]
theorem Rel.freeze (hr:Rel vbr vbm vbo G s a w) {k:Nat} {s':St} (h:s.freeze k=some s'):∃ G',Rel vbr vbm vbo G' s' a w:=by
 unfold St.freeze at h;split at h
 ·rename_i τ l E hk;simp only[qI]at h;subst h;have hl1:∀ n bx,look [(k,Box.row τ l E)] n=some bx->n=k/\bx = .row τ l E:=fun n bx h=>by
   simp only[look]at h;cases hb:Nat.beq k n
   ·rw[hb]at h;cases h
   ·rw[hb]at h;simp only[qT,qI]at h;exact⟨(qN hb).symm,h.symm⟩
  have hlk:look [(k,Box.row τ l E)] k=some (.row τ l E):=by simp only[look];rw[show Nat.beq k k=true by simp];rfl
  have hf1:Fin vbr vbm vbo G ({ s with hp:=[(k,.row τ l E)] }:St).hp w:=by
   refine⟨⟨hr.fin.mem.agree,hr.fin.mem.one,fun n bx hb => ?_,fun n m bx bx' b h1 h2 _ _ => ?_,hr.fin.mem.tab⟩,hr.fin.bel,hr.fin.imm_le,hr.fin.imm_new,fun n bx b h1 h2 => ?_,hr.fin.keep,hr.fin.keepOwn⟩
   ·obtain⟨rfl,rfl⟩:=hl1 n bx hb;exact hr.fin.mem.holds _ _ hk
   ·obtain⟨rfl,_⟩:=hl1 n bx h1;obtain⟨rfl,_⟩:=hl1 m bx' h2;rfl
   ·obtain⟨rfl,rfl⟩:=hl1 n bx h1;exact hr.fin.base _ _ b hk h2
  obtain⟨z1,z2,z3,z4⟩:=qvo hf1
  let G':=G.allData [(k,.row τ l E)] w
  have hown:∀ v,Rep (.own k) G v->Rep (.sl τ l) G' v:=fun v hv=>z4 k τ l E v hlk hv
  have hnew:∀ b o v,G'.imm b o=some v->G.imm b o=some v\/G.at k (.row τ l E)=some b:=fun b o v h=>by
   simp only[G',Gh.allData]at h
   cases hq:G.imm b o with
   | some u=>rw[hq]at h;exact .inl h
   | none=>
    rw[hq]at h;simp only at h;split at h
    ·rename_i hin;obtain⟨n,τ1,l1,E1,i1,i2,_⟩:=hin;obtain⟨rfl,e⟩:=hl1 n _ i1;rw[e]at i2;exact .inr i2
    ·cases h
  have hother:∀ n bx B,n≠k->look s.hp n=some bx->G.at n bx=some B->(∀ o,G.imm B o=none)->∀ o,G'.imm B o=none:=fun n bx B hn h1 h2 h3 o=>by
   cases hq:G'.imm B o with
   | none=>rfl
   | some v=>
    rcases hnew B o v hq with h|h
    ·rw[h3]at h;cases h
    ·exact absurd (hr.fin.mem.apart n k bx _ B h1 hk h2 h) hn
  have hlook:∀ n bx,look ((k,Box.dead)::zfu k (.sl τ l) s.hp) n=some bx->bx = .dead\/(n≠k/\∃ b0,look s.hp n=some b0/\bx=frzB k (.sl τ l) b0):=fun n bx h=>by
   simp only[look]at h;cases hb:Nat.beq k n
   ·rw[hb]at h;simp only[qF]at h;rw[q0m]at h
    cases hq:look s.hp n with
    | none=>rw[hq]at h;cases h
    | some b0=>rw[hq]at h;simp only[wQ,qI]at h;exact .inr ⟨fun e=>by subst e;simp at hb,b0,rfl,h.symm⟩
   ·rw[hb]at h;simp only[qT,qI]at h;exact .inl h.symm
  have hat:∀ n b0,G'.at n (frzB k (.sl τ l) b0)=G.at n b0:=fun n b0=>by cases b0<;>rfl
  refine⟨G',⟨hr.defers,hr.size,fun i x hx => ?_,fun m hm hl => ?_,⟨⟨z2.agree,z2.one,fun n bx hb => ?_,fun n m bx bx' b h1 h2 h3 h4 => ?_,z2.tab⟩,hr.fin.bel,fun b o v h=>z1.imm _ _ _ (hr.fin.imm_le b o v h),fun b o v h => ?_,fun n bx b h1 h2 => ?_,hr.fin.keep,hr.fin.keepOwn⟩⟩⟩
  ·obtain⟨x0,h1,rfl⟩:=qz9 hx;obtain⟨v,h2,h3⟩:=hr.frame i x0 h1;exact⟨v,h2,Rep.frz z1 hown h3⟩
  ·refine hr.fresh m hm ?_;simp only[look]at hl;cases hb:Nat.beq k m
   ·rw[hb]at hl;simp only[qF]at hl;rw[q0m]at hl
    cases hq:look s.hp m with
    | none=>rfl
    | some b0=>rw[hq]at hl;cases hl
   ·rw[hb]at hl;cases hl
  ·rcases hlook n bx hb with rfl|⟨hn,b0,h0,rfl⟩
   ·trivial
   ·have hb0:=hr.fin.mem.holds n b0 h0;have ho:=hother n b0
    cases b0 with
    | cells cs T=>
     obtain⟨B,vs,h1,h2,h3,h4,h5⟩:=hb0;exact⟨B,vs,h1,h2,Reps.frz z1 hown h3,h4,ho B hn h0 (by simp[Gh.at,h1]) h5⟩
    | loop st pe f j fr ps tag D=>
     obtain⟨B,tmps,DB,h1,h2,h3,h4,h5,h6⟩:=hb0;refine⟨B,tmps,DB,h1,h2,h3,h4,fun i x hx => ?_,ho B hn h0 (by simp[Gh.at,h1]) h6⟩
     obtain⟨x0,q1,rfl⟩:=qz9 hx;obtain⟨v,q2,q3⟩:=h5 i x0 q1;exact⟨v,q2,Rep.frz z1 hown q3⟩
    | dfr=>
     obtain⟨B,h1,h2,h3⟩:=hb0;exact⟨B,h1,h2,ho B hn h0 (by simp[Gh.at,h1]) h3⟩
    | it s0 p0=>
     obtain⟨B,h1,h2,h3⟩:=hb0;exact⟨B,h1,h2,ho B hn h0 (by simp[Gh.at,h1]) h3⟩
    | row τ1 l1 E1=>
     obtain⟨ad,c,h1,h3⟩:=hb0;refine⟨ad,c,h1,?_⟩;rcases h3 with h3|⟨g,vs,fz,k1,k2,k3,k4,k5,k6,k7,k8,k9⟩
     ·exact .inl h3
     ·exact .inr ⟨g,vs,fz,k1,k2,k3,k4,k5,k6,Reps.data_le z1.imm k7,k8,ho g hn h0 (by subst k1;simp[Gh.at,h1]) k9⟩
    | dead=>trivial
  ·rcases hlook n bx h1 with rfl|⟨hn,b0,h0,rfl⟩
   ·cases h3
   ·rcases hlook m bx' h2 with rfl|⟨hm,b1,h5,rfl⟩
    ·cases h4
    ·rw[hat]at h3 h4;exact hr.fin.mem.apart n m b0 b1 b h0 h5 h3 h4
  ·rcases hnew b o v h with h|h
   ·exact hr.fin.imm_new b o v h
   ·exact .inr (hr.fin.base k _ b hk h)
  ·rcases hlook n bx h1 with rfl|⟨hn,b0,h0,rfl⟩
   ·cases h2
   ·rw[hat]at h2;exact hr.fin.base n b0 b h0 h2
 ·cases h
omit [LC] in
theorem zci {x:AV} (h:qyg x=true):x = .val (.slice none 0 0):=by
 unfold qyg at h;split at h
 ·rfl
 ·cases h
theorem Rel.ownNew (hr:Rel vbr vbm vbo G s a w) {k:Nat} (τ:Ty) (E:TypeId) (hk:look s.hp k=none) (hkx:s.nx<=k):∃ G',G.le G'/\G'.own k=some (none,0,0)/\Rel vbr vbm vbo G' (s.ownNew k τ E) a w:=by
 obtain⟨hkb,hko⟩:=hr.fresh k hkx hk;have hle:G.le (G.addOwn k (none,0,0)):=Gh.addOwn_le hko;have hl1:∀ n bx,look [(k,Box.row τ [] E)] n=some bx->n=k/\bx = .row τ [] E:=fun n bx h=>by
  simp only[look]at h;cases hb:Nat.beq k n
  ·rw[hb]at h;cases h
  ·rw[hb]at h;simp only[qT,qI]at h;exact⟨(qN hb).symm,h.symm⟩
 refine⟨G.addOwn k (none,0,0),hle,Gh.addOwn_self,⟨by obtain⟨bs,q1,q2⟩:=hr.defers;exact⟨bs,q1,qls hle.box q2⟩,hr.size,fun j x hx => ?_,fun m hm hlm => ?_,?_⟩⟩
 ·obtain⟨v,h1,h2⟩:=hr.frame j x hx;exact⟨v,h1,h2.le hle⟩
 ·simp only[St.ownNew,look]at hlm;cases hq:Nat.beq k m
  ·rw[hq]at hlm;obtain⟨h1,h2⟩:=hr.fresh m hm hlm;refine⟨h1,?_⟩;show (bif Nat.beq m k then some _ else G.own m)=none
   cases hbm:Nat.beq m k
   ·exact h2
   ·have:=qN hbm;subst this;simp at hq
  ·rw[hq]at hlm;cases hlm
 ·refine hr.fin.extend (new:=[(k,.row τ [] E)]) hle ⟨rfl,rfl,rfl,wF _,fun _ _ _=>rfl⟩ (fun _ _ _ h => .inl h) hr.fin.mem.agree hr.fin.mem.one ?_ ?_ ?_
  ·intro n bx h;obtain⟨rfl,_⟩:=hl1 n bx h;exact hk
  ·intro n bx h;obtain⟨rfl,rfl⟩:=hl1 n bx h;exact⟨⟨none,0,Gh.addOwn_self,.inl ⟨rfl,rfl,rfl⟩⟩,fun b hb=>by simp only[Gh.at,Gh.addOwn_self]at hb;cases hb⟩
  ·intro n m bx bx' b h1 h2 _ _;obtain⟨rfl,_⟩:=hl1 n bx h1;obtain⟨rfl,_⟩:=hl1 m bx' h2;rfl
theorem Rel.ownNil (hr:Rel vbr vbm vbo G s a w) {i:Nat} {τ:Ty} {E:TypeId} {s':St} (h:s.ownNil i τ E=some s'):∃ G',Rel vbr vbm vbo G' s' a w:=by
 unfold St.ownNil at h;split at h
 ·rename_i x hi;cases hb:qyg x&&qah (s.nx+32*i) s.hp<;>rw[hb]at h<;>simp only[qT,qF,reduceCtorEq,qI]at h
  subst h;simp only[qA]at hb;have hx:=zci hb.1;subst hx;obtain⟨G',hle,ho,hr'⟩:=hr.ownNew τ E (qb6 hb.2 _ (wF _) (by omega)) (by omega)
  refine⟨G',⟨hr'.defers,hr'.size,fun j x hx => ?_,fun m hm hl=>hr'.fresh m (by simp only at hm;show s.nx<=m;omega) hl,hr'.fin⟩⟩
  simp only[look]at hx;cases hq:Nat.beq i j
  ·rw[hq]at hx;exact hr'.frame j x hx
  ·rw[hq]at hx;simp only[qT,qI]at hx;subst hx;have:=qN hq;subst this;obtain⟨v,h1,h2⟩:=hr'.frame i _ hi;exact⟨v,h1,none,0,0,ho,h2⟩
 ·cases h
theorem Rel.ownCell (hr:Rel vbr vbm vbo G s a w) {b off:Nat} {τ:Ty} {E:TypeId} {s':St} (h:s.ownCell b off τ E=some s'):∃ G',Rel vbr vbm vbo G' s' a w:=by
 unfold St.ownCell at h;split at h
 ·rename_i cs T hb0;split at h
  ·rename_i x hx0;cases hb:qyg x&&qah s.nx s.hp<;>rw[hb]at h<;>simp only[qT,qF,reduceCtorEq,qI]at h
   subst h;simp only[qA]at hb;have hx:=zci hb.1;subst hx;have hk:=qb6 hb.2 s.nx (wF _) (by omega)
   obtain⟨G',hle,ho,hr'⟩:=hr.ownNew τ E hk (wF _);have hne:s.nx≠b:=fun e=>by rw[e,hb0]at hk;cases hk
   have hb1:look (s.ownNew s.nx τ E).hp b=some (.cells cs T):=by
    simp only[St.ownNew,look];cases hq:Nat.beq s.nx b
    ·exact hb0
    ·exact absurd (qN hq) hne
   obtain⟨B,vs,k1,k2,k3,k4,k5⟩:=hr'.fin.mem.holds _ _ hb1;refine⟨G',⟨hr'.defers,hr'.size,hr'.frame,fun m hm hl=>hr'.fresh m (by simp only at hm;show s.nx<=m;omega) ?_,?_⟩⟩
   ·simp only[look]at hl;cases hq:Nat.beq b m
    ·rw[hq]at hl;exact hl
    ·rw[hq]at hl;cases hl
   ·have hv:vs.toList[off]? = some (.slice none 0 0):=by
     obtain⟨v,h1,h2⟩:=qiq k3 hx0;simp only[Rep]at h2;subst h2;exact h1
    have hset:vs.toList.set off (.slice none 0 0)=vs.toList:=by
     obtain⟨hlt,he⟩:=List.getElem?_eq_some_iff.1 hv;rw[← he,List.set_getElem_self]
    refine hr'.fin.update (bx := .cells cs T) (bx' := .cells (cs.set off (.own s.nx)) T) hb1 (B:=B) k1 k1 ⟨rfl,rfl,rfl,wF _,fun _ _ _=>rfl⟩ ⟨B,vs,k1,k2,?_,k4,k5⟩ k5
    have:=qyf off k3 (x := .own s.nx) (v := .slice none 0 0) ⟨none,0,0,ho,rfl⟩
    rwa [hset]at this
  ·cases h
 ·cases h
end
end Go.Sym
namespace Go.Sym
open Go.RowKit
variable [LC]
def Ty.dec:(τ:Ty)->List AV->Option (τ.den×List AV)
 | .int k,x::r=>match x with
  | .int k' n=>bif decide (k'=k) then some (n,r) else none
  | .val (.int k' n)=>bif decide (k'=k) && !decide (k' = .u8) then some (n,r) else none
  | _=>none
 | .byte,x::r=>match x with
  | .byte c=>some (c,r)
  | .val (.int .u8 n)=>bif decide (0<=n)&&decide (n<256) then some (UInt8.ofNat n.toNat,r) else none
  | _=>none
 | .bool,x::r=>match x with
  | .bool b=>some (b,r)
  | .val (.bool b)=>some (b,r)
  | _=>none
 | .str,x::r=>match x with
  | .str s=>some (s,r)
  | _=>none
 | .unit,r=>some ((),r)
 | .prod a b,cs=>match a.dec cs with
  | some (x,r)=>match b.dec r with
   | some (y,r')=>some ((x,y),r')
   | none=>none
  | none=>none
 | .list a,x::r=>match x with
  | .sl a' l=>match Ty.eq? a' a with
   | some ⟨h⟩=>some (h▸l,r)
   | none=>none
  | .val (.slice none 0 0)=>some (([]:List a.den),r)
  | _=>none
 | .tree a,cs=>match a.dec cs with
  | some (v,x::r)=>match x with
   | .sl a' l=>match Ty.eq? a' (.tree a) with
    | some ⟨h⟩=>some (Tree.node v (h▸l:List (Ty.tree a).den),r)
    | none=>none
   | .val (.slice none 0 0)=>some (Tree.node v [],r)
   | _=>none
  | _=>none
 | _,[]=>none
omit [LC] in
theorem q45 {b:Bool} {hp:List (Nat×Box)}:∀ {xs ys xs' ys':List AV} {ps ps':List Prop},vws b hp xs ys=some ps->vws b hp xs' ys'=some ps'->vws b hp (xs++xs') (ys++ys')=some (ps++ps')
 | [],[],_,_,ps,ps',h,h'=>by simp only[vws,qI]at h;subst h;exact h'
 | x::xs,y::ys,xs',ys',ps,ps',h,h'=>by
  simp only[vws,wK]at h ⊢;split at h
  ·rename_i p1 h1;split at h
   ·rename_i p2 h2;simp only[qI]at h;subst h;rw[q45 h2 h',qS]
   ·cases h
  ·cases h
 | [],_::_,_,_,_,_,h,_=>by simp[vws]at h
 | _::_,[],_,_,_,_,h,_=>by simp[vws]at h
def qq9 (xs ys:List AV):Prop:=(∀ ρ,AV.rens ρ xs=xs)/\∃ ps,vws false [] xs ys=some ps/\Alls ps
omit [LC] in
theorem qq9.append {xs ys xs' ys':List AV} (h:qq9 xs ys) (h':qq9 xs' ys'):qq9 (xs++xs') (ys++ys'):=by
 obtain⟨h1,ps,h2,h3⟩:=h;obtain⟨h1',ps',h2',h3'⟩:=h';exact⟨fun ρ=>by rw[AV.rens_append,h1,h1'],_,q45 h2 h2',qal.2 ⟨h3,h3'⟩⟩
omit [LC] in
theorem qq9.one {x y:AV} (h:∀ ρ,x.ren ρ=x) {ps:List Prop} (hv:vw false [] x y=some ps) (hp:Alls ps):qq9 [x] [y]:=
 ⟨fun ρ=>by simp[AV.rens,h],ps++[],by simp[vws,hv],qal.2 ⟨hp,trivial⟩⟩
omit [LC] in
theorem qq9.same {x:AV} (h:∀ ρ,x.ren ρ=x) (hv:vw false [] x x=some [x=x]):qq9 [x] [x]:=qq9.one h hv ⟨rfl,trivial⟩
omit [LC] in
theorem zhv {a' a:Ty} (h:a'=a) (l:List a'.den):AV.sl a (h▸l)=AV.sl a' l:=by subst h;rfl
omit [LC] in
theorem qrg:∀ {τ:Ty} {cs:List AV} {d:τ.den} {r:List AV},τ.dec cs=some (d,r)->∃ vbt,cs=vbt++r/\qq9 vbt (τ.enc d)
 | .int k,x::cs,d,r,h=>by
  simp only[Ty.dec]at h;split at h
  ·rename_i k' n;cases hk:decide (k'=k)<;>rw[hk]at h<;>simp only[qT,qF,reduceCtorEq,qI]at h
   obtain⟨rfl,rfl⟩:=h;have:k'=k:=by simpa using hk
   subst this;exact⟨[.int k' d],rfl,qq9.same (fun ρ=>rfl) rfl⟩
  ·rename_i k' n;cases hk:decide (k'=k) && !decide (k' = .u8)<;>rw[hk]at h<;>simp only[qT,qF,reduceCtorEq,qI]at h
   obtain⟨rfl,rfl⟩:=h;simp only[qA,decide_eq_true_eq,Bool.not_eq_true',decide_eq_false_iff_not]at hk;obtain⟨rfl,hk⟩:=hk;refine⟨[.val (.int k' d)],rfl,qq9.one (y := .int k' d) (ps:=[AV.int k' d=q1i (.int k' d)]) (fun ρ=>rfl) rfl ⟨?_,trivial⟩⟩
   cases k'<;>first|rfl|exact absurd rfl hk
  ·cases h
 | .byte,x::cs,d,r,h=>by
  simp only[Ty.dec]at h;split at h
  ·rename_i c;simp only[qI]at h;obtain⟨rfl,rfl⟩:=h;exact⟨[.byte d],rfl,qq9.same (fun ρ=>rfl) rfl⟩
  ·rename_i n;cases hk:decide (0<=n)&&decide (n<256)<;>rw[hk]at h<;>simp only[qT,qF,reduceCtorEq,qI]at h
   obtain⟨rfl,rfl⟩:=h;refine⟨[.val (.int .u8 n)],rfl,qq9.one (y := .byte (UInt8.ofNat n.toNat)) (ps:=[AV.byte (UInt8.ofNat n.toNat)=q1i (.int .u8 n)]) (fun ρ=>rfl) rfl ⟨?_,trivial⟩⟩
   simp only[q1i,hk,qT]
  ·cases h
 | .bool,x::cs,d,r,h=>by
  simp only[Ty.dec]at h;split at h
  ·rename_i b;simp only[qI]at h;obtain⟨rfl,rfl⟩:=h;exact⟨[.bool d],rfl,qq9.same (fun ρ=>rfl) rfl⟩
  ·rename_i b;simp only[qI]at h;obtain⟨rfl,rfl⟩:=h;exact⟨[.val (.bool d)],rfl,qq9.one (y := .bool d) (ps:=[AV.bool d=q1i (.bool d)]) (fun ρ=>rfl) rfl ⟨rfl,trivial⟩⟩
  ·cases h
 | .str,x::cs,d,r,h=>by
  simp only[Ty.dec]at h;split at h
  ·rename_i b;simp only[qI]at h;obtain⟨rfl,rfl⟩:=h;exact⟨[.str d],rfl,qq9.same (fun ρ=>rfl) rfl⟩
  ·cases h
 | .unit,cs,d,r,h=>by
  simp only[Ty.dec,qI]at h;obtain⟨_,rfl⟩:=h;exact⟨[],rfl,fun ρ=>rfl,[],rfl,trivial⟩
 | .prod a b,cs,d,r,h=>by
  simp only[Ty.dec]at h;split at h
  ·rename_i x r1 h1;split at h
   ·rename_i y r2 h2;simp only[qI]at h;obtain⟨rfl,rfl⟩:=h;obtain⟨p1,rfl,s1⟩:=qrg h1;obtain⟨p2,rfl,s2⟩:=qrg h2;exact⟨p1++p2,by simp,s1.append s2⟩
   ·cases h
  ·cases h
 | .list a,x::cs,d,r,h=>by
  simp only[Ty.dec]at h;split at h
  ·rename_i a' l;split at h
   ·rename_i hh _;simp only[qI,qP]at h;obtain⟨rfl,rfl⟩:=h;exact⟨[.sl a' l],rfl,qq9.one (y := .sl a (hh▸l)) (ps:=[AV.sl a (hh▸l)=AV.sl a' l]) (fun ρ=>rfl) rfl ⟨zhv hh l,trivial⟩⟩
   ·cases h
  ·simp only[qI]at h;obtain⟨rfl,rfl⟩:=h;exact⟨[.val (.slice none 0 0)],rfl,qq9.one (y := .sl a []) (ps:=[([]:List a.den).length=0]) (fun ρ=>rfl) rfl ⟨rfl,trivial⟩⟩
  ·cases h
 | .tree a,cs,d,r,h=>by
  simp only[Ty.dec]at h;split at h
  ·rename_i v x r1 h1;obtain⟨p1,rfl,s1⟩:=qrg h1;split at h
   ·rename_i a' l;split at h
    ·rename_i hh _;simp only[qI]at h;obtain⟨rfl,rfl⟩:=h;exact⟨p1++[.sl a' l],by simp,s1.append (qq9.one (y := .sl (.tree a) (hh▸l)) (ps:=[AV.sl (.tree a) (hh▸l)=AV.sl a' l]) (fun ρ=>rfl) rfl ⟨zhv hh l,trivial⟩)⟩
    ·cases h
   ·simp only[qI]at h;obtain⟨rfl,rfl⟩:=h;exact⟨p1++[.val (.slice none 0 0)],by simp,s1.append (qq9.one (y := .sl (.tree a) []) (ps:=[([]:List (Ty.tree a).den).length=0]) (fun ρ=>rfl) rfl ⟨rfl,trivial⟩)⟩
   ·cases h
  ·cases h
 | .int _,[],_,_,h=>by simp[Ty.dec]at h
 | .byte,[],_,_,h=>by simp[Ty.dec]at h
 | .bool,[],_,_,h=>by simp[Ty.dec]at h
 | .str,[],_,_,h=>by simp[Ty.dec]at h
 | .list _,[],_,_,h=>by simp[Ty.dec]at h
end Go.Sym
namespace Go.Sym
open Go.RowKit
variable [LC]
inductive CV:Type
 | nilS
 | int (k:IntKind) (n:Int)
 | bool (b:Bool)
 | unit
 | nilFunc
 | nilIface
def CV.val:CV->Value
 | .nilS => .slice none 0 0
 | .int k n => .int k n
 | .bool b => .bool b
 | .unit => .tuple #[]
 | .nilFunc => .nilFunc
 | .nilIface => .nilIface
def CV.is:CV->AV->Bool
 | .nilS,.val (.slice none 0 0)=>true
 | .int k n,.val (.int k' n')=>decide (k'=k)&&decide (n'=n)
 | .bool b,.val (.bool b')=>b'==b
 | .unit,.val (.tuple vs)=>Nat.beq vs.size 0
 | .nilFunc,.val .nilFunc=>true
 | .nilIface,.val .nilIface=>true
 | _,_=>false
inductive Pt:Type
 | h (τ:Ty)
 | c (v:CV)
 | agg (ps:List Pt)
 | tup (ps:List Pt)
 | ptr (b off:Nat)
 | own (k:Nat)
 | arr (τ:Ty)
 | el (k sz:Nat)
 | iel (t:TypeId) (k sz:Nat)
 | yld (n:Nat)
 | pn (n:Nat)
 | fn (f:FuncId) (cap:List Pt)
 | u
mutual
def Pt.den:Pt->Type
 | .h τ=>τ.den
 | .agg ps=>Pts.den ps
 | .tup ps=>Pts.den ps
 | .fn _ cap=>Pts.den cap
 | .arr τ=>List τ.den
 | _=>Unit
def Pts.den:List Pt->Type
 | []=>Unit
 | p::ps=>p.den×Pts.den ps
end
def Ty.av:(τ:Ty)->τ.den->AV
 | .int k,n => .int k n
 | .byte,c => .byte c
 | .bool,b => .bool b
 | .str,s => .str s
 | .list a,l => .sl a l
 | .unit,_ => .agg []
 | .prod a b,x => .agg ((Ty.prod a b).enc x)
 | .tree a,x => .agg ((Ty.tree a).enc x)
def dec1 (τ:Ty) (x:AV):Option τ.den:=match τ.dec [x] with
 | some (d,[])=>some d
 | _=>none
def decA (τ:Ty) (x:AV):Option τ.den:=match x with
 | .agg cs=>match τ.dec cs with
  | some (d,[])=>some d
  | _=>none
 | _=>none
def Ty.getAV:(τ:Ty)->AV->Option τ.den
 | .int k,x=>dec1 (.int k) x
 | .byte,x=>dec1 .byte x
 | .bool,x=>dec1 .bool x
 | .str,x=>dec1 .str x
 | .list a,x=>dec1 (.list a) x
 | .unit,x=>decA .unit x
 | .prod a b,x=>decA (.prod a b) x
 | .tree a,x=>decA (.tree a) x
mutual
def Pt.put:(p:Pt)->p.den->AV
 | .h τ,x=>τ.av x
 | .c v,_ => .val v.val
 | .agg ps,x => .agg (Pts.put ps x)
 | .tup ps,x => .tup (Pts.put ps x)
 | .ptr b off,_ => .ptr b off
 | .own k,_ => .own k
 | .arr τ,l => .arr τ l
 | .el k sz,_ => .oel k sz 0 0
 | .iel t k sz,_ => .iface t (.oel k sz 0 0)
 | .yld n,_ => .yld n
 | .pn n,_ => .pn n
 | .fn f cap,x => .fn (.func f) [] (Pts.put cap x)
 | .u,_ => .undef
def Pts.put:(ps:List Pt)->Pts.den ps->List AV
 | [],_=>[]
 | p::ps,x=>p.put x.1::Pts.put ps x.2
end
abbrev NM:=List (Nat×Nat)
def q3u (nm:NM) (b b':Nat):Option NM:=match qa4 nm b with
 | some x=>bif Nat.beq x b' then some nm else none
 | none=>some ((b,b')::nm)
def asAgg:AV->Option (List AV)
 | .agg xs=>some xs
 | _=>none
def zl4:AV->Option (List AV)
 | .tup xs=>some xs
 | _=>none
def zlp:AV->Option (Nat×Nat)
 | .ptr b off=>some (b,off)
 | _=>none
def zk6:AV->Option Nat
 | .own k=>some k
 | _=>none
def zsr (τ:Ty):AV->Option (List τ.den)
 | .arr τ' l=>match Ty.eq? τ' τ with
  | some ⟨h⟩=>some (h▸l)
  | none=>none
 | _=>none
def asEl:AV->Option (Nat×Nat)
 | .oel k sz 0 0=>some (k,sz)
 | _=>none
omit [LC] in
theorem zmq {τ:Ty} {x:AV} {l:List τ.den} (h:zsr τ x=some l):x = .arr τ l:=by
 cases x<;>simp only[zsr,reduceCtorEq]at h
 split at h
 ·rename_i τ' l' e he;simp only[qI]at h;subst h;cases e;rfl
 ·cases h
omit [LC] in
theorem zh4 {x:AV} {k sz:Nat} (h:asEl x=some (k,sz)):x = .oel k sz 0 0:=by
 unfold asEl at h;split at h
 ·simp only[qI,qP]at h;obtain⟨rfl,rfl⟩:=h;rfl
 ·cases h
def znr:AV->Option (TypeId×Nat×Nat)
 | .iface t x=>match asEl x with
  | some (k,sz)=>some (t,k,sz)
  | none=>none
 | _=>none
omit [LC] in
theorem znk {x:AV} {t:TypeId} {k sz:Nat} (h:znr x=some (t,k,sz)):x = .iface t (.oel k sz 0 0):=by
 cases x<;>simp only[znr,reduceCtorEq]at h
 split at h
 ·rename_i k' sz' e;simp only[qI,qP]at h;obtain⟨rfl,rfl,rfl⟩:=h;rw[zh4 e]
 ·cases h
def zn7:AV->Option Nat
 | .yld k=>some k
 | _=>none
def asPn:AV->Option Nat
 | .pn k=>some k
 | _=>none
def asFn:AV->Option (FuncId×List AV)
 | .fn f first xs=>match f with
  | .func f'=>match first with
   | []=>some (f',xs)
   | _=>none
  | _=>none
 | _=>none
omit [LC] in
theorem zlr {x:AV} {xs:List AV} (h:asAgg x=some xs):x = .agg xs:=by
 cases x<;>simp only[asAgg,reduceCtorEq,qI]at h;subst h;rfl
omit [LC] in
theorem zmb {x:AV} {xs:List AV} (h:zl4 x=some xs):x = .tup xs:=by
 cases x<;>simp only[zl4,reduceCtorEq,qI]at h;subst h;rfl
omit [LC] in
theorem zl2 {x:AV} {b off:Nat} (h:zlp x=some (b,off)):x = .ptr b off:=by
 cases x<;>simp only[zlp,reduceCtorEq,qI,qP]at h;obtain⟨rfl,rfl⟩:=h;rfl
omit [LC] in
theorem zku {x:AV} {k:Nat} (h:zk6 x=some k):x = .own k:=by
 cases x<;>simp only[zk6,reduceCtorEq,qI]at h;subst h;rfl
omit [LC] in
theorem zky {x:AV} {k:Nat} (h:zn7 x=some k):x = .yld k:=by
 cases x<;>simp only[zn7,reduceCtorEq,qI]at h;subst h;rfl
omit [LC] in
theorem zsp {x:AV} {k:Nat} (h:asPn x=some k):x = .pn k:=by
 cases x<;>simp only[asPn,reduceCtorEq,qI]at h;subst h;rfl
omit [LC] in
theorem ztq {x:AV} {f:FuncId} {xs:List AV} (h:asFn x=some (f,xs)):x = .fn (.func f) [] xs:=by
 cases x<;>simp only[asFn,reduceCtorEq]at h
 split at h
 ·split at h
  ·simp only[qI,qP]at h;obtain⟨rfl,rfl⟩:=h;rfl
  ·cases h
 ·cases h
mutual
def Pt.get:(p:Pt)->AV->NM->Option (p.den×NM)
 | .h τ,x,nm=>match τ.getAV x with
  | some d=>some (d,nm)
  | none=>none
 | .c v,x,nm=>bif v.is x then some ((),nm) else none
 | .agg ps,x,nm=>match asAgg x with
  | some xs=>Pts.get ps xs nm
  | none=>none
 | .tup ps,x,nm=>match zl4 x with
  | some xs=>Pts.get ps xs nm
  | none=>none
 | .ptr b off,x,nm=>match zlp x with
  | some (b',off')=>bif Nat.beq off' off then (match q3u nm b b' with|some nm'=>some ((),nm')|none=>none) else none
  | none=>none
 | .own k,x,nm=>match zk6 x with
  | some k'=>match q3u nm k k' with|some nm'=>some ((),nm')|none=>none
  | none=>none
 | .arr τ,x,nm=>match zsr τ x with
  | some d=>some (d,nm)
  | none=>none
 | .el k sz,x,nm=>match asEl x with
  | some (k',sz')=>bif Nat.beq sz' sz then (match q3u nm k k' with|some nm'=>some ((),nm')|none=>none) else none
  | none=>none
 | .iel t k sz,x,nm=>match znr x with
  | some (t',k',sz')=>bif Nat.beq t' t&&Nat.beq sz' sz then (match q3u nm k k' with|some nm'=>some ((),nm')|none=>none) else none
  | none=>none
 | .yld k,x,nm=>match zn7 x with
  | some k'=>match q3u nm k k' with|some nm'=>some ((),nm')|none=>none
  | none=>none
 | .pn k,x,nm=>match asPn x with
  | some k'=>match q3u nm k k' with|some nm'=>some ((),nm')|none=>none
  | none=>none
 | .fn f cap,x,nm=>match asFn x with
  | some (f',xs)=>bif Nat.beq f' f then Pts.get cap xs nm else none
  | none=>none
 | .u,_,nm=>some ((),nm)
def Pts.get:(ps:List Pt)->List AV->NM->Option (Pts.den ps×NM)
 | [],xs,nm=>match xs with
  | []=>some ((),nm)
  | _=>none
 | p::ps,xs,nm=>match xs with
  | x::xs=>match p.get x nm with
   | some (d,nm')=>match Pts.get ps xs nm' with
    | some (ds,nm'')=>some ((d,ds),nm'')
    | none=>none
   | none=>none
  | []=>none
end
def SubN (nm nm':NM):Prop:=∀ n m,qa4 nm n=some m->qa4 nm' n=some m
omit [LC] in
theorem SubN.refl (nm:NM):SubN nm nm:=fun _ _ h=>h
omit [LC] in
theorem SubN.trans {a b c:NM} (h:SubN a b) (k:SubN b c):SubN a c:=fun n m x=>k n m (h n m x)
omit [LC] in
theorem qmi {nm nm':NM} {b b':Nat} (h:q3u nm b b'=some nm'):SubN nm nm'/\qa4 nm' b=some b':=by
 unfold q3u at h;split at h
 ·rename_i x hx;cases hq:Nat.beq x b'<;>rw[hq]at h<;>simp only[qT,qF,reduceCtorEq,qI]at h
  subst h;have:=qN hq;subst this;exact⟨SubN.refl _,hx⟩
 ·rename_i hx;simp only[qI]at h;subst h;refine⟨fun n m hn => ?_,by simp[qa4]⟩
  simp only[qa4];cases hq:Nat.beq b n
  ·exact hn
  ·have:=qN hq;subst this;rw[hx]at hn;cases hn
def Seen (N:NM) (x y:AV):Prop:=∃ ps,vw false [] (x.ren (rho N)) y=some ps/\Alls ps
def zaj (N:NM) (xs ys:List AV):Prop:=∃ ps,vws false [] (AV.rens (rho N) xs) ys=some ps/\Alls ps
omit [LC] in
theorem zaj.cons {N:NM} {x y:AV} {xs ys:List AV} (h:Seen N x y) (k:zaj N xs ys):zaj N (x::xs) (y::ys):=by
 obtain⟨ps,h1,h2⟩:=h;obtain⟨qs,k1,k2⟩:=k;exact⟨ps++qs,by simp[AV.rens,vws,h1,k1],qal.2 ⟨h2,k2⟩⟩
omit [LC] in
theorem qq9.seens {xs ys:List AV} (h:qq9 xs ys) (N:NM):zaj N xs ys:=by
 obtain⟨h1,ps,h2,h3⟩:=h;exact⟨ps,by rw[h1];exact h2,h3⟩
omit [LC] in
theorem qv9 {τ:Ty} {x:AV} {d:τ.den} (h:dec1 τ x=some d) {y:AV} (hy:τ.enc d=[y]) (N:NM):Seen N x y:=by
 unfold dec1 at h;split at h
 ·rename_i d' hd;simp only[qI]at h;subst h;obtain⟨vbt,e,hs⟩:=qrg hd;simp only[List.append_nil]at e;subst e;rw[hy]at hs;obtain⟨ps,h1,h2⟩:=hs.seens N;simp only[AV.rens,vws]at h1;split at h1
  ·rename_i qs hq;simp only[qI]at h1;subst h1;exact⟨qs,hq,(qal.1 h2).1⟩
  ·cases h1
 ·cases h
omit [LC] in
theorem q1w {τ:Ty} {x:AV} {d:τ.den} (h:decA τ x=some d) (N:NM):Seen N x (.agg (τ.enc d)):=by
 unfold decA at h;split at h
 ·split at h
  ·rename_i d' hd;simp only[qI]at h;subst h;obtain⟨vbt,e,hs⟩:=qrg hd;simp only[List.append_nil]at e;subst e;obtain⟨ps,h1,h2⟩:=hs.seens N;exact⟨ps,by simp only[AV.ren,vw];exact h1,h2⟩
  ·cases h
 ·cases h
omit [LC] in
theorem zei {N:NM}:∀ {τ:Ty} {x:AV} {d:τ.den},τ.getAV x=some d->Seen N x (τ.av d)
 | .int _,_,_,h=>qv9 h rfl N
 | .byte,_,_,h=>qv9 h rfl N
 | .bool,_,_,h=>qv9 h rfl N
 | .str,_,_,h=>qv9 h rfl N
 | .list _,_,_,h=>qv9 h rfl N
 | .unit,_,_,h=>q1w h N
 | .prod _ _,_,_,h=>q1w h N
 | .tree _,_,_,h=>q1w h N
omit [LC] in
theorem CV.is_seen {v:CV} {x:AV} (h:v.is x=true) (N:NM):Seen N x (.val v.val):=by
 have:x = .val v.val:=by
  unfold CV.is at h;split at h
  ·rfl
  ·simp only[qA,decide_eq_true_eq]at h;obtain⟨rfl,rfl⟩:=h;rfl
  ·simp only[beq_iff_eq]at h;subst h;rfl
  ·rename_i vs;have:=Array.eq_empty_of_size_eq_zero (qN h);subst this;rfl
  ·rfl
  ·rfl
  ·cases h
 subst this;exact⟨[AV.val v.val=AV.val v.val],rfl,rfl,trivial⟩
omit [LC] in
mutual
theorem Pt.get_seen:∀ {p:Pt} {x:AV} {nm nm':NM} {d:p.den},p.get x nm=some (d,nm')->SubN nm nm'/\∀ N,qam N=true->SubN nm' N->Seen N x (p.put d)
 | .h τ,x,nm,nm',d,h=>by
  simp only[Pt.get]at h;split at h
  ·rename_i d' hd;simp only[qI]at h;obtain⟨rfl,rfl⟩:=h;exact⟨SubN.refl _,fun N _ _=>zei hd⟩
  ·cases h
 | .c v,x,nm,nm',d,h=>by
  simp only[Pt.get]at h;cases hv:v.is x<;>rw[hv]at h<;>simp only[qT,qF,reduceCtorEq,qI]at h
  obtain⟨_,rfl⟩:=h;exact⟨SubN.refl _,fun N _ _=>CV.is_seen hv N⟩
 | .u,x,nm,nm',d,h=>by
  simp only[Pt.get,qI]at h;obtain⟨_,rfl⟩:=h;refine⟨SubN.refl _,fun N _ _=>⟨[],?_,trivial⟩⟩
  show vw false [] _ .undef=_;cases AV.ren (rho N) x<;>rfl
 | .agg ps,x,nm,nm',d,h=>by
  simp only[Pt.get]at h;split at h
  rotate_left
  ·cases h
  rename_i xs hx;have hx:=zlr hx;subst hx;obtain⟨h1,h2⟩:=Pts.get_seen h;exact⟨h1,fun N hN hs=>by obtain⟨qs,q1,q2⟩:=h2 N hN hs;exact⟨qs,q1,q2⟩⟩
 | .tup ps,x,nm,nm',d,h=>by
  simp only[Pt.get]at h;split at h
  rotate_left
  ·cases h
  rename_i xs hx;have hx:=zmb hx;subst hx;obtain⟨h1,h2⟩:=Pts.get_seen h;exact⟨h1,fun N hN hs=>by obtain⟨qs,q1,q2⟩:=h2 N hN hs;exact⟨qs,q1,q2⟩⟩
 | .ptr b off,x,nm,nm',d,h=>by
  simp only[Pt.get]at h;split at h
  rotate_left
  ·cases h
  rename_i b' off' hx;have hx:=zl2 hx;subst hx;cases hq:Nat.beq off' off<;>rw[hq]at h<;>simp only[qT,qF,reduceCtorEq]at h
  split at h
  ·rename_i nm1 hb;simp only[qI]at h;obtain⟨_,rfl⟩:=h;obtain⟨h1,h2⟩:=qmi hb;have:=qN hq;subst this;refine⟨h1,fun N hN hs => ?_⟩
   have:=qyi hN (hs _ _ h2);refine⟨[AV.ptr b off'=AV.ptr b off'],?_,rfl,trivial⟩;show vw false [] (match rho N b' with|some b''=>AV.ptr b'' off'|none => .undef) (AV.ptr b off')=_
   rw[this];rfl
  ·cases h
 | .own k,x,nm,nm',d,h=>by
  simp only[Pt.get]at h;split at h
  rotate_left
  ·cases h
  rename_i k' hx;have hx:=zku hx;subst hx;split at h
  ·rename_i nm1 hb;simp only[qI]at h;obtain⟨_,rfl⟩:=h;obtain⟨h1,h2⟩:=qmi hb;refine⟨h1,fun N hN hs => ?_⟩
   have:=qyi hN (hs _ _ h2);refine⟨[AV.own k=AV.own k],?_,rfl,trivial⟩;show vw false [] (match rho N k' with|some b''=>AV.own b''|none => .undef) (AV.own k)=_
   rw[this];rfl
  ·cases h
 | .arr τ,x,nm,nm',d,h=>by
  simp only[Pt.get]at h;split at h
  ·rename_i d' hd;simp only[qI]at h;obtain⟨rfl,rfl⟩:=h;have hd:=zmq hd;subst hd;exact⟨SubN.refl _,fun N _ _=>⟨[AV.arr τ d=AV.arr τ d],rfl,rfl,trivial⟩⟩
  ·cases h
 | .el k sz,x,nm,nm',d,h=>by
  simp only[Pt.get]at h;split at h
  rotate_left
  ·cases h
  rename_i k' sz' hx;have hx:=zh4 hx;subst hx;cases hq:Nat.beq sz' sz<;>rw[hq]at h<;>simp only[qT,qF,reduceCtorEq]at h
  split at h
  ·rename_i nm1 hb;simp only[qI]at h;obtain⟨_,rfl⟩:=h;obtain⟨h1,h2⟩:=qmi hb;have:=qN hq;subst this;refine⟨h1,fun N hN hs => ?_⟩
   have:=qyi hN (hs _ _ h2);refine⟨[AV.oel k sz' 0 0=AV.oel k sz' 0 0],?_,rfl,trivial⟩;show vw false [] (match rho N k' with|some b''=>AV.oel b'' sz' 0 0|none => .undef) (AV.oel k sz' 0 0)=_
   rw[this];rfl
  ·cases h
 | .iel t k sz,x,nm,nm',d,h=>by
  simp only[Pt.get]at h;split at h
  rotate_left
  ·cases h
  rename_i t' k' sz' hx;have hx:=znk hx;subst hx;cases hq:Nat.beq t' t&&Nat.beq sz' sz<;>rw[hq]at h<;>simp only[qT,qF,reduceCtorEq]at h
  simp only[qA]at hq;split at h
  ·rename_i nm1 hb;simp only[qI]at h;obtain⟨_,rfl⟩:=h;obtain⟨h1,h2⟩:=qmi hb;have:=qN hq.1;subst this;have:=qN hq.2;subst this;refine⟨h1,fun N hN hs => ?_⟩
   have:=qyi hN (hs _ _ h2);refine⟨[AV.iface t' (AV.oel k sz' 0 0)=AV.iface t' (AV.oel k sz' 0 0)],?_,rfl,trivial⟩;show vw false [] (.iface t' (match rho N k' with|some b''=>AV.oel b'' sz' 0 0|none => .undef)) (AV.iface t' (AV.oel k sz' 0 0))=_
   rw[this];rfl
  ·cases h
 | .yld k,x,nm,nm',d,h=>by
  simp only[Pt.get]at h;split at h
  rotate_left
  ·cases h
  rename_i k' hx;have hx:=zky hx;subst hx;split at h
  ·rename_i nm1 hb;simp only[qI]at h;obtain⟨_,rfl⟩:=h;obtain⟨h1,h2⟩:=qmi hb;refine⟨h1,fun N hN hs => ?_⟩
   have:=qyi hN (hs _ _ h2);refine⟨[AV.yld k=AV.yld k],?_,rfl,trivial⟩;show vw false [] (match rho N k' with|some b''=>AV.yld b''|none => .undef) (AV.yld k)=_
   rw[this];rfl
  ·cases h
 | .pn k,x,nm,nm',d,h=>by
  simp only[Pt.get]at h;split at h
  rotate_left
  ·cases h
  rename_i k' hx;have hx:=zsp hx;subst hx;split at h
  ·rename_i nm1 hb;simp only[qI]at h;obtain⟨_,rfl⟩:=h;obtain⟨h1,h2⟩:=qmi hb;refine⟨h1,fun N hN hs => ?_⟩
   have:=qyi hN (hs _ _ h2);refine⟨[AV.pn k=AV.pn k],?_,rfl,trivial⟩;show vw false [] (match rho N k' with|some b''=>AV.pn b''|none => .undef) (AV.pn k)=_
   rw[this];rfl
  ·cases h
 | .fn f cap,x,nm,nm',d,h=>by
  simp only[Pt.get]at h;split at h
  rotate_left
  ·cases h
  rename_i f' xs hx;have hx:=ztq hx;subst hx;cases hq:Nat.beq f' f
  ·rw[hq]at h;exact absurd (show (none:Option ((Pt.fn f cap).den×NM))=some (d,nm') from h) (by simp)
  have h:Pts.get cap xs nm=some (d,nm'):=by rw[hq]at h;exact h
  obtain⟨h1,h2⟩:=Pts.get_seen h;have:=qN hq;subst this;refine⟨h1,fun N hN hs => ?_⟩
  obtain⟨qs,q1,q2⟩:=h2 N hN hs;refine⟨(Fn.func f'=Fn.func f')::([]++qs),?_,rfl,q2⟩;show (match vws false [] (AV.rens (rho N) []) [],vws false [] (AV.rens (rho N) xs) (Pts.put cap d) with
   | some ps,some qs=>some ((Fn.func f'=Fn.func f')::(ps++qs))
   | _,_=>none)=_
  rw[q1];rfl
theorem Pts.get_seen:∀ {ps:List Pt} {xs:List AV} {nm nm':NM} {d:Pts.den ps},Pts.get ps xs nm=some (d,nm')->SubN nm nm'/\∀ N,qam N=true->SubN nm' N->zaj N xs (Pts.put ps d)
 | [],xs,nm,nm',d,h=>by
  cases xs with
  | nil=>
   have h:some (((),nm):Unit×NM)=some (d,nm'):=h;have e:nm=nm':=congrArg Prod.snd (qJ h);subst e;exact⟨SubN.refl _,fun N _ _=>⟨[],rfl,trivial⟩⟩
  | cons x xs=>exact absurd (show (none:Option (Unit×NM))=some (d,nm') from h) (by simp)
 | p::ps,xs,nm,nm',d,h=>by
  cases xs with
  | nil=>exact absurd (show (none:Option ((p.den×Pts.den ps)×NM))=some (d,nm') from h) (by simp)
  | cons x xs=>
   have h:(match p.get x nm with
    | some (d,nm')=>match Pts.get ps xs nm' with
     | some (ds,nm'')=>some ((d,ds),nm'')
     | none=>none
    | none=>none)=some (d,nm'):=h
   split at h
   ·rename_i d1 nm1 h1;split at h
    ·rename_i d2 nm2 h2;simp only[qI]at h;obtain⟨rfl,rfl⟩:=h;obtain⟨a1,a2⟩:=Pt.get_seen h1;obtain⟨b1,b2⟩:=Pts.get_seen h2;exact⟨a1.trans b1,fun N hN hs=>zaj.cons (a2 N hN (b1.trans hs)) (b2 N hN hs)⟩
    ·cases h
   ·cases h
end
end Go.Sym
namespace Go.Sym
open Go.RowKit
variable [LC]
def fden:List (Nat×Pt)->Type
 | []=>Unit
 | (_,p)::r=>p.den×fden r
def fput:(l:List (Nat×Pt))->fden l->List (Nat×AV)
 | [],_=>[]
 | (i,p)::r,x=>(i,p.put x.1)::fput r x.2
def fget (fr:List (Nat×AV)):(l:List (Nat×Pt))->NM->Option (fden l×NM)
 | [],nm=>some ((),nm)
 | (i,p)::r,nm=>match look fr i with
  | some x=>match p.get x nm with
   | some (d,nm')=>match fget fr r nm' with
    | some (ds,nm'')=>some ((d,ds),nm'')
    | none=>none
   | none=>none
  | none=>none
omit [LC] in
theorem qzf {fr:List (Nat×AV)}:∀ {l:List (Nat×Pt)} {nm nm':NM} {d:fden l},fget fr l nm=some (d,nm')->SubN nm nm'/\∀ N,qam N=true->SubN nm' N->∀ i y,look (fput l d) i=some y->∃ x,look fr i=some x/\Seen N x y
 | [],nm,nm',d,h=>by
  have e:nm=nm':=congrArg Prod.snd (qJ (show some (((),nm):Unit×NM)=some (d,nm') from h))
  subst e;exact⟨SubN.refl _,fun N _ _ i y hy=>by cases hy⟩
 | (j,p)::r,nm,nm',d,h=>by
  have h:(match look fr j with
   | some x=>match p.get x nm with
    | some (d,nm')=>match fget fr r nm' with
     | some (ds,nm'')=>some ((d,ds),nm'')
     | none=>none
    | none=>none
   | none=>none)=some (d,nm'):=h
  split at h
  ·rename_i x hx;split at h
   ·rename_i d1 nm1 h1;split at h
    ·rename_i d2 nm2 h2;simp only[qI]at h;obtain⟨rfl,rfl⟩:=h;obtain⟨a1,a2⟩:=Pt.get_seen h1;obtain⟨b1,b2⟩:=qzf h2;refine⟨a1.trans b1,fun N hN hs i y hy => ?_⟩
     have hy:(bif Nat.beq j i then some (p.put d1) else look (fput r d2) i)=some y:=hy
     cases hb:Nat.beq j i
     ·rw[hb]at hy;exact b2 N hN hs i y hy
     ·rw[hb]at hy;simp only[qT,qI]at hy;subst hy;have:=qN hb;subst this;exact⟨x,hx,a2 N hN (b1.trans hs)⟩
    ·cases h
   ·cases h
  ·cases h
inductive BPt:Type
 | cells (ps:List Pt) (T:TypeId)
 | row (τ:Ty) (E:TypeId)
 | loop (st:LoopState) (pe:Option Jmp) (f:FuncId) (n:Nat) (fr:List (Nat×Pt)) (ps:List Tmp) (tag:Nat) (D:Nat)
 | dfr
 | it
 | dead
 | dat (τ:Ty) (T:TypeId)
def BPt.den:BPt->Type
 | .cells ps _=>Pts.den ps
 | .row τ _=>List τ.den
 | .loop _ _ _ _ fr _ _ _=>fden fr
 | .dfr=>Unit
 | .it=>List UInt8×Nat
 | .dead=>Unit
 | .dat τ _=>τ.den
def BPt.put:(p:BPt)->p.den->Box
 | .cells ps T,x => .cells (Pts.put ps x) T
 | .row τ E,l => .row τ l E
 | .loop st pe f n fr ps tag D,x => .loop st pe f n (fput fr x) ps tag D
 | .dfr,_ => .dfr
 | .it,x => .it x.1 x.2
 | .dead,_ => .dead
 | .dat τ T,x => .cells (τ.enc x) T
def Jmp.beq:Option Jmp->Option Jmp->Bool
 | none,none=>true
 | some .ret,some .ret=>true
 | some (.exit i),some (.exit j)=>Nat.beq i j
 | _,_=>false
omit [LC] in
theorem Jmp.beq_eq:∀ {a b:Option Jmp},Jmp.beq a b=true->a=b
 | none,none,_=>rfl
 | some .ret,some .ret,_=>rfl
 | some (.exit i),some (.exit j),h=>by rw[qN (show Nat.beq i j=true from h)]
 | none,some _,h=>by simp[Jmp.beq]at h
 | some _,none,h=>by simp[Jmp.beq]at h
 | some .ret,some (.exit _),h=>by simp[Jmp.beq]at h
 | some (.exit _),some .ret,h=>by simp[Jmp.beq]at h
def eqNs:List Nat->List Nat->Bool
 | [],[]=>true
 | x::xs,y::ys=>Nat.beq x y&&eqNs xs ys
 | _,_=>false
omit [LC] in
theorem q6k:∀ {a b:List Nat},eqNs a b=true->a=b
 | [],[],_=>rfl
 | x::xs,y::ys,h=>by
  simp only[eqNs,qA]at h;rw[qN h.1,q6k h.2]
 | [],_::_,h=>by simp[eqNs]at h
 | _::_,[],h=>by simp[eqNs]at h
def BPt.get:(p:BPt)->Box->NM->Option (p.den×NM)
 | .cells ps T,b,nm=>match b with
  | .cells cs T'=>bif Nat.beq T' T then Pts.get ps cs nm else none
  | _=>none
 | .row τ E,b,nm=>match b with
  | .row τ' l E'=>match Ty.eq? τ' τ with
   | some ⟨h⟩=>bif Nat.beq E' E then some ((h▸l:List τ.den),nm) else none
   | none=>none
  | _=>none
 | .loop st pe f n fr ps tag D,b,nm=>match b with
  | .loop st' pe' f' n' fr' ps' tag' D'=>bif decide (st'=st)&&Jmp.beq pe' pe&&Nat.beq f' f&&Nat.beq n' n&&eqNs ps' ps&&Nat.beq tag' tag then
    (match q3u nm D D' with
    | some nm1=>fget fr' fr nm1
    | none=>none) else none
  | _=>none
 | .dfr,b,nm=>match b with
  | .dfr=>some ((),nm)
  | _=>none
 | .it,b,nm=>match b with
  | .it s p=>some ((s,p),nm)
  | _=>none
 | .dead,_,nm=>some ((),nm)
 | .dat τ T,b,nm=>match b with
  | .cells cs T'=>bif Nat.beq T' T then (match τ.dec cs with
    | some (d,[])=>some (d,nm)
    | _=>none) else none
  | _=>none
def zph (N:NM) (b b':Box):Prop:=∃ ps,vwB (renB (rho N) b) b'=some ps/\Alls ps
omit [LC] in
theorem zo9 {N:NM} {fr:List (Nat×AV)}:∀ {fr':List (Nat×AV)},(∀ e∈fr',∃ x,look fr e.1=some x/\Seen N x e.2)->∃ ps,vwFr (q1j (rho N) fr) fr'=some ps/\Alls ps
 | [],_=>⟨[],rfl,trivial⟩
 | (i,y)::r,h=>by
  obtain⟨x,hx,ps,h1,h2⟩:=h (i,y) qH;obtain⟨qs,k1,k2⟩:=zo9 (fr':=r) (fun e he=>h e (qE _ he))
  have hl:∀ (fr:List (Nat×AV)),look fr i=some x->look (q1j (rho N) fr) i=some (x.ren (rho N)):=by
   intro fr
   induction fr with
   | nil=>intro h;cases h
   | cons e r ih=>
    obtain⟨j,z⟩:=e;intro h;simp only[q1j,look]at h ⊢;cases hb:Nat.beq j i
    ·rw[hb]at h;exact ih h
    ·rw[hb]at h;simp only[qT,qI]at h;subst h;rfl
  exact⟨ps++qs,by simp only[vwFr,hl fr hx,h1,k1],qal.2 ⟨h2,k2⟩⟩
omit [LC] in
theorem zb0 {fr:List (Nat×AV)}:∀ {l:List (Nat×Pt)} {nm nm':NM} {d:fden l},fget fr l nm=some (d,nm')->∀ N,qam N=true->SubN nm' N->∀ e∈fput l d,∃ x,look fr e.1=some x/\Seen N x e.2
 | [],nm,nm',d,h,N,_,_,e,he=>by cases he
 | (j,p)::r,nm,nm',d,h,N,hN,hs,e,he=>by
  have h:(match look fr j with
   | some x=>match p.get x nm with
    | some (d,nm')=>match fget fr r nm' with
     | some (ds,nm'')=>some ((d,ds),nm'')
     | none=>none
    | none=>none
   | none=>none)=some (d,nm'):=h
  split at h
  ·rename_i x hx;split at h
   ·rename_i d1 nm1 h1;split at h
    ·rename_i d2 nm2 h2;simp only[qI]at h;obtain⟨rfl,rfl⟩:=h;rcases List.mem_cons.1 (show e∈(j,p.put d1)::fput r d2 from he) with rfl|he
     ·exact⟨x,hx,(Pt.get_seen h1).2 N hN ((qzf h2).1.trans hs)⟩
     ·exact zb0 h2 N hN hs e he
    ·cases h
   ·cases h
  ·cases h
omit [LC] in
theorem BPt.get_seen:∀ {p:BPt} {b:Box} {nm nm':NM} {d:p.den},p.get b nm=some (d,nm')->SubN nm nm'/\∀ N,qam N=true->SubN nm' N->zph N b (p.put d)
 | .cells ps T,b,nm,nm',d,h=>by
  cases b with
  | cells cs T'=>
   have h:(bif Nat.beq T' T then Pts.get ps cs nm else none)=some (d,nm'):=h
   cases hq:Nat.beq T' T
   ·rw[hq]at h;cases h
   ·rw[hq]at h;have h:Pts.get ps cs nm=some (d,nm'):=h;obtain⟨h1,h2⟩:=Pts.get_seen h;have:=qN hq;subst this;refine⟨h1,fun N hN hs => ?_⟩
    obtain⟨qs,q1,q2⟩:=h2 N hN hs;refine⟨qs,?_,q2⟩;show (bif Nat.beq T' T' then vws false [] (AV.rens (rho N) cs) (Pts.put ps d) else none)=some qs
    rw[show Nat.beq T' T'=true by simp,q1];rfl
  | _=>exact absurd (show (none:Option ((BPt.cells ps T).den×NM))=some (d,nm') from h) (by simp)
 | .row τ E,b,nm,nm',d,h=>by
  cases b with
  | row τ' l E'=>
   have h:(match Ty.eq? τ' τ with
    | some ⟨h⟩=>bif Nat.beq E' E then some ((h▸l:List τ.den),nm) else none
    | none=>none)=some (d,nm'):=h
   split at h
   ·rename_i hh _;cases hq:Nat.beq E' E
    ·rw[hq]at h;cases h
    ·rw[hq]at h;simp only[qT,qI]at h;obtain⟨rfl,rfl⟩:=h;have:=qN hq;subst this;subst hh;exact⟨SubN.refl _,fun N _ _=>⟨[Box.row τ' l E'=Box.row τ' l E'],rfl,rfl,trivial⟩⟩
   ·cases h
  | _=>exact absurd (show (none:Option ((BPt.row τ E).den×NM))=some (d,nm') from h) (by simp)
 | .loop st pe f n fr ps tag D,b,nm,nm',d,h=>by
  cases b with
  | loop st' pe' f' n' fr' ps' tag' D'=>
   have h:(bif decide (st'=st)&&Jmp.beq pe' pe&&Nat.beq f' f&&Nat.beq n' n&&eqNs ps' ps&&Nat.beq tag' tag then
    (match q3u nm D D' with
    | some nm1=>fget fr' fr nm1
    | none=>none) else none)=some (d,nm'):=h
   cases hq:decide (st'=st)&&Jmp.beq pe' pe&&Nat.beq f' f&&Nat.beq n' n&&eqNs ps' ps&&Nat.beq tag' tag
   ·rw[hq]at h;cases h
   ·rw[hq]at h;simp only[qT]at h;simp only[qA,decide_eq_true_eq]at hq;obtain⟨⟨⟨⟨⟨q1,q2⟩,q3⟩,q4⟩,q5⟩,q6⟩:=hq;have q2:=Jmp.beq_eq q2;have q3:=qN q3;have q4:=qN q4;have q5:=q6k q5;have q6:=qN q6;subst q1 q2 q3 q4 q5 q6;split at h
    ·rename_i nm1 hb;obtain⟨b1,b2⟩:=qmi hb;obtain⟨c1,_⟩:=qzf h;refine⟨b1.trans c1,fun N hN hs => ?_⟩
     have hD:=qyi hN (hs _ _ (c1 _ _ b2));obtain⟨qs,k1,k2⟩:=zo9 (zb0 h N hN hs);refine⟨([st'=st',pe'=pe',f'=f',n'=n',ps'=ps',tag'=tag',D=D]:List Prop)++qs,?_,qal.2 ⟨⟨rfl,rfl,rfl,rfl,rfl,rfl,rfl,trivial⟩,k2⟩⟩;show vwB (match rho N D' with|some D' => .loop st' pe' f' n' (q1j (rho N) fr') ps' tag' D'|none => .dead) (.loop st' pe' f' n' (fput fr d) ps' tag' D)=_
     rw[hD];show (match vwFr (q1j (rho N) fr') (fput fr d) with
      | some qs=>some (([st'=st',pe'=pe',f'=f',n'=n',ps'=ps',tag'=tag',D=D]:List Prop)++qs)
      | none=>none)=_
     rw[k1]
    ·cases h
  | _=>exact absurd (show (none:Option ((BPt.loop st pe f n fr ps tag D).den×NM))=some (d,nm') from h) (by simp)
 | .dat τ T,b,nm,nm',d,h=>by
  cases b with
  | cells cs T'=>
   have h:(bif Nat.beq T' T then (match τ.dec cs with
    | some (d,[])=>some (d,nm)
    | _=>none) else none)=some (d,nm'):=h
   cases hq:Nat.beq T' T
   ·rw[hq]at h;cases h
   ·rw[hq]at h;simp only[qT]at h;have:=qN hq;subst this;split at h
    ·rename_i d0 hd;have h:(some (d0,nm):Option (τ.den×NM))=some (d,nm'):=h;cases h
     obtain⟨vbt,e,hs⟩:=qrg hd;rw[List.append_nil]at e;subst e;refine⟨SubN.refl _,fun N hN _ => ?_⟩
     obtain⟨qs,q1,q2⟩:=hs.seens N;refine⟨qs,?_,q2⟩;show (bif Nat.beq T' T' then vws false [] (AV.rens (rho N) _) (τ.enc d) else none)=some qs
     rw[show Nat.beq T' T'=true by simp,q1];rfl
    ·cases h
  | _=>exact absurd (show (none:Option ((BPt.dat τ T).den×NM))=some (d,nm') from h) (by simp)
 | .dfr,b,nm,nm',d,h=>by
  cases b with
  | dfr=>
   have e:nm=nm':=congrArg Prod.snd (qJ (show some (((),nm):Unit×NM)=some (d,nm') from h))
   subst e;exact⟨SubN.refl _,fun N _ _=>⟨[],rfl,trivial⟩⟩
  | _=>exact absurd (show (none:Option (BPt.dfr.den×NM))=some (d,nm') from h) (by simp)
 | .it,b,nm,nm',d,h=>by
  cases b with
  | it s p=>
   have e:=qJ (show some ((s,p),nm)=some (d,nm') from h)
   have e1:nm=nm':=congrArg Prod.snd e;have e2:(s,p)=d:=congrArg Prod.fst e;subst e1;subst e2;exact⟨SubN.refl _,fun N _ _=>⟨[s=s,p=p],rfl,rfl,rfl,trivial⟩⟩
  | _=>exact absurd (show (none:Option (BPt.it.den×NM))=some (d,nm') from h) (by simp)
 | .dead,b,nm,nm',d,h=>by
  have e:nm=nm':=congrArg Prod.snd (qJ (show some (((),nm):Unit×NM)=some (d,nm') from h))
  subst e;refine⟨SubN.refl _,fun N _ _ => ?_⟩
  show ∃ ps,vwB (renB (rho N) b) .dead=some ps/\Alls ps;cases renB (rho N) b<;>exact⟨[],rfl,trivial⟩
end Go.Sym
namespace Go.Sym
open Go.RowKit
variable [LC]
def bden:List (Nat×BPt)->Type
 | []=>Unit
 | (_,p)::r=>p.den×bden r
def bput:(l:List (Nat×BPt))->bden l->List (Nat×Box)
 | [],_=>[]
 | (n,p)::r,x=>(n,p.put x.1)::bput r x.2
def bget (hp:List (Nat×Box)):(l:List (Nat×BPt))->NM->Option (bden l×NM)
 | [],nm=>some ((),nm)
 | (n,p)::r,nm=>match qa4 nm n with
  | some old=>match look hp old with
   | some b=>match p.get b nm with
    | some (d,nm')=>match bget hp r nm' with
     | some (ds,nm'')=>some ((d,ds),nm'')
     | none=>none
    | none=>none
   | none=>none
  | none=>none
omit [LC] in
theorem qrx {hp:List (Nat×Box)}:∀ {l:List (Nat×BPt)} {nm nm':NM} {d:bden l},bget hp l nm=some (d,nm')->SubN nm nm'/\∀ N,qam N=true->SubN nm' N ->
  (∀ m b',look (bput l d) m=some b'->∃ old b,qa4 N m=some old/\look hp old=some b/\zph N b b')/\∀ m,look (bput l d) m=none->∀ e∈l,e.1≠m
 | [],nm,nm',d,h=>by
  have e:nm=nm':=congrArg Prod.snd (qJ (show some (((),nm):Unit×NM)=some (d,nm') from h))
  subst e;exact⟨SubN.refl _,fun N _ _=>⟨fun m b' hb=>(by cases hb),fun m _ e he=>(by cases he)⟩⟩
 | (j,p)::r,nm,nm',d,h=>by
  have h:(match qa4 nm j with
   | some old=>match look hp old with
    | some b=>match p.get b nm with
     | some (d,nm')=>match bget hp r nm' with
      | some (ds,nm'')=>some ((d,ds),nm'')
      | none=>none
     | none=>none
    | none=>none
   | none=>none)=some (d,nm'):=h
  split at h
  ·rename_i old ho;split at h
   ·rename_i b hb;split at h
    ·rename_i d1 nm1 h1;split at h
     ·rename_i d2 nm2 h2;simp only[qI]at h;obtain⟨rfl,rfl⟩:=h;obtain⟨a1,a2⟩:=BPt.get_seen h1;obtain⟨b1,b2⟩:=qrx h2;refine⟨a1.trans b1,fun N hN hs=>⟨fun m b' hm => ?_,fun m hm e he => ?_⟩⟩
      ·have hm:(bif Nat.beq j m then some (p.put d1) else look (bput r d2) m)=some b':=hm
       cases hq:Nat.beq j m
       ·rw[hq]at hm;exact (b2 N hN hs).1 m b' hm
       ·rw[hq]at hm;simp only[qT,qI]at hm;subst hm;have:=qN hq;subst this;exact⟨old,b,hs _ _ (b1 _ _ (a1 _ _ ho)),hb,a2 N hN (b1.trans hs)⟩
      ·have hm:(bif Nat.beq j m then some (p.put d1) else look (bput r d2) m)=none:=hm
       cases hq:Nat.beq j m
       ·rw[hq]at hm;rcases List.mem_cons.1 he with rfl|he
        ·intro e;subst e;simp at hq
        ·exact (b2 N hN hs).2 m hm e he
       ·rw[hq]at hm;cases hm
     ·cases h
    ·cases h
   ·cases h
  ·cases h
def q99:NM->List Nat->List Nat->Option NM
 | nm,[],[]=>some nm
 | nm,n::ns,m::ms=>match q3u nm n m with
  | some nm'=>q99 nm' ns ms
  | none=>none
 | _,_,_=>none
omit [LC] in
theorem q4q:∀ {nm nm':NM} {ns ms:List Nat},q99 nm ns ms=some nm'->SubN nm nm'/\ns.map (qa4 nm')=ms.map some
 | nm,nm',[],[],h=>by simp only[q99,qI]at h;subst h;exact⟨SubN.refl _,rfl⟩
 | nm,nm',n::ns,m::ms,h=>by
  simp only[q99]at h;split at h
  ·rename_i nm1 hb;obtain⟨h1,h2⟩:=qmi hb;obtain⟨h3,h4⟩:=q4q h;exact⟨h1.trans h3,by simp only[List.map_cons,h4,h3 _ _ h2]⟩
  ·cases h
 | _,_,[],_::_,h=>by simp[q99]at h
 | _,_,_::_,[],h=>by simp[q99]at h
def hasN (n:Nat):List (Nat×BPt)->Bool
 | []=>false
 | (m,_)::r=>Nat.beq m n||hasN n r
omit [LC] in
theorem zb9 {n:Nat}:∀ {l:List (Nat×BPt)},hasN n l=true->∃ e∈l,e.1=n
 | [],h=>by cases h
 | (m,p)::r,h=>by
  simp only[hasN,Bool.or_eq_true]at h;rcases h with h|h
  ·exact⟨(m,p),qH,qN h⟩
  ·obtain⟨e,he,h⟩:=zb9 h;exact⟨e,qE _ he,h⟩
def q6n:NM->List (Nat×BPt)->Bool
 | [],_=>true
 | (n,_)::r,l=>hasN n l&&q6n r l
omit [LC] in
theorem qz1 {l:List (Nat×BPt)}:∀ {nm:NM},q6n nm l=true->∀ n m,qa4 nm n=some m->∃ e∈l,e.1=n
 | [],_,n,m,h=>by cases h
 | (k,v)::r,ha,n,m,h=>by
  simp only[q6n,qA]at ha;simp only[qa4]at h;cases hb:Nat.beq k n
  ·rw[hb]at h;exact qz1 ha.2 n m h
  ·have:=qN hb;subst this;exact zb9 ha.1
structure LS where
 n:Nat
 fr:List (Nat×Pt)
 hp:List (Nat×BPt)
 nx:Nat
 df:List Nat
def LS.den (ls:LS):Type:=fden ls.fr×bden ls.hp
def LS.st (ls:LS) (d:ls.den):St:={ n:=ls.n,fr:=fput ls.fr d.1,hp:=bput ls.hp d.2,nx:=ls.nx,df:=ls.df }
def LS.get (ls:LS) (ids:NM) (s:St):Option ls.den:=
 bif Nat.beq s.n ls.n then
  match fget s.fr ls.fr ids with
  | some (d1,nm1)=>match q99 nm1 ls.df s.df with
   | some nm2=>match bget s.hp ls.hp nm2 with
    | some (d2,nm3)=>bif qam nm3&&q6n nm3 ls.hp then some (d1,d2) else none
    | none=>none
   | none=>none
  | none=>none
 else none
section
variable {P:Program} {vbr:World} {vbm:Gh} {vbo:List (Nat×Box)} {G:Gh} {s:St} {a:Act} {w:World}
omit [LC] in
theorem Seen.rep {N:NM} {x y:AV} (h:Seen N x y) {v:Value} (hv:Rep x G v):Rep y (G.view N) v:=by
 obtain⟨ps,h1,h2⟩:=h;exact zp5 (Gh.le.refl _) (fun e=>by cases e) h1 h2 (Rep.ren (G:=G) (G':=G.view N) (fun _ _ _ h=>h) (qo6 N) (qrl N) hv)
theorem Fin.fit {hp l:List (Nat×Box)} (hf:Fin vbr vbm vbo G hp w) {N:NM} (hN:qam N=true) (hid:∀ n bx,look vbo n=some bx->qa4 N n=some n)
  (hl:∀ m b',look l m=some b'->∃ old b,qa4 N m=some old/\look hp old=some b/\zph N b b'):Fin vbr vbm vbo (G.view N) l w:=by
 have eb:∀ m n,qa4 N m=some n->(G.view N).box m=G.box n:=fun m n hm=>by simp[Gh.view,hm]
 have eo:∀ m n,qa4 N m=some n->(G.view N).own m=G.own n:=fun m n hm=>by simp[Gh.view,hm]
 have hbox:∀ m n b,qa4 N m=some n->look hp n=some b->qj5 (G.view N) w m (renB (rho N) b):=fun m n b h1 h2=>
  qj5.ren (G:=G) (G':=G.view N) (ρ:=rho N) (n:=n) (fun _ _ _ h=>h) (fun _ _ _ h=>h) (qo6 N) (qrl N) (fun B hB=>by rw[eb m n h1];exact hB) (fun B hB=>by rw[eo m n h1];exact hB) (hf.mem.holds n b h2)
 have hat:∀ m b' c,look l m=some b'->(G.view N).at m b'=some c->∃ n b,qa4 N m=some n/\look hp n=some b/\G.at n b=some c:=fun m b' c h1 h2=>by
  obtain⟨n,b,i1,i2,ps,i3,i4⟩:=hl m b' h1;exact⟨n,b,i1,i2,qxf (eb m n i1) (eo m n i1) ((q5i i3 i4 (hbox m n b i1 i2)).2 c h2)⟩
 refine⟨⟨hf.mem.agree,hf.mem.one,fun m b' h => ?_,fun m m' b b' c h1 h2 h3 h4 => ?_,hf.mem.tab⟩,hf.bel,hf.imm_le,hf.imm_new,fun m b c h1 h2 => ?_,fun n bx B h1 h2 => ?_,fun n bx B h1 h2 => ?_⟩
 ·obtain⟨n,b,i1,i2,ps,i3,i4⟩:=hl m b' h;exact (q5i i3 i4 (hbox m n b i1 i2)).1
 ·obtain⟨n,b0,i1,i2,i3⟩:=hat m b c h1 h3;obtain⟨n',b0',j1,j2,j3⟩:=hat m' b' c h2 h4;have:=hf.mem.apart n n' b0 b0' c i2 j2 i3 j3;subst this;exact qfx hN m m' n i1 j1
 ·obtain⟨n,b0,i1,i2,i3⟩:=hat m b c h1 h2;exact hf.base n b0 c i2 i3
 ·rw[eb n n (hid n bx h1)];exact hf.keep n bx B h1 h2
 ·rw[eo n n (hid n bx h1)];exact hf.keepOwn n bx B h1 h2
theorem Rel.fit (hr:Rel vbr vbm vbo G s a w) {ls:LS} {ids:NM} {d:ls.den} (hid:∀ n bx,look vbo n=some bx->qa4 ids n=some n) (h:ls.get ids s=some d):∃ G',Rel vbr vbm vbo G' (ls.st d) a w:=by
 unfold LS.get at h;cases hn:Nat.beq s.n ls.n<;>rw[hn]at h<;>simp only[qT,qF,reduceCtorEq]at h
 have hn:=qN hn;split at h
 ·rename_i d1 nm1 h1;split at h
  ·rename_i nm2 h2;split at h
   ·rename_i d2 nm3 h3;cases hq:qam nm3&&q6n nm3 ls.hp<;>rw[hq]at h<;>simp only[qT,qF,reduceCtorEq]at h
    have h:((d1,d2):ls.den)=d:=qJ h;subst h;simp only[qA]at hq;obtain⟨q1,q2⟩:=hq;obtain⟨f1,f2⟩:=qzf h1;obtain⟨l1,l2⟩:=q4q h2;obtain⟨b1,b2⟩:=qrx h3;obtain⟨b3,b4⟩:=b2 nm3 q1 (SubN.refl _);refine⟨G.view nm3,⟨?_,by rw[hr.size];exact hn,fun i x hx => ?_,fun m _ hl => ?_,hr.fin.fit q1 (fun n bx hb=>b1 _ _ (l1 _ _ (f1 _ _ (hid n bx hb)))) b3⟩⟩
    ·obtain⟨bs,e1,e2⟩:=hr.defers;refine⟨bs,e1,e2.trans ?_⟩;have:∀ (ns ms:List Nat),ns.map (qa4 nm2)=ms.map some->ms.map G.box=ns.map (G.view nm3).box:=by
      intro ns
      induction ns with
      | nil=>intro ms h;cases ms with
       | nil=>rfl
       | cons=>simp at h
      | cons n ns ih=>
       intro ms h
       cases ms with
       | nil=>simp at h
       | cons m ms=>
        simp only[List.map_cons,List.cons.injEq]at h ⊢;refine⟨?_,ih ms h.2⟩;show _=(qa4 nm3 n).bind G.box;rw[b1 _ _ h.1];rfl
     exact this _ _ l2
    ·obtain⟨y,hy,hs⟩:=f2 nm3 q1 (l1.trans b1) i x hx;obtain⟨v,v1,v2⟩:=hr.frame i y hy;exact⟨v,v1,hs.rep v2⟩
    ·have hno:qa4 nm3 m=none:=by
      cases hc:qa4 nm3 m with
      | none=>rfl
      | some o=>
       obtain⟨e,he,hem⟩:=qz1 q2 m o hc;exact absurd hem (b4 m hl e he)
     simp[Gh.view,hno]
   ·cases h
  ·cases h
 ·cases h
end
end Go.Sym
namespace Go.Sym
open Go.RowKit
variable [LC]
def sumK {α β γ:Type} (o:α ⊕ β) (f:α->γ) (g:β->γ):γ:=match o with
 | .inl a=>f a
 | .inr b=>g b
inductive Sp:Type->Type 1
 | one {α:Type} (d:α->D):Sp α
 | two {α β:Type} (l:Sp α) (r:Sp β):Sp (α ⊕ β)
def Sp.K {R:Type}:{α:Type}->Sp α->α->(D->Option R)->Option R
 | _,.one d,x,k=>k (d x)
 | _,.two l r,x,k=>sumK x (fun a=>l.K a k) (fun b=>r.K b k)
def Sp.Out:{α:Type}->Sp α->α->D->Prop
 | _,.one d,x,e=>e=d x
 | _,.two l _,.inl a,e=>l.Out a e
 | _,.two _ r,.inr b,e=>r.Out b e
omit [LC] in
theorem Sp.K_some {R:Type} {k:D->Option R} {y:R}:∀ {α:Type} {sp:Sp α} {x:α},sp.K x k=some y->∃ d,sp.Out x d/\k d=some y
 | _,.one d,x,h=>⟨d x,rfl,h⟩
 | _,.two l r,.inl a,h=>by obtain⟨d,h1,h2⟩:=Sp.K_some (sp:=l) (x:=a) h;exact⟨d,h1,h2⟩
 | _,.two l r,.inr b,h=>by obtain⟨d,h1,h2⟩:=Sp.K_some (sp:=r) (x:=b) h;exact⟨d,h1,h2⟩
inductive Rq:Type 1
 | tot (d:D)
 | ifb (b:Bool) (d:D)
 | bnd {α:Type} (o:Option α) (sp:Sp α)
 | br (b:Bool) (d1 d2:D)
def Rq.K {R:Type} (q:Rq) (k:D->Option R):Option R:=match q with
 | .tot d=>k d
 | .ifb b d=>bif b then k d else none
 | .bnd o sp=>o.bind fun x=>sp.K x k
 | .br b d1 d2=>bif b then k d1 else k d2
def Rq.Out (q:Rq) (e:D):Prop:=match q with
 | .tot d=>e=d
 | .ifb b d=>b=true/\e=d
 | .bnd o sp=>∃ x,o=some x/\sp.Out x e
 | .br b d1 d2=>(b=true/\e=d1)\/(b=false/\e=d2)
omit [LC] in
theorem Rq.K_some {R:Type} {k:D->Option R} {y:R} {q:Rq} (h:q.K k=some y):∃ d,q.Out d/\k d=some y:=by
 cases q with
 | tot d=>exact⟨d,rfl,h⟩
 | ifb b d=>
  cases b with
  | true=>exact⟨d,⟨rfl,rfl⟩,h⟩
  | false=>cases h
 | bnd o sp=>
  cases o with
  | none=>cases h
  | some x=>obtain⟨d,h1,h2⟩:=Sp.K_some (sp:=sp) (x:=x) h;exact⟨d,⟨x,rfl,h1⟩,h2⟩
 | br b d1 d2=>
  cases b with
  | true=>exact⟨d1,.inl ⟨rfl,rfl⟩,h⟩
  | false=>exact⟨d2,.inr ⟨rfl,rfl⟩,h⟩
inductive RS:Type->Type 1
 | one {α:Type} (p:Pt) (hp:List (Nat×BPt)) (to:α->p.den×bden hp) (fro:p.den×bden hp->α) (ok:∀ y,to (fro y)=y):RS α
 | two {α β:Type} (l:RS α) (r:RS β):RS (α ⊕ β)
def RS.res:{α:Type}->RS α->α->AV×List (Nat×Box)
 | _,.one p hp to _ _,x=>(p.put (to x).1,bput hp (to x).2)
 | _,.two l r,x=>sumK x (fun a=>l.res a) (fun b=>r.res b)
def RS.sp (mk:AV->List (Nat×Box)->D):{α:Type}->RS α->Sp α
 | _,.one p hp to _ _ => .one fun x=>mk (p.put (to x).1) (bput hp (to x).2)
 | _,.two l r => .two (l.sp mk) (r.sp mk)
omit [LC] in
theorem RS.sp_out {mk:AV->List (Nat×Box)->D}:∀ {α:Type} {r:RS α} {x:α} {d:D},(r.sp mk).Out x d->d=mk (r.res x).1 (r.res x).2
 | _,.one _ _ _ _ _,_,_,h=>h
 | _,.two l _,.inl a,_,h=>RS.sp_out (r:=l) (x:=a) h
 | _,.two _ r,.inr b,_,h=>RS.sp_out (r:=r) (x:=b) h
inductive Key:Type
 | fn (f:FuncId)
 | yld (tag:Nat)
 | ext (f:FuncId)
def zml (P:Program) (f:FuncId) (xs:List AV) (r:AV):Prop:=
 ∀ (w:World) (G:Gh) (vs:List Value),Mem G [] w->Reps xs G vs->∃ v,(callFunc f vs.toArray).run P w = .ok (.value v) w/\Rep r G v
structure Ent:Type 1 where
 key:Key
 args:List Pt
 hp:List (Nat×BPt)
 R:Type
 F:Pts.den args->bden hp->Option R
 out:RS R
def Ent.Sound (P:Program) (e:Ent):Prop:=∀ d d' r,e.F d d'=some r->match e.key with
 | .fn f=>q8k P f/\qbm P f (Pts.put e.args d) (bput e.hp d') (e.out.res r).1 (e.out.res r).2
 | .yld m=>zgo P m (Pts.put e.args d) (bput e.hp d') (e.out.res r).1 (e.out.res r).2
 | .ext f=>zml P f (Pts.put e.args d) (e.out.res r).1
end Go.Sym
namespace Go.Sym
open Go.RowKit
variable [LC]
def idx {α:Type} (l:List α) (n:Int):Option α:=if 0<=n then l[n.toNat]? else none
omit [LC] in
theorem qzc {α:Type} {l:List α} {n:Int} {x:α} (h:idx l n=some x):0<=n/\l[n.toNat]? = some x:=by
 unfold idx at h;split at h
 ·rename_i h0;exact⟨h0,h⟩
 ·cases h
def cutQ {α:Type} (l:List α) (lo hi:Option Int):Rq:=
 match lo,hi with
 | none,none => .tot .none
 | some a,none => .ifb (decide (0<=a/\a<=l.length)) .none
 | none,some b => .ifb (decide (0<=b/\b<=l.length)) .none
 | some a,some b => .ifb (decide (0<=a/\a<=b/\b<=l.length)) .none
omit [LC] in
theorem zg8 {α:Type} {l:List α} {lo hi:Option Int} {d:D} (h:(cutQ l lo hi).Out d):Alls (cut l lo hi).1:=by
 unfold cutQ at h;unfold cut;split at h
 ·trivial
 ·exact⟨of_decide_eq_true h.1,trivial⟩
 ·exact⟨of_decide_eq_true h.1,trivial⟩
 ·exact⟨of_decide_eq_true h.1,trivial⟩
def isC:AV->Bool
 | .val _=>true
 | _=>false
def q4b (c:Bool) (b:Bool):Option Rq:=bif c then (bif b then some (.tot .none) else none) else some (.ifb b .none)
omit [LC] in
theorem qsp {c b:Bool} {q:Rq} {d:D} (h:q4b c b=some q) (ho:q.Out d):b=true:=by
 unfold q4b at h;cases c
 ·simp only[qF,qI]at h;subst h;exact ho.1
 ·cases b
  ·cases h
  ·rfl
def binQ (op:BinOp) (x y:AV):Option Rq:=
 match op with
 | .quo=>match y.sym with
  | .int _ b=>q4b (isC y) (decide (b≠0))
  | .byte b=>q4b (isC y) (decide (b≠0))
  | _=>some (.tot .none)
 | .rem=>match y.sym with
  | .int _ b=>q4b (isC y) (decide (b≠0))
  | .byte b=>q4b (isC y) (decide (b≠0))
  | _=>some (.tot .none)
 | .shl=>match y.sym with
  | .int _ b=>q4b (isC y) (decide (0<=b))
  | _=>some (.tot .none)
 | .shr=>match y.sym with
  | .int _ b=>q4b (isC y) (decide (0<=b))
  | _=>some (.tot .none)
 | .add=>match x.sym,y.sym with
  | .str a,.str b=>some (.ifb (decide (a.length+b.length<=qad)) .none)
  | _,_=>some (.tot .none)
 | _=>some (.tot .none)
omit [LC] in
theorem zf8 {P:Program} {op:BinOp} {t:TypeId} {x y:AV} {q:Rq} {d:D} (h:binQ op x y=some q) (ho:q.Out d) {ps:List Prop} {r:AV} (ha:abin P op t x.sym y.sym=some (ps,r)):Alls ps:=by
 have key:∀ (xs ys:AV),(op = .quo\/op = .rem->(∀ k b,ys = .int k b->b≠0)/\∀ b,ys = .byte b->b≠0)->(op = .shl\/op = .shr->∀ k b,ys = .int k b->0<=b)->(op = .add->∀ a b,xs = .str a->ys = .str b->a.length+b.length<=qad) ->
   ∀ {ps r},abin P op t xs ys=some (ps,r)->Alls ps:=by
  intro xs ys k1 k2 k3 ps r ha;unfold abin at ha;split at ha
  ·rename_i k a k' b;cases hc:decide (op = .shl)||decide (op = .shr)||decide (k=k')<;>rw[hc]at ha<;>simp only[qT,qF,reduceCtorEq]at ha
   cases hc8:decide (k = .u8)||decide (k' = .u8)<;>rw[hc8]at ha<;>simp only[qT,qF,reduceCtorEq]at ha
   cases op<;>simp only[ze0,qI,qP]at ha<;>obtain⟨rfl,_⟩:=ha<;>first
    | trivial
    | exact⟨(k1 (.inl rfl)).1 _ _ rfl,trivial⟩
    | exact⟨(k1 (.inr rfl)).1 _ _ rfl,trivial⟩
    | exact⟨k2 (.inl rfl) _ _ rfl,trivial⟩
    | exact⟨k2 (.inr rfl) _ _ rfl,trivial⟩
  ·rename_i a b;cases op<;>simp only[zmm,qI,qP,reduceCtorEq]at ha<;>obtain⟨rfl,_⟩:=ha<;>first
    | trivial
    | exact⟨(k1 (.inl rfl)).2 _ rfl,trivial⟩
    | exact⟨(k1 (.inr rfl)).2 _ rfl,trivial⟩
  ·split at ha
   ·simp only[qI,qP]at ha;obtain⟨rfl,_⟩:=ha;exact⟨k2 (.inl rfl) _ _ rfl,trivial⟩
   ·simp only[qI,qP]at ha;obtain⟨rfl,_⟩:=ha;exact⟨k2 (.inr rfl) _ _ rfl,trivial⟩
   ·cases ha
  ·rename_i k a b;cases hk:decide (k = .u8)<;>rw[hk]at ha<;>simp only[qT,qF,reduceCtorEq]at ha
   split at ha
   ·simp only[qI,qP]at ha;obtain⟨rfl,_⟩:=ha;trivial
   ·simp only[qI,qP]at ha;obtain⟨rfl,_⟩:=ha;trivial
   ·cases ha
  ·rename_i a b;cases op<;>simp only[zk1,qI,qP,reduceCtorEq]at ha<;>obtain⟨rfl,_⟩:=ha<;>first
    | trivial
    | exact⟨k3 rfl _ _ rfl rfl,trivial⟩
  ·split at ha
   ·split at ha
    ·simp only[qI,qP]at ha;obtain⟨rfl,_⟩:=ha;trivial
    ·cases ha
   ·split at ha
    ·simp only[qI,qP]at ha;obtain⟨rfl,_⟩:=ha;trivial
    ·cases ha
   ·cases ha
 refine key x.sym y.sym (fun hop => ?_) (fun hop => ?_) (fun hop a b e1 e2 => ?_) ha
 ·rcases hop with rfl|rfl
  ·simp only[binQ]at h;exact⟨fun k b e=>by rw[e]at h;exact of_decide_eq_true (qsp h ho),fun b e=>by rw[e]at h;exact of_decide_eq_true (qsp h ho)⟩
  ·simp only[binQ]at h;exact⟨fun k b e=>by rw[e]at h;exact of_decide_eq_true (qsp h ho),fun b e=>by rw[e]at h;exact of_decide_eq_true (qsp h ho)⟩
 ·rcases hop with rfl|rfl
  ·simp only[binQ]at h;exact fun k b e=>by rw[e]at h;exact of_decide_eq_true (qsp h ho)
  ·simp only[binQ]at h;exact fun k b e=>by rw[e]at h;exact of_decide_eq_true (qsp h ho)
 ·subst hop;simp only[binQ]at h;rw[e1,e2]at h;simp only[qI]at h;subst h;exact of_decide_eq_true ho.1
end Go.Sym
namespace Go.Sym
open Go.RowKit
variable [LC]
def zr0 (s:St):AV->Option (List UInt8)
 | .sl τ l=>match Ty.eq? τ .byte with
  | some ⟨h⟩=>some (h▸l:List Ty.byte.den)
  | none=>none
 | .own k=>match look s.hp k with
  | some (.row τ l _)=>match Ty.eq? τ .byte with
   | some ⟨h⟩=>some (h▸l:List Ty.byte.den)
   | none=>none
  | _=>none
 | .val (.slice none 0 0)=>some []
 | _=>none
omit [LC] in
theorem zhl {s:St} {v:AV} {b:List UInt8} (h:zr0 s v=some b) {flat:List AV} {n:Nat} (hs:qqu s v=some (flat,n)):flat=b.map AV.byte/\n=b.length:=by
 unfold zr0 at h;split at h
 ·rename_i τ l;split at h
  ·rename_i hh _;subst hh;have h:l=b:=qJ h;subst h;simp only[qqu,qI,qP]at hs;obtain⟨rfl,rfl⟩:=hs;exact⟨qwe l,rfl⟩
  ·cases h
 ·rename_i k;split at h
  ·rename_i τ l E hl;split at h
   ·rename_i hh _;subst hh;have h:l=b:=qJ h;subst h;simp only[qqu,hl,qI,qP]at hs;obtain⟨rfl,rfl⟩:=hs;exact⟨qwe l,rfl⟩
   ·cases h
  ·cases h
 ·simp only[qI]at h;subst h;simp only[qqu,qI,qP]at hs;obtain⟨rfl,rfl⟩:=hs;exact⟨rfl,rfl⟩
 ·cases h
def tyE (P:Program) (E:TypeId):Option Ty:=match P.underlying E with
 | some (.int k)=>some (bif decide (k = .u8) then .byte else .int k)
 | some .bool=>some .bool
 | some .string=>some .str
 | _=>none
def zhp:Ty->AV->Bool
 | .int _,.int _ _=>true
 | .byte,.byte _=>true
 | .bool,.bool _=>true
 | .str,.str _=>true
 | _,_=>false
omit [LC] in
theorem zjg:∀ {τ:Ty} {y:AV} {d:τ.den},dec1 τ y=some d->zhp τ y=true->y=τ.av d
 | .int k,.int k' n,d,h,_=>by
  simp only[dec1,Ty.dec]at h;cases hk:decide (k'=k)<;>rw[hk]at h
  ·cases h
  ·have:=of_decide_eq_true hk;subst this;have h:n=d:=qJ h;subst h;rfl
 | .byte,.byte c,d,h,_=>by have h:c=d:=qJ h;subst h;rfl
 | .bool,.bool c,d,h,_=>by have h:c=d:=qJ h;subst h;rfl
 | .str,.str c,d,h,_=>by have h:c=d:=qJ h;subst h;rfl
def decL (τ:Ty):List AV->Option (List τ.den)
 | []=>some []
 | x::xs=>match dec1 τ x.sym,decL τ xs with
  | some d,some ds=>bif zhp τ x.sym then some (d::ds) else none
  | _,_=>none
omit [LC] in
theorem zad {τ:Ty}:∀ {xs:List AV} {ds:List τ.den},decL τ xs=some ds->xs.map AV.sym=ds.map τ.av
 | [],ds,h=>by simp only[decL,qI]at h;subst h;rfl
 | x::xs,ds,h=>by
  simp only[decL]at h;split at h
  ·rename_i d ds' h1 h2;cases hb:zhp τ x.sym<;>rw[hb]at h<;>simp only[qT,qF,reduceCtorEq,qI]at h
   subst h;rw[List.map_cons,List.map_cons,zad h2,← zjg h1 hb]
  ·cases h
def q3a (s:St):AV->Option (List Int)
 | .sl (.int .i32) l=>some l
 | .own k=>match look s.hp k with
  | some (.row (.int .i32) l _)=>some l
  | _=>none
 | .val (.slice none 0 0)=>some []
 | _=>none
omit [LC] in
theorem q13 {s:St} {v:AV} {l:List Int} (hl:q3a s v=some l):qqu s v=some (List.flatMap (β:=AV) (Ty.int .i32).enc l,l.length):=by
 unfold q3a at hl;split at hl
 ·have hl:=qJ hl;subst hl;rfl
 ·rename_i k;split at hl
  ·rename_i hk;have hl:=qJ hl;subst hl;show (match look s.hp k with|some (.row τ l _)=>some (l.flatMap τ.enc,l.length)|_=>none)=_;rw[hk];rfl
  ·cases hl
 ·have hl:=qJ hl;subst hl;rfl
 ·cases hl
end Go.Sym
namespace Go.Sym
open Go.RowKit
variable [LC]
def idxQ (P:Program) (s:St) (t:TypeId) (x:AV) (i:Operand):Option Rq:=
 match x,s.evy i with
 | .str b,some (.int _ n)=>some (.bnd (idx b n) (.one fun c => .cs [.byte c]))
 | .str b,some (.byte n)=>some (.bnd b[n.toNat]? (.one fun c => .cs [.byte c]))
 | .agg cs,some (.int _ n)=>match s.ev i with
  | some (.val _)=>match (cs.map AV.sym)[n.toNat]? with
   | some y=>bif decide (0<=n) then some (.tot (.cs [y])) else none
   | none=>none
  | _=>match P.underlying t with
   | some (.array _ E)=>match tyE P E with
    | some τ=>match decL τ cs with
     | some l=>some (.bnd (idx l n) (.one fun y => .cs [τ.av y]))
     | none=>none
    | none=>none
   | _=>none
 | _,_=>none
def ze4 (P:Program) (s:St) (t:TypeId) (x:AV) (i:Operand):Option Rq:=
 match x,s.evy i with
 | .sl τ l,some (.int _ n)=>some (.bnd (idx l n) (.one fun y => .cs (τ.enc y)))
 | .own k,some (.int _ n)=>match look s.hp k with
  | some (.row _ l _)=>some (.ifb (decide (0<=n/\n.toNat<l.length)) .none)
  | _=>none
 | .asl _ m _,some (.int _ n)=>match s.ev i with
  | some j=>q4b (isC j) (decide (0<=n/\n.toNat<m))
  | _=>none
 | .ptr _ _,some (.int _ n)=>match P.underlying t,s.ev i with
  | some (.array len _),some j=>q4b (isC j) (decide (0<=n/\n<len))
  | _,_=>none
 | _,_=>none
def q2i (P:Program) (s:St) (op:Op):Option Rq:=
 match op with
 | .pick c _ _=>match s.ev c with
  | some (.bool b)=>some (.br b (.b true) (.b false))
  | _=>some (.tot .none)
 | .load _ x=>match s.ev x with
  | some (.oel k _ i _)=>match look s.hp k with
   | some (.row τ l _)=>some (.bnd l[i]? (.one fun y => .cs (τ.enc y)))
   | _=>none
  | _=>some (.tot .none)
 | .slice _ x lo hi _=>match qvl s lo,qvl s hi,s.ev x with
  | some a,some b,some (.str l)=>some (cutQ l a b)
  | some a,some b,some (.sl _ l)=>some (cutQ l a b)
  | some none,some none,some (.ptr _ _)=>some (.tot .none)
  | _,_,_=>none
 | .binOp op _ x y _=>match s.ev x,s.ev y with
  | some a,some b=>binQ op a b
  | _,_=>none
 | .convert _ _ x=>match s.ev x with
  | some v=>match zr0 s v with
   | some b=>some (.tot (.cs [.str b]))
   | none=>match q3a s v with
    | some l=>some (.tot (.cs [.sl (.int .i32) l]))
    | none=>some (.tot .none)
  | none=>none
 | .index t x i=>match s.ev x with
  | some v=>idxQ P s t v i
  | none=>none
 | .indexAddr t x i=>match s.ev x with
  | some v=>ze4 P s t v i
  | none=>none
 | _=>some (.tot .none)
omit [LC] in
theorem zqk {P:Program} {s:St} {t:TypeId} {x j:AV} {i:Operand} {q:Rq} {d:D} (hj:s.evy i=some j) (h:idxQ P s t x i=some q) (ho:q.Out d) {ps:List Prop} {r:AV} (ha:q9b P t x j d=some (ps,r)):Alls ps:=by
 unfold q9b at ha;split at ha
 ·simp only[idxQ,hj,qI]at h;subst h;obtain⟨y,h1,h2⟩:=ho;simp only[Sp.Out,D.cs.injEq,List.cons.injEq,AV.byte.injEq,and_true]at h2;subst h2;simp only[qI,qP]at ha;obtain⟨rfl,_⟩:=ha;exact⟨qzc h1,trivial⟩
 ·simp only[idxQ,hj,qI]at h;subst h;obtain⟨y,h1,h2⟩:=ho;simp only[Sp.Out,D.cs.injEq,List.cons.injEq,AV.byte.injEq,and_true]at h2;subst h2;simp only[qI,qP]at ha;obtain⟨rfl,_⟩:=ha;exact⟨h1,trivial⟩
 ·rename_i len E cs k n y hu;simp only[idxQ,hj]at h;split at ha
  ·cases hq:Nat.beq cs.length len<;>rw[hq]at ha<;>simp only[qT,qF,reduceCtorEq,qI,qP]at ha
   obtain⟨rfl,_⟩:=ha;refine⟨?_,trivial⟩;split at h
   ·split at h
    ·rename_i z hz;cases hd:decide (0<=n)<;>rw[hd]at h<;>simp only[qT,qF,reduceCtorEq,qI]at h
     subst h;have ho:D.cs [y]=D.cs [z]:=ho;simp only[D.cs.injEq,List.cons.injEq,and_true]at ho;subst ho;exact⟨of_decide_eq_true hd,hz⟩
    ·cases h
   ·simp only[hu]at h;split at h
    ·rename_i τ hτ;split at h
     ·rename_i l hl;simp only[qI]at h;subst h;obtain⟨z,h1,h2⟩:=ho;simp only[Sp.Out,D.cs.injEq,List.cons.injEq,and_true]at h2;subst h2;obtain⟨h3,h4⟩:=qzc h1;refine⟨h3,?_⟩;rw[zad hl,List.getElem?_map,h4];rfl
     ·cases h
    ·cases h
  ·cases ha
 ·cases ha
omit [LC] in
theorem zoc {P:Program} {s:St} {t:TypeId} {x j:AV} {i:Operand} {q:Rq} {d:D} (hj:s.evy i=some j) (h:ze4 P s t x i=some q) (ho:q.Out d) {ps:List Prop} {r:AV} (ha:qrq P s t x j d=some (ps,r)):Alls ps:=by
 unfold qrq at ha;split at ha
 ·split at ha
  ·rename_i sz k n hsz;split at ha
   ·rename_i τ l cs;cases hq:Nat.beq τ.sz sz<;>rw[hq]at ha<;>simp only[qT,qF,reduceCtorEq,qI,qP]at ha
    obtain⟨rfl,_⟩:=ha;simp only[ze4,hj,qI]at h;subst h;obtain⟨y,h1,h2⟩:=ho;have h2:D.cs cs=D.cs (τ.enc y):=h2;simp only[D.cs.injEq]at h2;exact⟨⟨(qzc h1).1,y,(qzc h1).2,h2.symm⟩,trivial⟩
   ·split at ha
    ·rename_i τ l E hl;cases hq:Nat.beq τ.sz sz<;>rw[hq]at ha<;>simp only[qT,qF,reduceCtorEq,qI,qP]at ha
     obtain⟨rfl,_⟩:=ha;simp only[ze4,hj,hl,qI]at h;subst h;exact⟨of_decide_eq_true ho.1,trivial⟩
    ·cases ha
   ·simp only[qI,qP]at ha;obtain⟨rfl,_⟩:=ha;simp only[ze4,hj]at h;split at h
    ·exact⟨of_decide_eq_true (qsp h ho),trivial⟩
    ·cases h
   ·cases ha
  ·cases ha
 ·rename_i len E hu;split at ha
  ·rename_i sz k n b off hsz;simp only[qI,qP]at ha;obtain⟨rfl,_⟩:=ha;simp only[ze4,hj,hu]at h;split at h
   ·rename_i len' _ j' he _;simp only[qI,TypeDesc.array.injEq]at he;obtain⟨rfl,rfl⟩:=he;exact⟨of_decide_eq_true (qsp h ho),trivial⟩
   ·cases h
  ·cases ha
 ·cases ha
end Go.Sym
namespace Go.Sym
open Go.RowKit
variable [LC]
omit [LC] in
theorem zbs {P:Program} {s:St} {op:Op} {q:Rq} {d:D} (h:q2i P s op=some q) (ho:q.Out d) {ps:List Prop} {v:AV} (ha:aval P s d op=some (ps,v)):Alls ps:=by
 have triv:∀ {x:AV} {ps:List Prop} {v:AV},(some (([]:List Prop),x):Option (List Prop×AV))=some (ps,v)->Alls ps:=fun e=>by
  simp only[qI,qP]at e;obtain⟨rfl,_⟩:=e;trivial
 have cnd:∀ {b:Bool} {x:AV} {ps:List Prop} {v:AV},(bif b then some (([]:List Prop),x) else none)=some (ps,v)->Alls ps:=fun {b} _ _ _ e=>by
  cases b
  ·cases e
  ·exact triv e
 unfold aval at ha;split at ha
 ·split at ha
  ·exact triv ha
  ·cases ha
 ·split at ha
  ·exact triv ha
  ·cases ha
 ·split at ha
  ·rename_i c x y b t hc;split at ha
   ·simp only[qI,qP]at ha;obtain⟨rfl,_⟩:=ha;simp only[q2i,hc,qI]at h;subst h;rcases ho with ⟨h1,h2⟩|⟨h1,h2⟩
    ·simp only[D.b.injEq]at h2;subst h2;exact⟨h1,trivial⟩
    ·simp only[D.b.injEq]at h2;subst h2;exact⟨h1,trivial⟩
   ·cases ha
  ·split at ha
   ·exact triv ha
   ·cases ha
  ·cases ha
 ·unfold q5b at ha;split at ha
  ·split at ha
   ·split at ha
    ·split at ha
     ·exact triv ha
     ·cases ha
    ·cases ha
   ·split at ha
    ·split at ha
     ·exact triv ha
     ·cases ha
    ·cases ha
   ·cases ha
  ·cases ha
 ·unfold zh2 at ha;split at ha
  ·split at ha
   ·split at ha
    ·exact triv ha
    ·cases ha
   ·cases ha
  ·split at ha
   ·exact triv ha
   ·cases ha
  ·rename_i k sz i off hx;split at ha
   ·rename_i τ l E cs hl;cases hq:Nat.beq sz τ.sz<;>rw[hq]at ha<;>simp only[qT,qF,reduceCtorEq]at ha
    split at ha
    ·simp only[qI,qP]at ha;obtain⟨rfl,_⟩:=ha;simp only[q2i,hx,hl,qI]at h;subst h;obtain⟨y,h1,h2⟩:=ho;have h2:D.cs cs=D.cs (τ.enc y):=h2;simp only[D.cs.injEq]at h2;exact⟨⟨y,h1,h2.symm⟩,trivial⟩
    ·cases ha
   ·cases ha
  ·cases ha
 ·unfold q80 at ha;split at ha
  ·rename_i h1 h2 h3;split at ha
   ·simp only[qI,qP]at ha;obtain⟨rfl,_⟩:=ha;simp only[q2i,h1,h2,h3,qI]at h;subst h;exact zg8 ho
   ·cases ha
  ·rename_i τ l h1 h2 h3;split at ha
   ·split at ha
    ·rename_i sz hsz;cases hq:Nat.beq τ.sz sz<;>rw[hq]at ha<;>simp only[qT,qF,reduceCtorEq,qI,qP]at ha
     obtain⟨rfl,_⟩:=ha;simp only[q2i,h1,h2,h3,qI]at h;subst h;exact zg8 ho
    ·cases ha
   ·cases ha
  ·split at ha
   ·split at ha
    ·exact triv ha
    ·cases ha
   ·cases ha
  ·cases ha
 ·split at ha
  ·rename_i a b hx hy;simp only[q2i,hx,hy]at h;unfold zle at ha;split at ha
   ·split at ha
    ·exact triv ha
    ·exact zf8 h ho ha
   ·exact zf8 h ho ha
  ·cases ha
 ·split at ha
  ·split at ha
   ·exact triv ha
   ·cases ha
  ·cases ha
 ·rename_i src dst x;split at ha
  ·rename_i v' hs hx;split at ha
   ·rename_i r' hc;simp only[qI]at ha;subst ha;have key:∀ {y:AV} {ps:List Prop} {v:AV},q37 P dst y=some (ps,v)->Alls ps:=fun e=>by
     unfold q37 at e;split at e
     ·rename_i k _ _ _;cases hk:decide (k = .u8)<;>rw[hk]at e<;>exact triv e
     ·rename_i k _ _;cases hk:decide (k = .u8)<;>rw[hk]at e<;>simp only[qT,qF]at e
      ·cases hk8:decide (k = .i8)<;>rw[hk8]at e<;>simp only[qT,qF,reduceCtorEq]at e
       exact triv e
      ·exact triv e
     ·exact triv e
     ·cases e
    unfold q0v at hc;split at hc
    ·split at hc
     ·exact triv hc
     ·exact key hc
    ·exact key hc
   ·split at ha
    ·unfold aStr at ha;split at ha
     ·rename_i E flat n b hu hsrc;split at ha
      ·cases ha
      ·simp only[qI,qP]at ha;obtain⟨rfl,_⟩:=ha;simp only[q2i,hx]at h;split at h
       ·rename_i b' hb;simp only[qI]at h;subst h;have ho:D.cs [.str b]=D.cs [.str b']:=ho;simp only[D.cs.injEq,List.cons.injEq,AV.str.injEq,and_true]at ho;subst ho;obtain⟨h1,h2⟩:=zhl hb hsrc;exact⟨h1,h2,trivial⟩
       ·split at h
        ·rename_i l' _;simp only[qI]at h;subst h;exact absurd (show D.cs [.str b]=D.cs [.sl (.int .i32) l'] from ho) (by simp)
        ·simp only[qI]at h;subst h;exact absurd (show D.cs [.str b]=D.none from ho) (by simp)
      ·cases ha
     ·rename_i E flat n l hu hsrc;split at ha
      ·cases ha
      ·simp only[qI,qP]at ha;obtain⟨rfl,_⟩:=ha;simp only[q2i,hx]at h;split at h
       ·rename_i b' _;simp only[qI]at h;subst h;exact absurd (show D.cs [.sl (.int .i32) l]=D.cs [.str b'] from ho) (by simp)
       ·split at h
        ·rename_i l' hl;simp only[qI]at h;subst h;have ho:D.cs [.sl (.int .i32) l]=D.cs [.sl (.int .i32) l']:=ho;have ho:l=l':=by injection ho with ho;injection ho with ho;injection ho with _ ho
         subst ho;have h1:=q13 hl;rw[hsrc]at h1;simp only[qI,qP]at h1;exact⟨h1.1,h1.2,trivial⟩
        ·simp only[qI]at h;subst h;exact absurd (show D.cs [.sl (.int .i32) l]=D.none from ho) (by simp)
      ·cases ha
     ·cases ha
    ·cases ha
  ·cases ha
 ·split at ha
  ·unfold zc1 at ha;split at ha
   ·split at ha
    ·split at ha
     ·exact triv ha
     ·cases ha
    ·cases ha
   ·cases ha
  ·cases ha
 ·split at ha
  ·unfold qww at ha;split at ha
   ·split at ha
    ·split at ha
     ·rename_i sz _;cases hz:Nat.beq sz 0<;>rw[hz]at ha<;>simp only[qT,qF,reduceCtorEq]at ha
      split at ha
      ·exact triv ha
      ·exact cnd ha
      ·exact triv ha
      ·cases ha
     ·cases ha
    ·cases ha
   ·cases ha
  ·cases ha
 ·split at ha
  ·split at ha
   ·exact triv ha
   ·cases ha
  ·cases ha
 ·split at ha
  ·rename_i v' j hx hj;simp only[q2i,hx]at h;exact zqk hj h ho ha
  ·cases ha
 ·split at ha
  ·rename_i v' j hx hj;simp only[q2i,hx]at h;exact zoc hj h ho ha
  ·cases ha
 ·split at ha
  ·exact triv ha
  ·cases ha
 ·split at ha
  ·split at ha
   ·unfold aLen at ha;split at ha
    ·exact triv ha
    ·exact triv ha
    ·split at ha
     ·exact triv ha
     ·cases ha
    ·exact triv ha
    ·exact triv ha
    ·cases ha
   ·cases ha
  ·cases ha
 ·split at ha
  ·split at ha
   ·unfold aMax at ha;split at ha
    ·exact cnd ha
    ·cases ha
   ·cases ha
  ·cases ha
 ·split at ha
  ·split at ha
   ·unfold aMin at ha;split at ha
    ·exact cnd ha
    ·cases ha
   ·cases ha
  ·cases ha
 ·split at ha
  ·exact cnd ha
  ·cases ha
 ·cases ha
end Go.Sym
namespace Go.Sym
open Go.RowKit
variable [LC]
mutual
def lend (hp:List (Nat×Box)):AV->AV
 | .own k=>match look hp k with
  | some (.row τ l _) => .sl τ l
  | _ => .own k
 | .agg xs => .agg (q17 hp xs)
 | x=>x
def q17 (hp:List (Nat×Box)):List AV->List AV
 | []=>[]
 | x::xs=>lend hp x::q17 hp xs
end
mutual
def zfl:AV->Bool
 | .own _=>true
 | .agg xs=>qxg xs
 | _=>false
def qxg:List AV->Bool
 | []=>false
 | x::xs=>zfl x||qxg xs
end
mutual
def noIf:AV->Bool
 | .iface _ x=>match x with
  | .oel _ _ _ _=>true
  | _=>false
 | .agg xs=>qws xs
 | .tup xs=>qws xs
 | .fn _ xs ys=>qws xs&&qws ys
 | _=>true
def qws:List AV->Bool
 | []=>true
 | x::xs=>noIf x&&qws xs
end
omit [LC] in
theorem qwc:∀ {xs ys:List AV},qws xs=true->qws ys=true->qws (xs++ys)=true
 | [],_,_,h=>h
 | x::xs,ys,h,k=>by
  simp only[qws,qA,wK]at h ⊢;exact⟨h.1,qwc h.2 k⟩
omit [LC] in
theorem qwf:∀ {τ:Ty} {d:τ.den},qws (τ.enc d)=true
 | .int _,_=>rfl
 | .byte,_=>rfl
 | .bool,_=>rfl
 | .str,_=>rfl
 | .unit,_=>rfl
 | .prod _ _,_=>qwc qwf qwf
 | .list _,_=>rfl
 | .tree _,_=>qwc qwf rfl
omit [LC] in
theorem zql:∀ {τ:Ty} {d:τ.den},noIf (τ.av d)=true
 | .int _,_=>rfl
 | .byte,_=>rfl
 | .bool,_=>rfl
 | .str,_=>rfl
 | .unit,_=>rfl
 | .prod a b,d=>qwf (τ := .prod a b) (d:=d)
 | .list _,_=>rfl
 | .tree a,d=>qwf (τ := .tree a) (d:=d)
omit [LC] in
mutual
theorem zob:∀ {p:Pt} {d:p.den},noIf (p.put d)=true
 | .h _,_=>zql
 | .c _,_=>rfl
 | .agg ps,d=>qsg (ps:=ps) (d:=d)
 | .tup ps,d=>qsg (ps:=ps) (d:=d)
 | .ptr _ _,_=>rfl
 | .own _,_=>rfl
 | .arr _,_=>rfl
 | .el _ _,_=>rfl
 | .iel _ _ _,_=>rfl
 | .yld _,_=>rfl
 | .pn _,_=>rfl
 | .fn _ cap,d=>qsg (ps:=cap) (d:=d)
 | .u,_=>rfl
theorem qsg:∀ {ps:List Pt} {d:Pts.den ps},qws (Pts.put ps d)=true
 | [],_=>rfl
 | p::ps,d=>by
  show (noIf (p.put d.1)&&qws (Pts.put ps d.2))=true;rw[zob,qsg];rfl
end
omit [LC] in
mutual
theorem qg8 {b:Bool} {hp:List (Nat×Box)}:∀ {x y:AV} {ps:List Prop},noIf y=true->vw false [] (x.ren (rho [])) y=some ps->Alls ps->∃ qs,vw b hp x y=some qs/\Alls qs
 | .agg xs,y,ps,hn,h,hp=>by
  cases y<;>first
   | exact qw2 (xs:=xs) hn h hp
   | exact⟨_,rfl,trivial⟩
   | (exfalso;have:=qJ h;subst this;exact absurd hp.1 (by simp))
 | .tup xs,y,ps,hn,h,hp=>by
  cases y<;>first
   | exact qw2 (xs:=xs) hn h hp
   | exact⟨_,rfl,trivial⟩
   | (exfalso;have:=qJ h;subst this;exact absurd hp.1 (by simp))
 | .fn f xs ys,y,ps,hn,h,hp=>by
  cases y with
  | fn f' xs' ys'=>
   simp only[noIf,qA]at hn;have h:(match vws false [] (AV.rens (rho []) xs) xs',vws false [] (AV.rens (rho []) ys) ys' with
    | some ps,some qs=>some ((f'=f)::(ps++qs))
    | _,_=>none)=some ps:=h
   split at h
   ·rename_i p1 p2 h1 h2;have:=qJ h;subst this;obtain⟨q1,e1,a1⟩:=qw2 (b:=b) (hp:=‹_›) hn.1 h1 (qal.1 hp.2).1;obtain⟨q2,e2,a2⟩:=qw2 (b:=b) (hp:=‹_›) hn.2 h2 (qal.1 hp.2).2;exact⟨(f'=f)::(q1++q2),by simp only[vw,e1,e2],hp.1,qal.2 ⟨a1,a2⟩⟩
   ·cases h
  | undef=>exact⟨_,rfl,trivial⟩
  | _=>exfalso;have:=qJ h;subst this;exact absurd hp.1 (by simp)
 | .val v,y,ps,hn,h,hp=>by cases y<;>exact⟨ps,h,hp⟩
 | .undef,y,ps,hn,h,hp=>by cases y<;>exact⟨ps,h,hp⟩
 | .int _ _,y,ps,hn,h,hp=>by cases y<;>exact⟨ps,h,hp⟩
 | .byte _,y,ps,hn,h,hp=>by cases y<;>exact⟨ps,h,hp⟩
 | .bool _,y,ps,hn,h,hp=>by cases y<;>exact⟨ps,h,hp⟩
 | .str _,y,ps,hn,h,hp=>by cases y<;>exact⟨ps,h,hp⟩
 | .sl _ _,y,ps,hn,h,hp=>by cases y<;>exact⟨ps,h,hp⟩
 | .arr _ _,y,ps,hn,h,hp=>by cases y<;>exact⟨ps,h,hp⟩
 | .rop _,y,ps,hn,h,hp=>by cases y<;>exact⟨ps,h,hp⟩
 | .iface t x,y,ps,hn,h,hp=>by
  cases y with
  | undef=>exact⟨_,rfl,trivial⟩
  | iface t' x'=>
   have:=qJ h;subst this;cases x'<;>simp only[noIf,wJ]at hn
   have e:AV.iface t' (AV.oel _ _ _ _)=AV.iface t (AV.ren (rho []) x):=hp.1;injection e with e1 e2
   exfalso;revert e2;cases x<;>simp[AV.ren,rho,q1f]
  | _=>exfalso;have:=qJ h;subst this;exact absurd hp.1 (by simp[AV.ren])
 | .ptr _ _,y,ps,hn,h,hp=>by
  cases y<;>first
   | exact⟨_,rfl,trivial⟩
   | (exfalso;have:=qJ h;subst this;have e:_=AV.undef:=hp.1;cases e)
 | .own _,y,ps,hn,h,hp=>by
  cases y<;>first
   | exact⟨_,rfl,trivial⟩
   | (exfalso;have:=qJ h;subst this;have e:_=AV.undef:=hp.1;cases e)
 | .oel _ _ _ _,y,ps,hn,h,hp=>by
  cases y<;>first
   | exact⟨_,rfl,trivial⟩
   | (exfalso;have:=qJ h;subst this;have e:_=AV.undef:=hp.1;cases e)
 | .osl _ _ _,y,ps,hn,h,hp=>by
  cases y<;>first
   | exact⟨_,rfl,trivial⟩
   | (exfalso;have:=qJ h;subst this;have e:_=AV.undef:=hp.1;cases e)
 | .asl _ _ _,y,ps,hn,h,hp=>by
  cases y<;>first
   | exact⟨_,rfl,trivial⟩
   | (exfalso;have:=qJ h;subst this;have e:_=AV.undef:=hp.1;cases e)
 | .yld _,y,ps,hn,h,hp=>by
  cases y<;>first
   | exact⟨_,rfl,trivial⟩
   | (exfalso;have:=qJ h;subst this;have e:_=AV.undef:=hp.1;cases e)
 | .pn _,y,ps,hn,h,hp=>by
  cases y<;>first
   | exact⟨_,rfl,trivial⟩
   | (exfalso;have:=qJ h;subst this;have e:_=AV.undef:=hp.1;cases e)
theorem qw2 {b:Bool} {hp:List (Nat×Box)}:∀ {xs ys:List AV} {ps:List Prop},qws ys=true->vws false [] (AV.rens (rho []) xs) ys=some ps->Alls ps->∃ qs,vws b hp xs ys=some qs/\Alls qs
 | [],[],ps,_,h,hp=>⟨[],rfl,trivial⟩
 | x::xs,y::ys,ps,hn,h,hp=>by
  simp only[qws,qA]at hn;simp only[AV.rens,vws]at h;split at h
  ·rename_i p1 h1;split at h
   ·rename_i p2 h2;have:=qJ h;subst this;obtain⟨q1,e1,a1⟩:=qg8 (b:=b) (hp:=‹_›) hn.1 h1 (qal.1 hp).1;obtain⟨q2,e2,a2⟩:=qw2 (b:=b) (hp:=‹_›) hn.2 h2 (qal.1 hp).2;exact⟨q1++q2,by simp only[vws,e1,e2],qal.2 ⟨a1,a2⟩⟩
   ·cases h
  ·cases h
 | [],_::_,_,_,h,_=>by simp[AV.rens,vws]at h
 | _::_,[],_,_,h,_=>by simp[AV.rens,vws]at h
end
omit [LC] in
mutual
theorem zqf {hp:List (Nat×Box)}:∀ {x y:AV},noIf y=true->Seen [] (lend hp x) y->∃ qs,vw true hp x y=some qs/\Alls qs
 | .own k,y,hn,⟨ps,h1,h2⟩=>by
  simp only[lend]at h1;split at h1
  ·rename_i τ l E hl
   cases y with
   | undef=>exact⟨_,rfl,trivial⟩
   | sl τ' l'=>
    have:=qJ h1;subst this;exact⟨[AV.sl τ' l'=AV.sl τ l],by simp only[vw,hl,qT],h2.1,trivial⟩
   | _=>exfalso;have:=qJ h1;subst this;exact absurd h2.1 (by simp[AV.ren])
  ·exact qg8 hn h1 h2
 | .agg xs,y,hn,⟨ps,h1,h2⟩=>by
  simp only[lend,AV.ren]at h1
  cases y with
  | undef=>exact⟨_,rfl,trivial⟩
  | agg ys=>
   have h1':vws false [] (AV.rens (rho []) (q17 hp xs)) ys=some ps:=h1;have hn':qws ys=true:=hn;obtain⟨qs,k1,k2⟩:=q1s (xs:=xs) hn' ⟨ps,h1',h2⟩;exact⟨qs,k1,k2⟩
  | _=>exfalso;have:=qJ h1;subst this;exact absurd h2.1 (by simp)
 | .undef,y,hn,⟨ps,h1,h2⟩=>qg8 (x := .undef) hn h1 h2
 | .int k n,y,hn,⟨ps,h1,h2⟩=>qg8 (x := .int k n) hn h1 h2
 | .byte c,y,hn,⟨ps,h1,h2⟩=>qg8 (x := .byte c) hn h1 h2
 | .bool c,y,hn,⟨ps,h1,h2⟩=>qg8 (x := .bool c) hn h1 h2
 | .str c,y,hn,⟨ps,h1,h2⟩=>qg8 (x := .str c) hn h1 h2
 | .sl τ l,y,hn,⟨ps,h1,h2⟩=>qg8 (x := .sl τ l) hn h1 h2
 | .arr τ l,y,hn,⟨ps,h1,h2⟩=>qg8 (x := .arr τ l) hn h1 h2
 | .rop c,y,hn,⟨ps,h1,h2⟩=>qg8 (x := .rop c) hn h1 h2
 | .val c,y,hn,⟨ps,h1,h2⟩=>qg8 (x := .val c) hn h1 h2
 | .tup c,y,hn,⟨ps,h1,h2⟩=>qg8 (x := .tup c) hn h1 h2
 | .ptr b o,y,hn,⟨ps,h1,h2⟩=>qg8 (x := .ptr b o) hn h1 h2
 | .oel k z i o,y,hn,⟨ps,h1,h2⟩=>qg8 (x := .oel k z i o) hn h1 h2
 | .osl k z l,y,hn,⟨ps,h1,h2⟩=>qg8 (x := .osl k z l) hn h1 h2
 | .asl k n c,y,hn,⟨ps,h1,h2⟩=>qg8 (x := .asl k n c) hn h1 h2
 | .yld n,y,hn,⟨ps,h1,h2⟩=>qg8 (x := .yld n) hn h1 h2
 | .pn n,y,hn,⟨ps,h1,h2⟩=>qg8 (x := .pn n) hn h1 h2
 | .fn f a c,y,hn,⟨ps,h1,h2⟩=>qg8 (x := .fn f a c) hn h1 h2
 | .iface t x,y,hn,⟨ps,h1,h2⟩=>qg8 (x := .iface t x) hn h1 h2
theorem q1s {hp:List (Nat×Box)}:∀ {xs ys:List AV},qws ys=true->zaj [] (q17 hp xs) ys->∃ qs,vws true hp xs ys=some qs/\Alls qs
 | [],[],_,_=>⟨[],rfl,trivial⟩
 | x::xs,y::ys,hn,⟨ps,h,hp⟩=>by
  simp only[qws,qA]at hn;simp only[q17,AV.rens,vws]at h;split at h
  ·rename_i p1 h1;split at h
   ·rename_i p2 h2;have:=qJ h;subst this;obtain⟨q1,e1,a1⟩:=zqf hn.1 ⟨_,h1,(qal.1 hp).1⟩;obtain⟨q2,e2,a2⟩:=q1s hn.2 ⟨_,h2,(qal.1 hp).2⟩;exact⟨q1++q2,by simp only[vws,e1,e2],qal.2 ⟨a1,a2⟩⟩
   ·cases h
  ·cases h
 | [],_::_,_,⟨_,h,_⟩=>by simp[q17,AV.rens,vws]at h
 | _::_,[],_,⟨_,h,_⟩=>by simp[q17,AV.rens,vws]at h
end
def Ty.noRef:Ty->Bool
 | .list _=>false
 | .tree _=>false
 | .prod a b=>a.noRef&&b.noRef
 | _=>true
omit [LC] in
theorem qye:∀ {xs ys:List AV},qmm xs=true->qmm ys=true->qmm (xs++ys)=true
 | [],_,_,h=>h
 | x::xs,ys,h,k=>by
  simp only[qmm,qA,wK]at h ⊢;exact⟨h.1,qye h.2 k⟩
omit [LC] in
theorem q0g:∀ {τ:Ty},τ.noRef=true->∀ {d:τ.den},qmm (τ.enc d)=true
 | .int _,_,_=>rfl
 | .byte,_,_=>rfl
 | .bool,_,_=>rfl
 | .str,_,_=>rfl
 | .unit,_,_=>rfl
 | .prod a b,h,_=>by
  simp only[Ty.noRef,qA]at h;exact qye (q0g h.1) (q0g h.2)
def q1r:List (Nat×BPt)->Bool
 | []=>true
 | (_,.row τ _)::r=>τ.noRef&&q1r r
 | _::_=>false
omit [LC] in
theorem q3z:∀ {l:List (Nat×BPt)},q1r l=true->∀ {d:bden l},Alls (qmb (bput l d))
 | [],_,_=>trivial
 | (n,.row τ E)::r,h,d=>by
  simp only[q1r,qA]at h;exact⟨fun x _=>q0g h.1,q3z h.2 (d:=d.2)⟩
 | (_,.cells _ _)::_,h,_=>by cases h
 | (_,.loop _ _ _ _ _ _ _ _)::_,h,_=>by cases h
 | (_,.dfr)::_,h,_=>by cases h
 | (_,.it)::_,h,_=>by cases h
 | (_,.dat _ _)::_,h,_=>by cases h
 | (_,.dead)::_,h,_=>by cases h
mutual
def zgl:Pt->Bool
 | .h τ=>τ.noRef
 | .agg ps=>q1q ps
 | .tup ps=>q1q ps
 | .fn _ ps=>q1q ps
 | _=>true
def q1q:List Pt->Bool
 | []=>true
 | p::ps=>zgl p&&q1q ps
end
def RS.rows:{α:Type}->RS α->Bool
 | _,.one p hp _ _ _=>zgl p&&q1r hp
 | _,.two l r=>l.rows&&r.rows
omit [LC] in
theorem RS.rows_ok:∀ {α:Type} {r:RS α},r.rows=true->∀ {x:α},Alls (qmb (r.res x).2)
 | _,.one _ hp _ _ _,h,_=>q3z (l:=hp) (by simp only[RS.rows,qA]at h;exact h.2)
 | _,.two l r,h,.inl a=>by
  simp only[RS.rows,qA]at h;exact RS.rows_ok (r:=l) h.1 (x:=a)
 | _,.two l r,h,.inr b=>by
  simp only[RS.rows,qA]at h;exact RS.rows_ok (r:=r) h.2 (x:=b)
end Go.Sym
namespace Go.Sym
open Go.RowKit
variable [LC]
def zk0 (s:St) (τ:Ty):AV->Option (List τ.den)
 | .sl τ' l=>match Ty.eq? τ' τ with
  | some ⟨h⟩=>some (h▸l)
  | none=>none
 | .str b=>match Ty.eq? .byte τ with
  | some ⟨h⟩=>some (h▸(b:List Ty.byte.den))
  | none=>none
 | .own k=>match look s.hp k with
  | some (.row τ' l _)=>match Ty.eq? τ' τ with
   | some ⟨h⟩=>some (h▸l)
   | none=>none
  | _=>none
 | .asl b _ _=>match look s.hp b with
  | some (.cells cs _)=>decL τ cs
  | _=>none
 | .val (.slice none 0 0)=>some []
 | _=>none
omit [LC] in
theorem q95 {s:St} {τ:Ty} {v:AV} {l:List τ.den} (h:zk0 s τ v=some l) {flat:List AV} {n:Nat} (hs:qqu s v=some (flat,n)):flat=l.flatMap τ.enc/\n=l.length:=by
 unfold zk0 at h;split at h
 ·split at h
  ·rename_i hh _;subst hh;have h:=qJ h;subst h;simp only[qqu,qI,qP]at hs;obtain⟨rfl,rfl⟩:=hs;exact⟨rfl,rfl⟩
  ·cases h
 ·split at h
  ·rename_i hh _;subst hh;have h:=qJ h;subst h;simp only[qqu,qI,qP]at hs;obtain⟨rfl,rfl⟩:=hs;exact⟨(qwe _).symm,rfl⟩
  ·cases h
 ·split at h
  ·rename_i hl;split at h
   ·rename_i hh _;subst hh;have h:=qJ h;subst h;simp only[qqu,hl,qI,qP]at hs;obtain⟨rfl,rfl⟩:=hs;exact⟨rfl,rfl⟩
   ·cases h
  ·cases h
 ·rename_i b m c;split at h
  ·rename_i cs T hl;simp only[qqu,hl]at hs;cases hq:Nat.beq m c&&Nat.beq cs.length m&&allData (cs.map AV.sym)<;>rw[hq]at hs<;>simp only[qT,qF,reduceCtorEq,qI,qP]at hs
   obtain⟨rfl,rfl⟩:=hs;simp only[qA,Nat.beq_eq]at hq;have e1:=zad h;have e2:cs.length=l.length:=by have:=congrArg List.length e1;simpa using this
   refine⟨?_,by omega⟩
   rw[e1];have hd:∀ x∈l.map τ.av,qzh x=true:=by
    intro x hx;rw[← e1]at hx;have:∀ {xs:List AV},allData xs=true->∀ x∈xs,qzh x=true:=by
     intro xs
     induction xs with
     | nil=>intro _ x hx;cases hx
     | cons y ys ih=>
      intro hy x hx;simp only[allData,qA]at hy;rcases List.mem_cons.1 hx with q|q
      ·rw[q];exact hy.1
      ·exact ih hy.2 x q
    exact this hq.2 x hx
   clear e1 e2 hq h
   induction l with
   | nil=>rfl
   | cons y l ih=>
    rw[List.map_cons,List.flatMap_cons,ih (fun x hx=>hd x (by rw[List.map_cons];exact qE _ hx))]
    have hy:=hd (τ.av y) (by rw[List.map_cons];exact qH)
    have:τ.enc y=[τ.av y]:=by cases τ<;>first|rfl|(simp[Ty.av,qzh]at hy)
    rw[this];rfl
  ·cases h
 ·have h:=qJ h;subst h;simp only[qqu,qI,qP]at hs;obtain⟨rfl,rfl⟩:=hs;exact⟨rfl,rfl⟩
 ·cases h
def q6j (τ:Ty):Nat->List AV->Option (List τ.den)
 | 0,[]=>some []
 | n+1,cs=>match τ.dec cs with
  | some (d,r)=>match q6j τ n r with
   | some ds=>some (d::ds)
   | none=>none
  | none=>none
 | _,_=>none
omit [LC] in
theorem q02 {τ:Ty}:∀ {n:Nat} {cs:List AV} {l:List τ.den},q6j τ n cs=some l->qq9 cs (l.flatMap τ.enc)/\l.length=n
 | 0,[],l,h=>by have h:=qJ h;subst h;exact⟨⟨fun _=>rfl,[],rfl,trivial⟩,rfl⟩
 | 0,_::_,l,h=>by cases h
 | n+1,cs,l,h=>by
  simp only[q6j]at h;split at h
  ·rename_i d r hd;split at h
   ·rename_i ds hds;have h:=qJ h;subst h;obtain⟨vbt,rfl,hs⟩:=qrg hd;obtain⟨h1,h2⟩:=q02 hds;exact⟨hs.append h1,by simp[h2]⟩
   ·cases h
  ·cases h
structure Tb:Type 1 where
 ents:List Ent
 ety:List (Nat×Ty)
 sub:Bool
def nilN:NM->Bool
 | []=>true
 | _=>false
def nilB:List (Nat×BPt)->Bool
 | []=>true
 | _=>false
def q4g (f:FuncId):Key->Bool
 | .fn f'=>Nat.beq f' f
 | _=>false
def zla (s:St) (f:FuncId) (xs:List AV) (e:Ent):Option Rq:=
 bif q4g f e.key&&nilB e.hp&&(!(qxg xs)||e.out.rows) then
  match Pts.get e.args (q17 s.hp xs) [] with
  | some (d,nm)=>match bget s.hp e.hp nm with
   | some (d',nm')=>bif nilN nm' then some (.bnd (e.F d d') (e.out.sp fun r hp' => .res (qxg xs) (Pts.put e.args d) r hp')) else none
   | none=>none
  | none=>none
 else none
def order (nm:NM):List (Nat×BPt)->NM
 | []=>[]
 | (n,_)::r=>match qa4 nm n with
  | some m=>(n,m)::order nm r
  | none=>order nm r
def memQ (s:St) (ys:List AV) (nm0:NM) (e:Ent):Option Rq:=
 match Pts.get e.args ys nm0 with
 | some (d,nm)=>match bget s.hp e.hp nm with
  | some (d',nm')=>bif qam (order nm' e.hp)&&q6n nm' e.hp then
    some (.bnd (e.F d d') (e.out.sp fun r hp' => .mem (order nm' e.hp) (Pts.put e.args d) (bput e.hp d') r hp')) else none
  | none=>none
 | none=>none
def q8q (s:St) (f:FuncId) (ys:List AV) (e:Ent):Option Rq:=bif q4g f e.key then memQ s ys [] e else none
def yldQ (s:St) (m:Nat) (ys:List AV) (e:Ent):Option Rq:=match e.key with
 | .yld m'=>memQ s ys [(m',m)] e
 | _=>none
def q2n (g:Ent->Option Rq):List Ent->Option Rq
 | []=>none
 | e::es=>match g e with
  | some q=>some q
  | none=>q2n g es
def appQ (P:Program) (tb:Tb) (s:St) (t:TypeId) (x y:AV):Option Rq:=
 match x with
 | .own k=>match look s.hp k with
  | some (.row τ l E)=>match zk0 s τ y with
   | some m=>some (.ifb (decide ((l++m).length<=qaq)) (.row (.row τ (l++m) E)))
   | none=>none
  | _=>none
 | _=>match P.underlying t with
  | some (.slice E)=>match look tb.ety E with
   | some τ=>match zk0 s τ y with
    | some m=>some (.ifb (decide (m.length<=qaq)) (.row (.row τ m E)))
    | none=>none
   | none=>none
  | _=>none
def zok (P:Program) (tb:Tb) (s:St) (t:TypeId) (len:Nat) (parts:List (Nat×Operand)):Option Rq:=
 match P.underlying t with
 | some (.slice E)=>match look tb.ety E,qmo P E,qwq s parts with
  | none,_,_=>some (.tot (.b true))
  | some τ,some sz,some ps=>match q7h (fun i=>some (i*sz,sz)) (q9g (len*sz)) ps with
   | some cs=>match q6j τ len cs with
    | some l=>some (.tot (.row (.row τ l E)))
    | none=>none
   | none=>none
  | _,_,_=>none
 | _=>none
def zoe (s:St) (k i off:Nat) (v:AV):Option Rq:=match look s.hp k with
 | some (.row τ l E)=>bif Nat.ble (off+v.cells.length) τ.sz then
   some (.bnd l[i]? (.one fun x=>match τ.dec (qi9 (τ.enc x) off v.cells) with
    | some (y,[]) => .put (((τ.enc y).drop off).take v.cells.length) (.row τ (l.set i y) E)
    | _ => .none))
  else none
 | _=>none
def q30 (P:Program) (tb:Tb) (s:St) (op:Op):Option Rq:=
 match op with
 | .alloc _=>some (.tot .none)
 | .box _ _=>some (.tot .none)
 | .buildSlice t len parts=>zok P tb s t len parts.toList
 | .convert _ _ x=>match s.ev x with
  | some (.str b)=>some (.ifb (decide (b.length<=maxLen)) .none)
  | _=>none
 | .store _ x y=>match s.ev x with
  | some (.ptr _ _)=>some (.tot .none)
  | some (.oel k _ i off)=>match s.ev y with
   | some v=>zoe s k i off v
   | none=>none
  | _=>none
 | .call { callee := .builtin .append,args,argTypes }=>match args.toList,argTypes.toList with
  | [x,y],[t,_]=>match s.ev x,s.ev y with
   | some a,some b=>appQ P tb s t a b
   | _,_=>none
  | _,_=>none
 | .call { callee := .value g,args,argTypes:=_ }=>match s.ev g,s.evs args.toList with
  | some (.fn (.func f) [] cap),some xs=>match q2n (zla s f (xs++cap)) tb.ents with
   | some q=>some q
   | none=>q2n (q8q s f (xs++cap)) tb.ents
  | some (.yld m),some ys=>q2n (yldQ s m ys) tb.ents
  | _,_=>none
 | _=>none
def q5u (P:Program):Op->Bool
 | .alloc _=>false
 | .box _ _=>false
 | .buildSlice _ _ _=>false
 | .store _ _ _=>false
 | .convert _ dst _=>match P.underlying dst with
  | some (.slice _)=>false
  | _=>true
 | .call { callee := .builtin .append,args:=_,argTypes:=_ }=>false
 | .call { callee := .value _,args:=_,argTypes:=_ }=>false
 | _=>true
def areq (P:Program) (tb:Tb) (s:St) (op:Op):Option Rq:=bif q5u P op then q2i P s op else q30 P tb s op
end Go.Sym
namespace Go.Sym
open Go.RowKit
variable [LC]
omit [LC] in
mutual
theorem zrf {hp:List (Nat×Box)}:∀ {x:AV},zfl x=false->lend hp x=x
 | .agg xs,h=>by simp only[lend];rw[q5x (xs:=xs) h]
 | .own k,h=>by cases h
 | .undef,_=>rfl
 | .int _ _,_=>rfl
 | .byte _,_=>rfl
 | .bool _,_=>rfl
 | .str _,_=>rfl
 | .sl _ _,_=>rfl
 | .arr _ _,_=>rfl
 | .rop _,_=>rfl
 | .val _,_=>rfl
 | .tup _,_=>rfl
 | .ptr _ _,_=>rfl
 | .oel _ _ _ _,_=>rfl
 | .osl _ _ _,_=>rfl
 | .asl _ _ _,_=>rfl
 | .yld _,_=>rfl
 | .pn _,_=>rfl
 | .fn _ _ _,_=>rfl
 | .iface _ _,_=>rfl
theorem q5x {hp:List (Nat×Box)}:∀ {xs:List AV},qxg xs=false->q17 hp xs=xs
 | [],_=>rfl
 | x::xs,h=>by
  simp only[qxg,Bool.or_eq_false_iff]at h;simp only[q17,q5x h.2,zrf h.1]
end
omit [LC] in
theorem zif {nm:NM} (h:nilN nm=true):nm=[]:=by cases nm with
 | nil=>rfl
 | cons _ _=>cases h
omit [LC] in
theorem zm8:∀ {l:List (Nat×BPt)} {d:bden l},nilB l=true->bput l d=[]
 | [],_,_=>rfl
 | _::_,_,h=>by cases h
omit [LC] in
theorem q5y {f:FuncId} {k:Key} (h:q4g f k=true):k = .fn f:=by
 cases k with
 | fn f'=>rw[qN (show Nat.beq f' f=true from h)]
 | yld _=>cases h
 | ext _=>cases h
omit [LC] in
theorem qn7 {g:Ent->Option Rq}:∀ {es:List Ent} {q:Rq},q2n g es=some q->∃ e∈es,g e=some q
 | [],_,h=>by cases h
 | e::es,q,h=>by
  simp only[q2n]at h;split at h
  ·rename_i q' hq;have h:=qJ h;subst h;exact⟨e,qH,hq⟩
  ·obtain⟨e',h1,h2⟩:=qn7 h;exact⟨e',qE _ h1,h2⟩
theorem zc8 {P:Program} {s:St} {f:FuncId} {xs:List AV} {e:Ent} {q:Rq} {d:D} (he:e.Sound P) (h:zla s f xs e=some q) (ho:q.Out d) :
  ∃ b ys r hp' ps,d = .res b ys r hp'/\vws b s.hp xs ys=some ps/\Alls ps/\q8k P f/\qbm P f ys [] r hp'/\(b=true->Alls (qmb hp')):=by
 unfold zla at h;cases hk:q4g f e.key&&nilB e.hp&&(!(qxg xs)||e.out.rows)<;>rw[hk]at h<;>simp only[qT,qF,reduceCtorEq]at h
 simp only[qA]at hk;obtain⟨⟨hk1,hk2⟩,hk3⟩:=hk;split at h
 ·rename_i x nm hg;split at h
  ·rename_i x' nm' hg';cases hn:nilN nm'<;>rw[hn]at h<;>simp only[qT,qF,reduceCtorEq,qI]at h
   subst h;have hn:=zif hn;subst hn;obtain⟨y,hy,hd⟩:=ho;have hd:=RS.sp_out hd;have hs:=he x x' y hy;rw[q5y hk1]at hs;simp only at hs;rw[zm8 hk2]at hs;have hseen:=(Pts.get_seen hg).2 [] rfl (fun n m hh=>by have:=(qrx hg').1 n m hh;cases this)
   have key:∃ ps,vws (qxg xs) s.hp xs (Pts.put e.args x)=some ps/\Alls ps:=by
    cases hb:qxg xs
    ·rw[q5x hb]at hseen;obtain⟨ps,h1,h2⟩:=hseen;exact qw2 qsg h1 h2
    ·exact q1s qsg hseen
   obtain⟨ps,k1,k2⟩:=key;refine⟨qxg xs,Pts.put e.args x,_,_,ps,hd,k1,k2,hs.1,hs.2,fun hb => ?_⟩
   rw[hb]at hk3;exact RS.rows_ok (by simpa using hk3)
  ·cases h
 ·cases h
omit [LC] in
theorem qz5 {nm:NM}:∀ {l:List (Nat×BPt)} {n m:Nat},qa4 nm n=some m->(∃ e∈l,e.1=n)->qa4 (order nm l) n=some m
 | [],n,m,_,⟨e,he,_⟩=>by cases he
 | (k,p)::r,n,m,h,⟨e,he,hn⟩=>by
  simp only[order];cases hq:Nat.beq k n
  ·have hr:∃ e∈r,e.1=n:=by
    rcases List.mem_cons.1 he with rfl|he
    ·simp only at hn;subst hn;simp at hq
    ·exact⟨e,he,hn⟩
   split
   ·simp only[qa4,hq,qF];exact qz5 h hr
   ·exact qz5 h hr
  ·have:=qN hq;subst this;rw[h];simp[qa4]
omit [LC] in
theorem q8s {hp:List (Nat×Box)} {N M:NM} (hN:qam N=true):∀ {l:List (Nat×BPt)} {nm nm':NM} {d:bden l},bget hp l nm=some (d,nm')->SubN nm' M->SubN nm' N->∀ {hpv:List (Nat×Box)} {ps:List Prop},
  qm2 (rho N) hp (order M l)=some hpv->vwHp hpv (bput l d)=some ps->Alls ps
 | [],nm,nm',d,h,_,_,hpv,ps,hv,hw=>by
  simp only[order,qm2,qI]at hv;subst hv;have:=qJ (show some []=some ps from hw);subst this;trivial
 | (j,p)::r,nm,nm',d,h,hM,hS,hpv,ps,hv,hw=>by
  have h:(match qa4 nm j with
   | some old=>match look hp old with
    | some b=>match p.get b nm with
     | some (d,nm')=>match bget hp r nm' with
      | some (ds,nm'')=>some ((d,ds),nm'')
      | none=>none
     | none=>none
    | none=>none
   | none=>none)=some (d,nm'):=h
  split at h
  ·rename_i old ho;split at h
   ·rename_i b hb;split at h
    ·rename_i d1 nm1 h1;split at h
     ·rename_i d2 nm2 h2;simp only[qI]at h;obtain⟨rfl,rfl⟩:=h;obtain⟨a1,a2⟩:=BPt.get_seen h1;obtain⟨b1,_⟩:=qrx h2;have hj:qa4 M j=some old:=hM _ _ (b1 _ _ (a1 _ _ ho));simp only[order,hj,qm2,hb]at hv;split at hv
      ·rename_i b' l' e1 e2;simp only[qI]at e1 hv;subst e1 hv;have hw:(bif Nat.beq j j then (match vwB (renB (rho N) b) (p.put d1),vwHp l' (bput r d2) with
        | some ps,some qs=>some (ps++qs)
        | _,_=>none) else none)=some ps:=hw
       rw[show Nat.beq j j=true by simp]at hw
       simp only[qT]at hw;split at hw
       ·rename_i p1 p2 w1 w2;have:=qJ hw;subst this;obtain⟨p1',s1,s2⟩:=a2 N hN (b1.trans hS);rw[w1]at s1;have:=qJ s1;subst this;exact qal.2 ⟨s2,q8s hN h2 hM hS e2 w2⟩
       ·cases hw
      ·cases hv
     ·cases h
    ·cases h
   ·cases h
  ·cases h
omit [LC] in
theorem q5z {s:St} {ys:List AV} {nm0:NM} {e:Ent} {q:Rq} {d:D} (h:memQ s ys nm0 e=some q) (ho:q.Out d) :
  ∃ N x x' y,e.F x x'=some y/\d = .mem N (Pts.put e.args x) (bput e.hp x') (e.out.res y).1 (e.out.res y).2/\qam N=true/\SubN nm0 N /\
   (∀ ps,vws false [] (AV.rens (rho N) ys) (Pts.put e.args x)=some ps->Alls ps)/\∀ hpv ps,qm2 (rho N) s.hp N=some hpv->vwHp hpv (bput e.hp x')=some ps->Alls ps:=by
 unfold memQ at h;split at h
 ·rename_i x nm hg;split at h
  ·rename_i x' nm' hg';cases hk:qam (order nm' e.hp)&&q6n nm' e.hp<;>rw[hk]at h<;>simp only[qT,qF,reduceCtorEq,qI]at h
   subst h;simp only[qA]at hk;obtain⟨y,hy,hd⟩:=ho;have hsub:SubN nm' (order nm' e.hp):=fun n m hh=>qz5 hh (qz1 hk.2 n m hh)
   obtain⟨g1,g2⟩:=Pts.get_seen hg;obtain⟨g1',_⟩:=qrx hg';refine⟨order nm' e.hp,x,x',y,hy,RS.sp_out hd,hk.1,g1.trans (g1'.trans hsub),fun ps hv => ?_,fun hpv ps hv hw=>q8s hk.1 hg' (SubN.refl _) hsub hv hw⟩
   obtain⟨ps',h1,h2⟩:=g2 _ hk.1 (g1'.trans hsub);rw[hv]at h1;have:=qJ h1;subst this;exact h2
  ·cases h
 ·cases h
omit [LC] in
theorem q40 {s s':St} {q:Prop} {ys xs:List AV} {names:List (Nat×Nat)} {hp hp':List (Nat×Box)} {r:AV} {t:Nat} {ps:List Prop} (h:qvu s q ys names xs hp r hp' t=some (ps,s')) (hq:q)
  (h1:∀ ps,vws false [] (AV.rens (rho names) ys) xs=some ps->Alls ps) (h2:∀ hpv ps,qm2 (rho names) s.hp names=some hpv->vwHp hpv hp=some ps->Alls ps):Alls ps:=by
 unfold qvu at h;cases hb:qam names&&qgs names&&qah (s.nx+32*t) s.hp&&Nat.blt t s.n<;>rw[hb]at h<;>simp only[qT,qF,reduceCtorEq]at h
 split at h
 ·rename_i hpv ps1 e1 e2;split at h
  ·rename_i ps2 e3;simp only[qI,qP]at h;obtain⟨rfl,_⟩:=h;exact⟨hq,qal.2 ⟨h1 _ e2,h2 _ _ e1 e3⟩⟩
  ·cases h
 ·cases h
omit [LC] in
theorem q4r {P:Program} {s:St} {d:D} {op:Op} (h:q5u P op=false):aval P s d op=none:=by
 unfold q5u at h;split at h<;>first
  | rfl
  | cases h
  | (split at h
     ·rename_i src dst x _ E hE;simp only[aval,hE];have hc:∀ v,q37 P dst v=none:=fun v=>by
       unfold q37;rw[hE]
      have hc':∀ v,q0v P dst v=none:=fun v=>by
       unfold q0v;split
       ·rw[hc]
       ·rw[hc]
      cases P.underlying src<;>cases s.ev x<;>simp[hc']
     ·cases h)
end Go.Sym
namespace Go.Sym
open Go.RowKit
variable [LC]
theorem q7o {P:Program} {s:St} {d:D} {o:Oper} (h:q5u P o.op=true):anew P s d o=none:=by
 obtain⟨dst,op,ty,pos,after,guard⟩:=o;simp only at h
 cases hA:anew P s d ⟨dst,op,ty,pos,after,guard⟩ with
 | none=>rfl
 | some R=>
  exfalso;unfold anew at hA;split at hA
  ·rename_i e _;simp only at e;subst e;cases h
  ·rename_i e _;simp only at e;subst e;cases h
  ·rename_i e _;simp only at e;subst e;cases h
  ·rename_i e _;simp only at e;subst e;cases h
  ·rename_i e _;simp only at e;subst e;cases h
  ·rename_i e _;simp only at e;subst e;split at hA
   ·rename_i e2 _;simp only[q5u,e2]at h;cases h
   ·cases hA
  ·cases hA
theorem zg6 {P:Program} {s:St} {d:D} {o:Oper} (h:q5u P o.op=true):amod P s d o=none:=by
 obtain⟨dst,op,ty,pos,after,guard⟩:=o;simp only at h
 cases hA:amod P s d ⟨dst,op,ty,pos,after,guard⟩ with
 | none=>rfl
 | some R=>
  exfalso;unfold amod at hA;split at hA
  ·rename_i e;simp only at e;subst e;cases h
  ·rename_i e;simp only at e;subst e;cases h
  ·rename_i e;simp only at e;subst e;cases h
  ·cases hA
omit [LC] in
theorem znj {P:Program} {tb:Tb} {s:St} {t t2:TypeId} {y:AV} {q:Rq} {d:D} {ps:List Prop} {b:Box} (h:appQ P tb s t (.val (.slice none 0 0)) y=some q) (ho:q.Out d) (ha:qqk P s d t t2 [] 0 y=some (ps,b)):Alls ps:=by
 unfold appQ at h;simp only at h;unfold qqk at ha;split at h
 ·rename_i E hE;split at h
  ·rename_i τ hτ;split at h
   ·rename_i m hm;have h:=qJ h;subst h;obtain⟨h1,rfl⟩:=ho;simp only[hE]at ha;split at ha
    ·rename_i sz flat n e1 e2;obtain⟨k1,k2⟩:=q95 hm e2;cases hq:Nat.beq τ.sz sz&&Nat.beq E E&&qjt P E&&q20 P t2<;>rw[hq]at ha<;>simp only[qT,qF,reduceCtorEq,qI,qP]at ha
     obtain⟨rfl,_⟩:=ha;exact⟨by rw[k1];rfl,by omega,of_decide_eq_true h1,trivial⟩
    ·cases ha
   ·cases h
  ·cases h
 ·cases h
omit [LC] in
theorem zms {P:Program} {tb:Tb} {s:St} {t t2:TypeId} {k:Nat} {τ0:Ty} {l0:List τ0.den} {E0:TypeId} {y:AV} {q:Rq} {d:D} {ps:List Prop} {b:Box} (hk:look s.hp k=some (.row τ0 l0 E0)) (h:appQ P tb s t (.own k) y=some q) (ho:q.Out d) (ha:qqk P s d t t2 (l0.flatMap τ0.enc) l0.length y=some (ps,b)):Alls ps:=by
 unfold appQ at h;simp only[hk]at h;unfold qqk at ha;split at h
 ·rename_i m hm;have h:=qJ h;subst h;obtain⟨h1,rfl⟩:=ho;split at ha
  ·rename_i E _ _ _ e0 ed;simp only[D.row.injEq,Box.row.injEq]at ed;obtain⟨rfl,ed,rfl⟩:=ed;have ed:=eq_of_heq ed;subst ed;split at ha
   ·rename_i sz flat n e1 e2;obtain⟨k1,k2⟩:=q95 hm e2;cases hq:Nat.beq τ0.sz sz&&Nat.beq E E0&&qjt P E&&q20 P t2<;>rw[hq]at ha<;>simp only[qT,qF,reduceCtorEq,qI,qP]at ha
    obtain⟨rfl,_⟩:=ha;exact⟨by rw[k1,List.flatMap_append],by rw[k2,qM],of_decide_eq_true h1,trivial⟩
   ·cases ha
  ·cases ha
 ·cases h
theorem q77 {P:Program} {tb:Tb} {s:St} {o:Oper} {q:Rq} {d:D} {ps:List Prop} {v:AV} {new:List (Nat×Box)} (hT:∀ e∈tb.ents,e.Sound P) (hv:q5u P o.op=false) (h:q30 P tb s o.op=some q) (ho:q.Out d) (ha:anew P s d o=some (ps,v,new)):Alls ps:=by
 obtain⟨dst,op,ty,pos,after,guard⟩:=o;simp only at h hv;have cnd:∀ {b:Bool} {x:AV} {y:List (Nat×Box)} {ps0 ps:List Prop} {v:AV} {new:List (Nat×Box)},(bif b then some (ps0,x,y) else none)=some (ps,v,new)->Alls ps0->Alls ps:=fun {b} _ _ _ _ _ _ e k=>by
  cases b
  ·cases e
  ·simp only[qT,qI,qP]at e;obtain⟨rfl,_⟩:=e;exact k
 unfold anew at ha;split at ha
 ·split at ha
  ·exact cnd ha trivial
  ·cases ha
 ·split at ha
  ·exact cnd ha trivial
  ·cases ha
 ·rename_i g args ats t e _;simp only at e;subst e;split at ha
  ·rename_i f cap xs b xs' r hp' e1 e2;split at ha
   ·rename_i ps1 hps;refine cnd ha ?_;simp only[q30,e1,e2]at h;have key:∀ e∈tb.ents,zla s f (xs++cap) e=some q->Alls (q8k P f::qbm P f xs' [] r hp'::(ps1++(bif b then qmb hp' else []))):=fun e he hc=>by
     obtain⟨b1,ys,r1,hp1,ps2,k1,k2,k3,k4,k5,k6⟩:=zc8 (hT e he) hc ho;simp only[D.res.injEq]at k1;obtain⟨rfl,rfl,rfl,rfl⟩:=k1;rw[hps]at k2;have:=qJ k2;subst this;refine⟨k4,k5,qal.2 ⟨k3,?_⟩⟩;cases b
     ·trivial
     ·exact k6 rfl
    split at h
    ·rename_i q' hq;have h:=qJ h;subst h;obtain⟨e,he,hc⟩:=qn7 hq;exact key e he hc
    ·exfalso;obtain⟨e,he,hc⟩:=qn7 h;unfold q8q at hc;cases hk:q4g f e.key<;>rw[hk]at hc<;>simp only[qT,qF,reduceCtorEq]at hc
     obtain⟨N,x,x',y,_,k2,_⟩:=q5z hc ho;cases k2
   ·cases ha
  ·cases ha
 ·rename_i args ats tt e _;simp only at e;subst e;split at ha
  ·rename_i x y t t2 e1 e2;split at ha
   ·rename_i v' e3 e4;split at ha
    ·rename_i ps1 b e5;refine cnd ha ?_;simp only[q30,e1,e2,e3,e4]at h;exact znj h ho e5
    ·cases ha
   ·cases ha
  ·cases ha
 ·rename_i t len parts tt e _;simp only at e;subst e;split at ha
  ·rename_i ps1 b e1;refine cnd ha ?_;simp only[q30]at h;unfold zok at h;unfold qkb at e1;split at h
   ·rename_i E hE;split at h
    ·have h:=qJ h;subst h;have ho:d=_:=ho;subst ho;simp[hE]at e1
    ·rename_i τ sz ps2 i1 i2 i3;split at h
     ·rename_i cs hcs;split at h
      ·rename_i l hl;have h:=qJ h;subst h;have ho:d=_:=ho;subst ho;simp only[hE,i2,i3,hcs]at e1;cases hq:Nat.beq τ.sz sz&&Nat.beq E E&&qjt P E&&Nat.ble (len*τ.sz) 16777216&&AV.ones cs<;>rw[hq]at e1<;>simp only[qT,qF,reduceCtorEq]at e1
       obtain⟨⟨j1,ps3,j2,j3⟩,j4⟩:=q02 hl;rw[j2]at e1;simp only[qI,qP]at e1;obtain⟨rfl,_⟩:=e1;exact qal.2 ⟨j3,j4,j1 _,trivial⟩
      ·cases h
     ·cases h
    ·cases h
   ·cases h
  ·split at ha
   ·exact cnd ha trivial
   ·cases ha
 ·rename_i src dst x tt e _;simp only at e;subst e;split at ha
  ·rename_i E b e1 e2 e3;split at ha
   ·refine cnd ha ?_;simp only[q30,e3,qI]at h;subst h;exact⟨of_decide_eq_true ho.1,trivial⟩
   ·cases ha
  ·cases ha
 ·cases ha
omit [LC] in
theorem qwg:∀ (ys a b:List AV) (k:Nat),qi9 (a++b) (a.length+k) ys=a++qi9 b k ys
 | [],_,_,_=>rfl
 | y::ys,a,b,k=>by
  simp only[qi9];rw[List.set_append_right _ _ (by omega),Nat.add_sub_cancel_left,Nat.add_assoc]
  exact qwg ys a (b.set k y) (k+1)
omit [LC] in
theorem q3f:∀ (ys a b:List AV) (k:Nat),k+ys.length<=a.length->qi9 (a++b) k ys=qi9 a k ys++b
 | [],_,_,_,_=>rfl
 | y::ys,a,b,k,h=>by
  simp only[qL]at h;simp only[qi9];rw[List.set_append_left _ _ (by omega)]
  exact q3f ys (a.set k y) b (k+1) (by rw[List.length_set];omega)
omit [LC] in
theorem qrp:∀ (ys a:List AV) (k j:Nat),k+ys.length<=a.length->(qi9 a k ys)[j]? = if k<=j/\j<k+ys.length then ys[j-k]? else a[j]?
 | [],a,k,j,_=>by simp only[qi9,qZ];rw[qW (by omega)]
 | y::ys,a,k,j,h=>by
  simp only[qL]at h;simp only[qi9];rw[qrp ys (a.set k y) (k+1) j (by rw[List.length_set];omega)]
  simp only[qL];by_cases h1:k+1<=j/\j<k+1+ys.length
  ·rw[qX h1,qX (by omega),show j-k=(j-(k+1))+1 by omega];simp
  ·rw[qW h1];by_cases h2:j=k
   ·subst h2;rw[qX (by omega)];simp[show j<a.length by omega]
   ·rw[qW (by omega),List.getElem?_set_ne (by omega)]
omit [LC] in
theorem q5j {τ:Ty} {y:τ.den} {ys:List AV} {off:Nat}:∀ {l:List τ.den} {i:Nat} {x:τ.den},l[i]? = some x->off+ys.length<=τ.sz->τ.enc y=qi9 (τ.enc x) off ys->(l.set i y).flatMap τ.enc=qi9 (l.flatMap τ.enc) (i*τ.sz+off) ys
 | [],_,_,h,_,_=>by simp at h
 | z::l,0,x,h,ho,he=>by
  simp only[List.getElem?_cons_zero,qI]at h;subst h;simp only[List.set_cons_zero,List.flatMap_cons,Nat.zero_mul,wO];rw[q3f _ _ _ _ (by rw[τ.enc_length];exact ho),he]
 | z::l,i+1,x,h,ho,he=>by
  simp only[List.getElem?_cons_succ]at h;simp only[List.set_cons_succ,List.flatMap_cons];rw[show (i+1)*τ.sz+off=(τ.enc z).length+(i*τ.sz+off) by rw[τ.enc_length,Nat.succ_mul];omega,qwg,q5j h ho he]
omit [LC] in
theorem zae {b:Bool} {hp:List (Nat×Box)}:∀ {xs ys:List AV} {ps:List Prop},vws b hp xs ys=some ps->Alls ps->∀ (j:Nat) (x y:AV),xs[j]? = some x->ys[j]? = some y->∃ qs,vw b hp x y=some qs/\Alls qs
 | x::xs,y::ys,ps,h,hp,j,u,v,hu,hv=>by
  simp only[vws]at h;split at h
  ·rename_i p1 h1;split at h
   ·rename_i p2 h2;have:=qJ h;subst this
    cases j with
    | zero=>simp only[List.getElem?_cons_zero,qI]at hu hv;subst hu hv;exact⟨p1,h1,(qal.1 hp).1⟩
    | succ j=>exact zae h2 (qal.1 hp).2 j u v (by simpa using hu) (by simpa using hv)
   ·cases h
  ·cases h
 | [],[],_,_,_,j,_,_,hu,_=>by simp at hu
 | [],_::_,_,h,_,_,_,_,_,_=>by simp[vws]at h
 | _::_,[],_,h,_,_,_,_,_,_=>by simp[vws]at h
omit [LC] in
theorem zcf {b:Bool} {hp:List (Nat×Box)}:∀ {xs ys:List AV} {ps:List Prop},vws b hp xs ys=some ps->(∀ (j:Nat) (x y:AV),xs[j]? = some x->ys[j]? = some y->∃ qs,vw b hp x y=some qs/\Alls qs)->Alls ps
 | x::xs,y::ys,ps,h,hq=>by
  simp only[vws]at h;split at h
  ·rename_i p1 h1;split at h
   ·rename_i p2 h2;have:=qJ h;subst this;obtain⟨q1,e1,a1⟩:=hq 0 x y rfl rfl;rw[h1]at e1;have:=qJ e1;subst this;exact qal.2 ⟨a1,zcf h2 fun j u v hu hv=>hq (j+1) u v (by simpa using hu) (by simpa using hv)⟩
   ·cases h
  ·cases h
 | [],[],_,h,_=>by simp only[vws,qI]at h;subst h;trivial
 | [],_::_,_,h,_=>by simp[vws]at h
 | _::_,[],_,h,_=>by simp[vws]at h
omit [LC] in
theorem qyr:∀ {τ:Ty} {d:τ.den},∀ x∈τ.enc d,qzh x=true
 | .int _,_,x,h=>by simp only[Ty.enc,List.mem_singleton]at h;subst h;rfl
 | .byte,_,x,h=>by simp only[Ty.enc,List.mem_singleton]at h;subst h;rfl
 | .bool,_,x,h=>by simp only[Ty.enc,List.mem_singleton]at h;subst h;rfl
 | .str,_,x,h=>by simp only[Ty.enc,List.mem_singleton]at h;subst h;rfl
 | .unit,_,x,h=>by simp[Ty.enc]at h
 | .prod a b,d,x,h=>by
  rcases List.mem_append.1 h with h|h
  ·exact qyr x h
  ·exact qyr x h
 | .list _,_,x,h=>by simp only[Ty.enc,List.mem_singleton]at h;subst h;rfl
 | .tree a,d,x,h=>by
  rcases List.mem_append.1 h with h|h
  ·exact qyr x h
  ·simp only[List.mem_singleton]at h;subst h;rfl
omit [LC] in
theorem zpy {x y:AV} (hx:qzh x=true) (hy:qzh y=true) {qs:List Prop} (h:vw false [] x y=some qs) (hq:Alls qs):y=x:=by
 cases x<;>first|cases hx|skip
 all_goals (cases y<;>first|cases hy|skip)
 all_goals (have:=qJ h;subst this;exact hq.1)
omit [LC] in
theorem zcj {ρ:Nat->Option Nat}:∀ {xs:List AV} {j:Nat},(AV.rens ρ xs)[j]? = (xs[j]?).map (AV.ren ρ)
 | [],j=>by simp[AV.rens]
 | x::xs,0=>by simp[AV.rens]
 | x::xs,j+1=>by simp only[AV.rens,List.getElem?_cons_succ];exact zcj
omit [LC] in
theorem zhg {τ:Ty} {l:List τ.den} {i off:Nat} {x y:τ.den} {c:List AV} {ps:List Prop} (ho:off+c.length<=τ.sz) (hx:l[i]? = some x) (hd:τ.dec (qi9 (τ.enc x) off c)=some (y,[]))
  (hv:vws false [] c (((τ.enc y).drop off).take c.length)=some ps) :
  Alls (ps++[i*τ.sz+off+c.length<=l.length*τ.sz,(l.set i y).flatMap τ.enc=qi9 (l.flatMap τ.enc) (i*τ.sz+off) (((τ.enc y).drop off).take c.length),(l.set i y).length=l.length,AV.rens (fun _=>none) c=c]):=by
 obtain⟨vbt,e1,hr,qs,hq1,hq2⟩:=qrg hd;simp only[List.append_nil]at e1;subst e1;have hle:off+c.length<=(τ.enc x).length:=by rw[τ.enc_length];exact ho
 have vbu:(((τ.enc y).drop off).take c.length).length=c.length:=by simp[τ.enc_length];omega
 have hseg:∀ (j:Nat) (z u:AV),c[j]? = some z->(((τ.enc y).drop off).take c.length)[j]? = some u->∃ qs,vw false [] z u=some qs/\Alls qs:=fun j z u h1 h2=>by
  have hj:j<c.length:=(List.getElem?_eq_some_iff.1 h1).1;refine zae hq1 hq2 (off+j) z u ?_ ?_
  ·rw[qrp _ _ _ _ hle,qX (by omega),Nat.add_sub_cancel_left];exact h1
  ·rw[List.getElem?_take,qX hj,List.getElem?_drop]at h2;exact h2
 have he:τ.enc y=qi9 (τ.enc x) off (((τ.enc y).drop off).take c.length):=by
  apply List.ext_getElem?;intro j;rw[qrp _ _ _ _ (by rw[vbu];exact hle),vbu]
  by_cases hj:off<=j/\j<off+c.length
  ·rw[qX hj,List.getElem?_take,qX (by omega),List.getElem?_drop,show off+(j-off)=j by omega]
  ·rw[qW hj]
   cases hz:(τ.enc x)[j]? with
   | none=>
    have:=List.getElem?_eq_none_iff.1 hz;rw[τ.enc_length]at this;exact List.getElem?_eq_none_iff.2 (by rw[τ.enc_length];exact this)
   | some z=>
    have hjl:j<τ.sz:=by have:=(List.getElem?_eq_some_iff.1 hz).1;rwa [τ.enc_length]at this
    have hu:∃ u,(τ.enc y)[j]? = some u:=⟨_,List.getElem?_eq_getElem (by rw[τ.enc_length];exact hjl)⟩
    obtain⟨u,hu⟩:=hu;obtain⟨q,q1,q2⟩:=zae hq1 hq2 j z u (by rw[qrp _ _ _ _ hle,qW hj];exact hz) hu
    rw[hu,zpy (qyr z (List.mem_of_getElem? hz)) (qyr u (List.mem_of_getElem? hu)) q1 q2]
 refine qal.2 ⟨zcf hv hseg,?_,q5j hx (by rw[vbu];exact ho) he,by simp,?_,trivial⟩
 ·have hi:i<l.length:=(List.getElem?_eq_some_iff.1 hx).1;have:(i+1)*τ.sz<=l.length*τ.sz:=Nat.mul_le_mul_right _ hi;rw[Nat.succ_mul]at this;omega
 ·apply List.ext_getElem?;intro j;have h:=congrArg (fun l=>l[off+j]?) (hr (fun _=>none))
  simp only[zcj]at h ⊢;by_cases hj:j<c.length
  ·rw[qrp _ _ _ _ hle,qX (by omega),Nat.add_sub_cancel_left]at h;exact h
  ·rw[List.getElem?_eq_none_iff.2 (by omega)];rfl
theorem zj2 {P:Program} {tb:Tb} {s:St} {o:Oper} {q:Rq} {d:D} {ps:List Prop} {s':St} (hT:∀ e∈tb.ents,e.Sound P) (h:q30 P tb s o.op=some q) (ho:q.Out d) (ha:amod P s d o=some (ps,s')):Alls ps:=by
 obtain⟨dst,op,ty,pos,after,guard⟩:=o;simp only at h;have cnd:∀ {b:Bool} {x:St} {ps:List Prop} {s':St},(bif b then some (([]:List Prop),x) else none)=some (ps,s')->Alls ps:=fun {b} _ _ _ e=>by
  cases b
  ·cases e
  ·simp only[qT,qI,qP]at e;obtain⟨rfl,_⟩:=e;trivial
 unfold amod at ha;split at ha
 ·rename_i t x y e;simp only at e;subst e;split at ha
  ·split at ha
   ·exact cnd ha
   ·cases ha
  ·rename_i k sz i off v n e1 e2 e3 _;split at ha
   ·rename_i τ0 l0 E0 ys τ l E e4;simp only[q30,e1,e2,zoe,e4]at h;cases hbb:Nat.ble (off+v.cells.length) τ0.sz<;>rw[hbb]at h<;>simp only[qT,qF,reduceCtorEq,qI]at h
    subst h;obtain⟨x0,hx0,hd⟩:=ho;simp only[Sp.Out]at hd;split at hd
    ·rename_i y0 hdec;simp only[D.put.injEq,Box.row.injEq]at hd;obtain⟨rfl,rfl,hl,rfl⟩:=hd;have hl:=eq_of_heq hl;subst hl;cases hb:Nat.beq v.cells.length n&&AV.ones v.cells&&Nat.beq sz τ.sz&&Nat.beq τ.sz τ.sz&&Nat.beq E E<;>rw[hb]at ha<;>simp only[qT,qF,reduceCtorEq]at ha
     simp only[qA]at hb;obtain⟨⟨⟨⟨b1,_⟩,b3⟩,_⟩,_⟩:=hb;have b1:=qN b1;have b3:=qN b3;subst b1 b3;split at ha
     ·rename_i ps1 hvs;simp only[qI,qP]at ha;obtain⟨rfl,_⟩:=ha;exact zhg (Nat.le_of_ble_eq_true hbb) hx0 hdec hvs
     ·cases ha
    ·cases hd
   ·cases ha
  ·cases ha
 ·rename_i args ats e;simp only at e;subst e;split at ha
  ·rename_i x y t t2 tt e1 e2 _;split at ha
   ·rename_i k v e3 e4;split at ha
    ·rename_i τ0 l0 E0 e5;split at ha
     ·rename_i ps1 τ l E e6;simp only[q30,e1,e2,e3,e4]at h;cases hb:qah (s.nx+32*tt) s.hp&&Nat.beq τ.sz τ0.sz&&Nat.beq E E0&&Nat.blt tt s.n<;>rw[hb]at ha<;>simp only[qT,qF,reduceCtorEq,qI,qP]at ha
      obtain⟨rfl,_⟩:=ha;exact zms e5 h ho e6
     ·cases ha
    ·cases ha
   ·cases ha
  ·cases ha
 ·rename_i g args ats e;simp only at e;subst e;split at ha
  ·rename_i f cap ys names xs hp r hp' t e1 e2 e3;simp only[q30,e1,e2]at h;split at h
   ·rename_i q' hq;have h:=qJ h;subst h;obtain⟨e,he,hc⟩:=qn7 hq;obtain⟨b1,ys1,r1,hp1,ps2,k1,_⟩:=zc8 (hT e he) hc ho;cases k1
   ·obtain⟨e,he,hc⟩:=qn7 h;unfold q8q at hc;cases hk:q4g f e.key<;>rw[hk]at hc<;>simp only[qT,qF,reduceCtorEq]at hc
    obtain⟨N,x,x',y,k1,k2,k3,k4,k5,k6⟩:=q5z hc ho;simp only[D.mem.injEq]at k2;obtain⟨rfl,rfl,rfl,rfl,rfl⟩:=k2;have hs:=hT e he x x' y k1;rw[q5y hk]at hs;exact q40 ha hs k5 k6
  ·rename_i m ys names xs hp r hp' t e1 e2 e3;simp only[q30,e1,e2]at h;obtain⟨e,he,hc⟩:=qn7 h;unfold yldQ at hc;split at hc
   ·rename_i m' hm';obtain⟨N,x,x',y,k1,k2,k3,k4,k5,k6⟩:=q5z hc ho;simp only[D.mem.injEq]at k2;obtain⟨rfl,rfl,rfl,rfl,rfl⟩:=k2;have hs:=hT e he x x' y k1;rw[hm']at hs;have hr:rho names m=some m':=qyi k3 (k4 _ _ (by simp[qa4]))
    simp only[hr]at ha;exact q40 ha hs k5 k6
   ·cases hc
  ·cases ha
 ·cases ha
theorem zgw {P:Program} {tb:Tb} {s:St} {o:Oper} {q:Rq} {d:D} {ps:List Prop} {s':St} (hT:∀ e∈tb.ents,e.Sound P) (h:areq P tb s o.op=some q) (ho:q.Out d) (ha:aex P s d o=some (ps,s')):Alls ps:=by
 unfold areq at h;unfold aex at ha;cases hv:q5u P o.op<;>rw[hv]at h<;>simp only[qT,qF]at h
 ·split at ha
  ·rename_i ps' v new e;unfold aadd at e;rw[q4r hv]at e;split at ha
   ·simp only[qI,qP]at ha;obtain⟨rfl,_⟩:=ha;exact q77 hT hv h ho e
   ·cases ha
  ·exact zj2 hT h ho ha
 ·split at ha
  ·rename_i ps' v new e;unfold aadd at e;split at e
   ·rename_i ps1 v1 e1;simp only[qI,qP]at e;obtain⟨rfl,rfl,rfl⟩:=e;split at ha
    ·simp only[qI,qP]at ha;obtain⟨rfl,_⟩:=ha;exact zbs h ho e1
    ·cases ha
   ·rw[q7o hv]at e;cases e
  ·rw[zg6 hv]at ha;cases ha
theorem zcn {P:Program} {tb:Tb} {s:St} {o:Oper} {q:Rq} {d:D} {ps:List Prop} {v:AV} {new:List (Nat×Box)} (hT:∀ e∈tb.ents,e.Sound P) (h:areq P tb s o.op=some q) (ho:q.Out d) (ha:aadd P s d o=some (ps,v,new)):Alls ps:=by
 unfold areq at h;unfold aadd at ha;cases hv:q5u P o.op<;>rw[hv]at h<;>simp only[qT,qF]at h
 ·rw[q4r hv]at ha;exact q77 hT hv h ho ha
 ·split at ha
  ·rename_i ps1 v1 e1;simp only[qI,qP]at ha;obtain⟨rfl,rfl,rfl⟩:=ha;exact zbs h ho e1
  ·rw[q7o hv]at ha;cases ha
end Go.Sym
namespace Go.Sym
open Go.RowKit
variable [LC]
def zsu (P:Program) (tb:Tb) (s:St) (o:Oper):Option (Bool×St):=
 bif tb.sub then
  match o.op with
  | .slice t x lo hi mx=>match s.ev x,o.dst,mx with
   | some (.own k),some tt,none=>match look s.hp k,P.underlying t with
    | some (.row τ l E),some (.slice E')=>match qmo P E' with
     | some sz'=>bif Nat.beq τ.sz sz'&&Nat.blt tt s.n&&qah (s.nx+32*tt) s.hp then
       (match qvl s lo,qvl s hi with
       | some (some a),some none=>some (decide (0<=a/\a.toNat<l.length),{ s with fr:=(tt,.osl k τ.sz a.toNat)::s.fr })
       | some none,some (some b)=>some (decide (0<=b/\b<=l.length),{ s with fr:=(tt,.own (s.nx+32*tt))::s.fr,hp:=(s.nx+32*tt,.row τ (l.take b.toNat) E)::(k,.dead)::s.hp })
       | _,_=>none)
      else none
     | none=>none
    | _,_=>none
   | _,_,_=>none
  | .call { callee := .builtin .clear,args,argTypes }=>match args.toList,argTypes.toList,o.dst with
   | [x],[t],none=>match s.ev x with
    | some (.osl k sz lo)=>match look s.hp k,P.underlying t with
     | some (.row τ l E),some (.slice E')=>match q9m P E' with
      | some zs=>match τ.dec zs with
       | some (z,[])=>bif Nat.beq sz τ.sz&&Nat.blt 0 τ.sz&&AV.ones zs then some (true,{ s with hp:=(k,.row τ (l.take lo++List.replicate (l.length-lo) z) E)::s.hp }) else none
       | _=>none
      | none=>none
     | _,_=>none
    | _=>none
   | _,_,_=>none
  | _=>none
 else none
section
variable {P:Program} {vbr:World} {vbm:Gh} {vbo:List (Nat×Box)} {G:Gh} {s:St} {a:Act} {w:World} {tb:Tb}
omit [LC] in
theorem ze5:∀ (ys b:List AV),ys.length=b.length->qi9 b 0 ys=ys:=fun ys b h=>by
 apply List.ext_getElem?;intro j;rw[qrp _ _ _ _ (by omega)]
 by_cases hj:0<=j/\j<0+ys.length
 ·rw[qX hj];rfl
 ·rw[qW hj,List.getElem?_eq_none_iff.2 (by omega),List.getElem?_eq_none_iff.2 (by omega)]
omit [LC] in
theorem qxn {τ:Ty} {z:τ.den}:∀ (n:Nat),(List.replicate n z).flatMap τ.enc=(List.replicate n (τ.enc z)).flatten
 | 0=>rfl
 | n+1=>by simp[List.replicate_succ,qxn n]
omit [LC] in
theorem qxh {xs:List AV} {vs:List Value} (h:Reps xs G vs):∀ (n:Nat),Reps (List.replicate n xs).flatten G (List.replicate n vs).flatten
 | 0=>trivial
 | n+1=>by simp only[List.replicate_succ,List.flatten_cons];exact qki h (qxh h n)
omit [LC] in
theorem qsv {β:Type} (l:List β):∀ (n:Nat),(List.replicate n l).flatten.length=n*l.length
 | 0=>by simp
 | n+1=>by rw[List.replicate_succ,List.flatten_cons,qM,qsv l n,Nat.succ_mul,Nat.add_comm]
omit [LC] in
theorem q0t {β:Type} (l:List β):∀ (n i:Nat),i<n*l.length->(List.replicate n l).flatten[i]? = l[i%l.length]?
 | 0,i,h=>by simp at h
 | n+1,i,h=>by
  rw[List.replicate_succ,List.flatten_cons];by_cases hi:i<l.length
  ·rw[List.getElem?_append_left hi,Nat.mod_eq_of_lt hi]
  ·have hh:i<n*l.length+l.length:=by rw[← Nat.succ_mul];exact h
   rw[List.getElem?_append_right (by omega),q0t l n (i-l.length) (by omega),← Nat.mod_eq_sub_mod (by omega)]
omit [LC] in
theorem q4d (cs:Array Value) (n:Nat):(Builtin.zeroCells cs n).toList=(List.replicate n cs.toList).flatten:=by
 apply List.ext_getElem?;intro i;by_cases hi:i<n*cs.size
 ·rw[q0t _ n i (by simpa using hi)]
  have h0:0<cs.size:=by
   rcases Nat.eq_zero_or_pos cs.size with h|h;· rw[h]at hi;simp at hi
   ·exact h
  simp[Builtin.zeroCells,hi,Nat.mod_lt _ h0]
 ·rw[List.getElem?_eq_none_iff.2 (by simp[Builtin.zeroCells];omega),List.getElem?_eq_none_iff.2 (by rw[qsv];simp;omega)]
theorem zm0 (hr:Rel vbr vbm vbo G s a w) {o:Oper} {s':St} (h:zsu P tb s o=some (true,s')) {N:Act->World->Prop} (hN:∀ G' a' w',Rel vbr vbm vbo G' s' a' w'->N a' w'):quv P o a w N:=by
 obtain⟨dst,op,ty,pos,after,guard⟩:=o;unfold zsu at h;cases hsub:tb.sub<;>rw[hsub]at h<;>simp only[qT,qF,reduceCtorEq]at h
 split at h
 ·rename_i t x lo hi mx;split at h
  ·rename_i k tt hx;split at h
   ·rename_i τ l E E' hl hu;split at h
    ·rename_i sz' hsz;cases hb:Nat.beq τ.sz sz'&&Nat.blt tt s.n&&qah (s.nx+32*tt) s.hp<;>rw[hb]at h<;>simp only[qT,qF,reduceCtorEq]at h
     simp only[qA,Nat.blt_eq]at hb;obtain⟨⟨b1,b2⟩,b3⟩:=hb;have b1:=qN b1;subst b1;obtain⟨ad,c,us,h1,h3,h4,h5⟩:=(hr.fin.mem.holds _ _ hl).rowAt;obtain⟨ad0,n0,c0,ho0,hxe⟩:=qcj hr hx;rw[h1]at ho0;simp only[qI,qP]at ho0;obtain⟨rfl,rfl,rfl⟩:=ho0;have hc:l.length<=c:=by
      rcases h3.2 with ⟨_,q,_⟩|⟨_,_,_,_,_,_,q,_⟩<;>omega
     split at h
     ·rename_i i0 hlo hhi;simp only[qI,qP,decide_eq_true_eq]at h;obtain⟨⟨g0,g1⟩,rfl⟩:=h;rcases qq7 hr hlo with ⟨_,e⟩|⟨xo,kx,mm,rfl,e,hxv⟩
      ·cases e
      injection e with e;subst e
      rcases qq7 hr hhi with ⟨rfl,_⟩|⟨_,_,_,_,e,_⟩
      rotate_left
      ·cases e
      have r1:(Instr.sliceBounds true l.length c ((some xo).map a.eval) (Option.map a.eval none) none).run P w = .ok (i0.toNat,l.length,c) w:=by
       simp[Instr.sliceBounds,hxv,qbz (P:=P) (w:=w) g0 (show i0<=(l.length:Int) by omega)]
      have hne:l≠[]:=fun e=>by subst e;simp at g1
      rcases h3.2 with ⟨_,q,_⟩|⟨g,vs,fz,rfl,k2,k3,k4,k5,k6,k7,k8⟩
      ·exact absurd (List.eq_nil_of_length_eq_zero q) hne
      ·have hrun:(execOp a.eval ⟨some tt,.slice t x (some xo) none none,ty,pos,after,guard⟩).run P w = .ok (.value (.slice (some ⟨g,i0.toNat*τ.sz,none⟩) (l.length-i0.toNat) (c-i0.toNat))) w:=by
        simp only[wQ,Option.map_none]at r1;simp[execOp,Instr.sliceAt,Instr.slice,qab hu,hxe,r1,qa5 hsz,show c≠i0.toNat by omega,qh5]
       refine qat (by simp) ?_
       unfold Oper.wp;rw[hrun];exact hN _ _ _ (qd7 (v := .osl k τ.sz i0.toNat) hr (by have hb2:Nat.blt tt s.n=true:=(by simpa using b2);simp only[St.add,hb2,qT,List.nil_append]) ⟨g,l.length,c,h1,g1,rfl⟩)
     ·rename_i i0 hlo hhi;simp only[qI,qP,decide_eq_true_eq]at h;obtain⟨⟨g0,g1⟩,rfl⟩:=h;rcases qq7 hr hhi with ⟨_,e⟩|⟨xo,kx,mm,rfl,e,hxv⟩
      ·cases e
      injection e with e;subst e
      rcases qq7 hr hlo with ⟨rfl,_⟩|⟨_,_,_,_,e,_⟩
      rotate_left
      ·cases e
      have r1:(Instr.sliceBounds true l.length c (Option.map a.eval none) ((some xo).map a.eval) none).run P w = .ok (0,i0.toNat,c) w:=by
       simp[Instr.sliceBounds,hxv,qbz (P:=P) (w:=w) g0 (show i0<=(c:Int) by omega)]
      have hlt:(l.take i0.toNat).length=i0.toNat:=by simp;omega
      have hrun:(execOp a.eval ⟨some tt,.slice t x none (some xo) none,ty,pos,after,guard⟩).run P w = .ok (.value (.slice ad i0.toNat c)) w:=by
       simp only[wQ,Option.map_none]at r1
       have had:(if c=0 then ad else ad.map (·.add (0*τ.sz)))=ad:=by
        split
        ·rfl
        ·rcases h3.2 with ⟨rfl,_,_⟩|⟨g,vs,fz,rfl,_⟩
         ·rfl
         ·simp[qh5]
       simp only[execOp,Instr.sliceAt,wQ,Option.map_none];simp[Instr.slice,qab hu,hxe,r1,qa5 hsz];simpa using had
      refine qat (by simp) ?_
      unfold Oper.wp;rw[hrun];have hk':=qb6 b3 (s.nx+32*tt) (wF _) (by omega)
      obtain⟨f1,f2⟩:=hr.fresh _ (by omega) hk'
      have hrow:qre w E τ.sz ad (l.take i0.toNat).length c (us.take (i0.toNat*τ.sz)):=by
       rw[hlt];have hm:i0.toNat*τ.sz<=l.length*τ.sz:=Nat.mul_le_mul_right _ (by omega)
       refine⟨by rw[List.length_take,h3.1];omega,?_⟩
       rcases h3.2 with ⟨q1,q2,q3⟩|⟨g,vs,fz,q1,q2,q3,q4,q5,q6,q7,q8⟩
       ·exact .inl ⟨q1,by omega,q3⟩
       ·exact .inr ⟨g,vs,fz,q1,q2,q3,by omega,q5,q6,by rw[← q7,List.take_take,Nat.min_eq_left hm],q8⟩
      have hreps:Reps ((l.take i0.toNat).flatMap τ.enc) G.data (us.take (i0.toNat*τ.sz)):=by
       have:=qt8 (i0.toNat*τ.sz) h4;have e:(l.flatMap τ.enc).take (i0.toNat*τ.sz)=(l.take i0.toNat).flatMap τ.enc:=by
        have e1:l.flatMap τ.enc=(l.take i0.toNat).flatMap τ.enc++(l.drop i0.toNat).flatMap τ.enc:=by rw[← List.flatMap_append,List.take_append_drop]
        rw[e1,List.take_append_of_le_length (by rw[qjv,hlt];exact wF _),List.take_of_length_le (by rw[qjv,hlt];exact wF _)]
       rwa [e]at this
      have hfin:=hr.fin.take hl h1 hk' f2 h5 (w':=w) ⟨rfl,rfl,rfl,wF _,fun _ _ _=>rfl⟩ (.inl rfl) hrow hreps
      have hle:G.le (G.addOwn (s.nx+32*tt) (ad,(l.take i0.toNat).length,c)):=Gh.addOwn_le f2;refine hN _ _ _ ⟨by obtain⟨bs,q1,q2⟩:=hr.defers;exact⟨bs,q1,qls hle.box q2⟩,by simp[Act.put,hr.size],fun i z hz => ?_,fun m hm hlm => ?_,hfin⟩
      ·simp only[look]at hz;cases hbq:Nat.beq tt i
       ·rw[hbq]at hz;simp only[qF]at hz;have hne:tt≠i:=fun e=>by subst e;simp at hbq
        obtain⟨u,u1,u2⟩:=hr.frame i z hz;exact⟨u,by simp[Act.put,hne,u1],u2.le hle⟩
       ·rw[hbq]at hz;simp only[qT,qI]at hz;subst hz;have:=qN hbq;subst this;exact⟨_,by simp[Act.put,hr.size,b2],ad,i0.toNat,c,by rw[Gh.addOwn_self,hlt],rfl⟩
      ·simp only[look]at hlm;cases hbq:Nat.beq (s.nx+32*tt) m
       ·rw[hbq]at hlm;simp only[qF]at hlm;cases hbk:Nat.beq k m
        ·rw[hbk]at hlm;obtain⟨g1,g2⟩:=hr.fresh m hm hlm;refine⟨g1,?_⟩;show (bif Nat.beq m (s.nx+32*tt) then some _ else G.own m)=none
         cases hbm:Nat.beq m (s.nx+32*tt)
         ·exact g2
         ·have:=qN hbm;subst this;simp at hbq
        ·rw[hbk]at hlm;cases hlm
       ·rw[hbq]at hlm;cases hlm
     ·cases h
    ·cases h
   ·cases h
  ·cases h
 ·rename_i args ats;split at h
  ·rename_i x t ha hty;split at h
   ·rename_i k sz lo hx;split at h
    ·rename_i τ l E E' hl hu;split at h
     ·rename_i zs hzs;split at h
      ·rename_i z hdec;cases hb:Nat.beq sz τ.sz&&Nat.blt 0 τ.sz&&AV.ones zs<;>rw[hb]at h<;>simp only[qT,qF,reduceCtorEq,qI,qP,true_and]at h
       subst h;simp only[qA]at hb;obtain⟨⟨b1,b2⟩,b3⟩:=hb;have b1:=qN b1;have b2:0<τ.sz:=by simpa using b2
       subst b1;have e1:args=#[x]:=by rw[← Array.toArray_toList (xs:=args),ha]
       have e2:ats=#[t]:=by rw[← Array.toArray_toList (xs:=ats),hty]
       subst e1 e2;obtain⟨g,n,c,o1,o2,hxe⟩:=qcj hr hx;obtain⟨ad,c',q1,q2⟩:=hr.fin.mem.holds _ _ hl;rw[o1]at q1;simp only[qI,qP]at q1;obtain⟨rfl,rfl,rfl⟩:=q1;rcases q2 with ⟨q,_⟩|⟨g',vs,fz,q,k2,k3,k4,k5,k6,k7,k8,k9⟩
       ·cases q
       ·simp only[qI,Addr.mk.injEq,and_true]at q;subst q;obtain⟨vbt,e,hsd⟩:=qrg hdec;simp only[List.append_nil]at e;subst e;obtain⟨zv,hz1,hz2⟩:=qzp (P:=P) hzs w G.data;obtain⟨ps,hv1,hv2⟩:=hsd.2;have hz3:Reps (τ.enc z) G.data zv.cells.toList:=qsh (Gh.le.refl _) (fun e=>by cases e) hv1 hv2 hz2
        have hone:∀ v∈zv.cells.toList,v.oneCell'=true:=qi4 hz2 b3;have hzl:zv.cells.toList.length=τ.sz:=by rw[← hz3.length,τ.enc_length]
        have hzc:=q4d zv.cells (l.length-lo);have hones:∀ v∈(List.replicate (l.length-lo) zv.cells.toList).flatten,v.oneCell'=true:=fun v hv=>by
         obtain⟨ys,h1,h2⟩:=List.mem_flatten.1 hv;rw[List.eq_of_mem_replicate h1]at h2;exact hone v h2
        have hfrl:(List.replicate (l.length-lo) zv.cells.toList).flatten.length=(l.length-lo)*τ.sz:=by rw[qsv,hzl]
        have hmul:lo*τ.sz+(l.length-lo)*τ.sz=l.length*τ.sz:=by rw[← Nat.add_mul];congr 1;omega
        have hcl:l.length*τ.sz<=c*τ.sz:=Nat.mul_le_mul_right _ k4;obtain⟨w',cur',s1,s2,s3,s4⟩:=qg5 (P:=P) g (lo*τ.sz) E fz (List.replicate (l.length-lo) zv.cells.toList).flatten 0 vs w k2 (by rw[hfrl];omega) k3 hones
        have hrun:(execOp a.eval ⟨none,.call { callee := .builtin .clear,args:=#[x],argTypes:=#[t] },ty,pos,after,guard⟩).run P w = .ok (.value (.tuple #[])) w':=by
         obtain⟨m,hm⟩:∃ m,l.length-lo=m+1:=⟨l.length-lo-1,by omega⟩
         rw[hm]at s1 hzc;simp[execOp,resolve,invoke,builtin,hxe,hm,Builtin.clear_,qab hu,hz1,hzc,s1]
        refine qat (by simp) ?_
        unfold Oper.wp;rw[hrun];have hat:G.at k (.row τ l E)=some g:=by simp[Gh.at,o1]
        have hl':(l.take lo++List.replicate (l.length-lo) z).length=l.length:=by simp;omega
        have hfl:(l.take lo++List.replicate (l.length-lo) z).flatMap τ.enc=qi9 (l.flatMap τ.enc) (lo*τ.sz) (List.replicate (l.length-lo) (τ.enc z)).flatten:=by
         have e1:l.flatMap τ.enc=(l.take lo).flatMap τ.enc++(l.drop lo).flatMap τ.enc:=by rw[← List.flatMap_append,List.take_append_drop]
         have e2:((l.take lo).flatMap τ.enc).length=lo*τ.sz:=by rw[qjv,List.length_take,Nat.min_eq_left (by omega)]
         have e3:((l.drop lo).flatMap τ.enc).length=(l.length-lo)*τ.sz:=by rw[qjv,List.length_drop]
         rw[List.flatMap_append,qxn,e1];have:=qwg (List.replicate (l.length-lo) (τ.enc z)).flatten ((l.take lo).flatMap τ.enc) ((l.drop lo).flatMap τ.enc) 0;rw[e2,Nat.add_zero]at this;rw[this,ze5 _ _ (by rw[e3,qsv,τ.enc_length])]
        refine hN G _ _ ⟨hr.defers,hr.size,hr.frame,fun m hm hlm=>hr.fresh m hm ?_,hr.fin.update (bx' := .row τ (l.take lo++List.replicate (l.length-lo) z) E) hl hat (by simp[Gh.at,o1]) s4 ?_ k9⟩
        ·simp only[look]at hlm;cases hbq:Nat.beq k m
         ·rw[hbq]at hlm;exact hlm
         ·rw[hbq]at hlm;cases hlm
        ·have hsz:cur'.size=vs.size:=by
          have:=congrArg List.length s3;rw[qjd]at this;simpa using this
         refine⟨some ⟨g,0,none⟩,c,by rw[hl'];exact o1,.inr ⟨g,cur',fz,rfl,s2,by rw[hsz];exact k3,by rw[hl'];exact k4,k5,by rw[hsz];exact k6,?_,?_,k9⟩⟩
         ·rw[hl',hfl,s3,Nat.add_zero,qoj _ _ _ _ (by have:vs.toList.length=vs.size:=Array.length_toList;omega)]
          exact qs1 _ k7 (qxh hz3 _)
         ·intro u hu';rw[s3]at hu';rcases qnz _ _ _ _ hu' with hu'|hu'
          ·exact k8 u hu'
          ·exact hones u hu'
      ·cases h
     ·cases h
    ·cases h
   ·cases h
  ·cases h
 ·cases h
end
end Go.Sym
namespace Go.Sym
open Go.RowKit
variable [LC]
def zp3 (P:Program) (s:St) (o:Oper):Option (Bool×St):=
 match o.op,o.dst with
 | .convert src dst x,some tt=>match s.ev x with
  | some (.own k)=>match look s.hp k,P.underlying src,P.underlying dst with
   | some (.row τ l E),some (.slice _),some (.slice e)=>match P.underlying e with
    | some (.int .u8)=>bif Nat.beq src dst&&Nat.blt tt s.n then some (decide (0<l.length),{ s with fr:=(tt,.own k)::s.fr,hp:=(k,.row τ l E)::s.hp }) else none
    | _=>none
   | _,_,_=>none
  | _=>none
 | _,_=>none
section
variable {P:Program} {vbr:World} {vbm:Gh} {vbo:List (Nat×Box)} {G:Gh} {s:St} {a:Act} {w:World}
theorem zl1 (hr:Rel vbr vbm vbo G s a w) {o:Oper} {s':St} (h:zp3 P s o=some (true,s')) {N:Act->World->Prop} (hN:∀ G' a' w',Rel vbr vbm vbo G' s' a' w'->N a' w'):quv P o a w N:=by
 obtain⟨dst,op,ty,pos,after,guard⟩:=o;unfold zp3 at h;split at h
 ·rename_i src dst x tt e1 e2;simp only at e1 e2;subst e1 e2;split at h
  ·rename_i k hx;split at h
   ·rename_i τ l E E1 E2 hl hus hud;split at h
    ·rename_i hue;cases hb:Nat.beq src dst&&Nat.blt tt s.n<;>rw[hb]at h<;>simp only[qT,qF,reduceCtorEq,qI,qP,decide_eq_true_eq]at h
     obtain⟨hpos,rfl⟩:=h;simp only[qA]at hb;have hsd:=qN hb.1;subst hsd;rw[hus]at hud;cases hud;obtain⟨ad0,n0,c0,o1,hxe⟩:=qcj hr hx;obtain⟨ad,c',q1,q2⟩:=hr.fin.mem.holds _ _ hl;rw[o1]at q1;simp only[qI,qP]at q1;obtain⟨rfl,rfl,rfl⟩:=q1;rcases q2 with ⟨_,q,_⟩|⟨g,vs,fz,rfl,k2,k3,k4,k5,k6,k7,k8,k9⟩
     ·subst q;simp at hpos
     ·have hw:(w.freeze ⟨g,vs.size,none⟩ 1).heap[g]? = some (.cells vs E (if fz.1==fz.2 then (vs.size,vs.size+1) else (min fz.1 vs.size,max fz.2 (vs.size+1)))):=by
       simp only[World.freeze,Nat.one_ne_zero,if_false,Array.getElem?_modify,k2];simp
      have hshape:w.shape? g=some (E,vs.size):=by simp only[World.shape?,k2]
      have hrun:(execOp a.eval ⟨some tt,.convert src src x,ty,pos,after,guard⟩).run P w = .ok (.value (.slice (some ⟨g,0,none⟩) l.length c0)) (w.freeze ⟨g,vs.size,none⟩ 1):=by
       simp[execOp,hxe,convert,qab hus,qab hue,markStringish,hshape]
      refine qat (by simp) ?_
      unfold Oper.wp;rw[hrun];have hat:G.at k (.row τ l E)=some g:=by simp[Gh.at,o1]
      have hbel:Bel (fun b=>b=g) w (w.freeze ⟨g,vs.size,none⟩ 1):=by
       refine⟨rfl,rfl,rfl,?_,fun j hj hne => ?_⟩
       ·simp[World.freeze]
       ·simp only[World.freeze,Nat.one_ne_zero,if_false,Array.getElem?_modify];rw[qW (fun q=>hne q.symm)]
      have hok:qj5 G (w.freeze ⟨g,vs.size,none⟩ 1) k (.row τ l E):=by
       refine⟨some ⟨g,0,none⟩,c0,o1,.inr ⟨g,vs,_,rfl,hw,?_,k4,k5,k6,k7,k8,k9⟩⟩;refine .inr ?_;split
       ·exact wF _
       ·rename_i hne;rcases k3 with rfl|k3
        ·simp at hne
        ·simp only;omega
      have hfin:=hr.fin.update (bx' := .row τ l E) hl hat hat hbel hok k9;have hb2:Nat.blt tt s.n=true:=hb.2;refine hN G _ _ ?_;have hr2:Rel vbr vbm vbo G { s with hp:=(k,.row τ l E)::s.hp } a (w.freeze ⟨g,vs.size,none⟩ 1):=⟨hr.defers,hr.size,hr.frame,fun m hm hlm=>hr.fresh m hm (by
       simp only[look]at hlm;cases hbq:Nat.beq k m
       ·rw[hbq]at hlm;exact hlm
       ·rw[hbq]at hlm;cases hlm),hfin⟩
      exact qd7 (v := .own k) hr2 (by simp only[St.add,hb2,qT,List.nil_append]) ⟨_,_,_,o1,rfl⟩
    ·cases h
   ·cases h
  ·cases h
 ·cases h
end
end Go.Sym
namespace Go.Sym
open Go.RowKit
variable [LC]
def zfn (f:FuncId):Key->Bool
 | .ext f'=>Nat.beq f' f
 | _=>false
def zlk (f:FuncId):List Ent->Option Ent
 | []=>none
 | e::es=>bif zfn f e.key then some e else zlk f es
def zqy {R:Type} (tb:Tb) (s:St) (o:Oper) (K:St->Option R):Option (Option R):=
 match o.op,o.dst with
 | .call { callee := .value g,args,argTypes:=_ },some tt=>match s.ev g,s.evs args.toList with
  | some (.fn (.func f) [] []),some xs=>match zlk f tb.ents with
   | some e=>match Pts.get e.args (q17 s.hp xs) [] with
    | some (d,nm)=>match bget s.hp e.hp nm with
     | some (d',nm')=>bif nilN nm'&&Nat.blt tt s.n then
       some ((e.F d d').bind fun r=>bif noRef (e.out.res r).1 then K { s with fr:=(tt,(e.out.res r).1)::s.fr } else none) else none
     | none=>none
    | none=>none
   | none=>none
  | _,_=>none
 | _,_=>none
omit [LC] in
theorem q2k {f:FuncId}:∀ {es:List Ent} {e:Ent},zlk f es=some e->e∈es/\e.key = .ext f
 | [],e,h=>by cases h
 | e'::es,e,h=>by
  unfold zlk at h;cases hb:zfn f e'.key<;>rw[hb]at h<;>simp only[qT,qF,qI]at h
  ·exact⟨qE _ (q2k h).1,(q2k h).2⟩
  ·subst h;refine⟨qH,?_⟩;unfold zfn at hb;split at hb
   ·rename_i f' hk;rw[hk,qN hb]
   ·cases hb
section
variable {P:Program} {vbr:World} {vbm:Gh} {vbo:List (Nat×Box)} {G:Gh} {s:St} {a:Act} {w:World} {R:Type} {tb:Tb}
theorem zks (hT:∀ e∈tb.ents,e.Sound P) (hr:Rel vbr vbm vbo G s a w) {o:Oper} {K:St->Option R} {r:Option R} {x:R} (h:zqy tb s o K=some r) (hx:r=some x) {N:Act->World->Prop} (hN:∀ s',K s'=some x->∀ G' a' w',Rel vbr vbm vbo G' s' a' w'->N a' w'):quv P o a w N:=by
 obtain⟨dst,op,ty,pos,after,guard⟩:=o;unfold zqy at h;split at h
 ·rename_i g args ats tt e1 e2;simp only at e1 e2;subst e1 e2;split at h
  ·rename_i f xs hg hargs;split at h
   ·rename_i e he;split at h
    ·rename_i d nm hget;split at h
     ·rename_i d' nm' hbg;cases hb:nilN nm'&&Nat.blt tt s.n<;>rw[hb]at h<;>simp only[qT,qF,reduceCtorEq,qI]at h
      simp only[qA]at hb;have hn:=zif hb.1;subst hn;rw[hx]at h;obtain⟨y,hy,h⟩:=Option.bind_eq_some_iff.1 h;cases hnr:noRef (e.out.res y).1<;>rw[hnr]at h<;>simp only[qT,qF,reduceCtorEq]at h
      obtain⟨hmem,hkey⟩:=q2k he;have hs:=hT e hmem d d' y hy;rw[hkey]at hs;have hs:zml P f (Pts.put e.args d) (e.out.res y).1:=hs;have hseen:=(Pts.get_seen hget).2 [] rfl (fun n m hh=>by have:=(qrx hbg).1 n m hh;cases this)
      obtain⟨ps,k1,k2⟩:=q1s (qsg (ps:=e.args) (d:=d)) hseen;obtain⟨z1,z2,z3,z4⟩:=qvo hr.fin;obtain⟨fs,cs,hge,hfs,hcs⟩:=qcj hr hg;have hfs0:fs=#[]:=Array.eq_empty_of_size_eq_zero (by have:=hfs.length;simpa using this.symm)
      have hcs0:cs=#[]:=Array.eq_empty_of_size_eq_zero (by have:=hcs.length;simpa using this.symm)
      subst hfs0 hcs0;have hreps:=qsh z1 (fun _=>z4) k1 k2 (q3t hr hargs)
      obtain⟨v,hv1,hv2⟩:=hs w _ _ z2 hreps;have hv3:Rep (e.out.res y).1 G v:=q1u (G:=G.allData s.hp w) (G':=G) (fun _ _ q=>q) (fun _ _ q=>q) hnr hv2
      have hrun:(execOp a.eval ⟨some tt,.call { callee := .value g,args:=args,argTypes:=ats },ty,pos,after,guard⟩).run P w = .ok (.value v) w:=by
       have e3:(args.toList.map a.eval).toArray=args.map a.eval:=by rw[← Array.toArray_toList (xs:=args.map a.eval),Array.toList_map]
       try rw[e3]at hv1
       simp[execOp,resolve,hge,Deferred.ofValue,invoke,hv1]
      refine qat (by simp) ?_
      unfold Oper.wp;rw[hrun];have hb2:Nat.blt tt s.n=true:=hb.2;exact hN _ h _ _ _ (qd7 (v:=(e.out.res y).1) hr (by simp only[St.add,hb2,qT,List.nil_append]) hv3)
     ·cases h
    ·cases h
   ·cases h
  ·cases h
 ·cases h
end
end Go.Sym
namespace Go.Sym
open Go.RowKit
variable [LC]
def zq3 (P:Program) (t:TypeId):Option Ty:=match P.underlying t with
 | some (.int k)=>match k with
  | .u8=>some .byte
  | k=>some (.int k)
 | some .bool=>some .bool
 | some .string=>some .str
 | _=>none
def Ty.zero1:(τ:Ty)->Option τ.den
 | .int _=>some (0:Int)
 | .byte=>some (0:UInt8)
 | .bool=>some false
 | .str=>some ([]:List UInt8)
 | _=>none
def qxo:Ty->AV->Bool
 | .int k,x=>match x with
  | .int k' n=>decide (k'=k)&&decide (n=0)
  | _=>false
 | .byte,x=>match x with
  | .byte c=>decide (c=0)
  | _=>false
 | .bool,x=>match x with
  | .bool b => !b
  | _=>false
 | .str,x=>match x with
  | .str s=>s.isEmpty
  | _=>false
 | _,_=>false
def qu2 (τ:Ty):List AV->Bool
 | []=>true
 | x::xs=>qxo τ x&&qu2 τ xs
def Ty.is1:Ty->Bool
 | .int _=>true
 | .byte=>true
 | .bool=>true
 | .str=>true
 | _=>false
def q04 (P:Program) (T:TypeId):Bool:=match P.underlying T with
 | some (.array n _)=>Nat.blt 32 n
 | _=>false
def zrt (P:Program) (s:St) (o:Oper):Option (Bool×St):=
 match o.op,o.dst with
 | .alloc T,some t=>match P.underlying T with
  | some (.array n E)=>bif Nat.blt 32 n then
    match zq3 P E,q9m P T with
    | some τ,some zs=>match τ.zero1 with
     | some z=>bif Nat.beq zs.length n&&qu2 τ zs&&Nat.ble n 65536&&AV.ones zs&&qah (s.nx+32*t) s.hp&&Nat.blt t s.n then
       some (true,{ s with fr:=(t,.oel (s.nx+32*t) 1 0 0)::s.fr,hp:=(s.nx+32*t,.row τ (List.replicate n z) T)::s.hp }) else none
     | none=>none
    | _,_=>none
   else none
  | _=>none
 | .load T x,some t=>bif q04 P T then match s.ev x with
  | some (.oel k sz 0 0)=>match look s.hp k,tAgg P T,qmo P T with
   | some (.row τ l _),some true,some n=>bif τ.is1&&Nat.beq sz 1&&Nat.blt t s.n then some (decide (l.length=n),{ s with fr:=(t,.arr τ l)::s.fr }) else none
   | _,_,_=>none
  | _=>none else none
 | .store T x y,none=>bif q04 P T then match s.ev x,s.ev y with
  | some (.oel k sz 0 0),some (.arr τ l)=>match look s.hp k,qmo P T with
   | some (.row τ0 l0 E0),some n=>bif τ.is1&&τ0.is1&&Nat.beq sz 1 then some (decide (l.length=l0.length)&&decide (l.length=n),{ s with hp:=(k,.row τ l E0)::s.hp }) else none
   | _,_=>none
  | _,_=>none else none
 | .indexAddr T x i,some t=>bif q04 P T then match P.underlying T with
  | some (.array n E)=>match s.ev x,qmo P E with
   | some (.oel k sz 0 0),some 1=>bif Nat.beq sz 1&&Nat.blt t s.n then
     match s.evy i with
     | some (.int _ j)=>some (decide (0<=j)&&decide (j<n),{ s with fr:=(t,.oel k 1 j.toNat 0)::s.fr })
     | some (.byte c)=>some (Nat.ble 256 n||decide (c.toNat<n),{ s with fr:=(t,.oel k 1 c.toNat 0)::s.fr })
     | _=>none
    else none
   | _,_=>none
  | _=>none else none
 | _,_=>none
omit [LC] in
theorem q5k {τ:Ty} (h:τ.is1=true):τ.sz=1:=by cases τ<;>first|rfl|cases h
omit [LC] in
theorem q3y {τ:Ty} {z:τ.den} (h:τ.zero1=some z):τ.is1=true:=by cases τ<;>first|rfl|cases h
omit [LC] in
theorem zfk {τ:Ty} {x:AV} {z:τ.den} {G:Gh} {v:Value} (h:qxo τ x=true) (hz:τ.zero1=some z) (hr:Rep x G v):Reps (τ.enc z) G [v]:=by
 cases τ with
 | int k=>
  cases x<;>simp only[qxo,wJ,qA,decide_eq_true_eq]at h
  obtain⟨rfl,rfl⟩:=h;cases hz;exact⟨hr,trivial⟩
 | byte=>
  cases x<;>simp only[qxo,wJ,decide_eq_true_eq]at h
  subst h;cases hz;exact⟨hr,trivial⟩
 | bool=>
  cases x with
  | bool b=>
   cases b
   ·cases hz;exact⟨hr,trivial⟩
   ·cases h
  | _=>cases h
 | str=>
  cases x with
  | str l=>
   cases l
   ·cases hz;exact⟨hr,trivial⟩
   ·cases h
  | _=>cases h
 | _=>cases hz
omit [LC] in
theorem q5f {τ:Ty} {z:τ.den} {G:Gh} (hz:τ.zero1=some z):∀ {zs:List AV} {vs:List Value},qu2 τ zs=true->Reps zs G vs->Reps ((List.replicate zs.length z).flatMap τ.enc) G vs
 | [],[],_,_=>trivial
 | x::zs,v::vs,h,hr=>by
  simp only[qu2,qA]at h;rw[qL,List.replicate_succ,List.flatMap_cons];exact qki (vs:=[v]) (zfk h.1 hz hr.1) (q5f hz h.2 hr.2)
 | [],_::_,_,h=>h.elim
 | _::_,[],_,h=>h.elim
omit [LC] in
theorem enc1 {τ:Ty} (h:τ.is1=true) (x:τ.den):τ.enc x=[τ.av x]:=by cases τ<;>first|rfl|cases h
omit [LC] in
theorem z3w {τ:Ty} (h:τ.is1=true) {x:τ.den} {G:Gh} {v:Value}:Rep (τ.av x) G v↔τ.V1 G.imm x v:=by cases τ<;>first|exact Iff.rfl|cases h
omit [LC] in
theorem zk5 {τ:Ty} (h:τ.is1=true):∀ (l:List τ.den),l.flatMap τ.enc=l.map τ.av
 | []=>rfl
 | x::l=>by rw[List.flatMap_cons,enc1 h,zk5 h l];rfl
omit [LC] in
theorem zod {τ:Ty} (h:τ.is1=true) {l:List τ.den} {G:Gh} {v:Value} (hv:Rep (.arr τ l) G v):∃ vs:Array Value,v = .agg vs/\Reps (l.flatMap τ.enc) G.data vs.toList:=by
 obtain⟨vs,rfl,h1,h2⟩:=hv;refine⟨vs,rfl,?_⟩;rw[zk5 h];have:∀ (l:List τ.den) (us:List Value),us.length=l.length->(∀ (j:Nat) (x:τ.den),l[j]? = some x->∃ u,us[j]? = some u/\τ.V1 G.imm x u)->Reps (l.map τ.av) G.data us:=by
  intro l
  induction l with
  | nil=>intro us hl _;rw[List.eq_nil_of_length_eq_zero hl];trivial
  | cons x l ih=>
   intro us hl hu
   cases us with
   | nil=>cases hl
   | cons u us=>
    refine⟨?_,ih us (by simpa using hl) (fun j y hy=>hu (j+1) y (by simpa using hy))⟩
    obtain⟨u',e,k⟩:=hu 0 x rfl;simp only[List.getElem?_cons_zero,qI]at e;subst e;exact (z3w h (G:=G.data)).2 k
 exact this l vs.toList (by simpa using h1) (fun j x hx=>by obtain⟨u,k1,k2⟩:=h2 j x hx;exact⟨u,by simpa using k1,k2⟩)
omit [LC] in
theorem q7i {τ:Ty} (h:τ.is1=true) {l:List τ.den} {G:Gh} {vs:List Value} (hv:Reps (l.flatMap τ.enc) G.data vs):Rep (.arr τ l) G (.agg vs.toArray):=by
 rw[zk5 h]at hv;refine⟨vs.toArray,rfl,by simpa using hv.length.symm,fun j x hx => ?_⟩
 obtain⟨u,k1,k2⟩:=qiq hv (i:=j) (x:=τ.av x) (by simp[hx])
 exact⟨u,by simpa using k1,(z3w h (G:=G.data)).1 k2⟩
section
variable {P:Program} {vbr:World} {vbm:Gh} {vbo:List (Nat×Box)} {G:Gh} {s:St} {a:Act} {w:World}
theorem zmy (hr:Rel vbr vbm vbo G s a w) {o:Oper} {s':St} (h:zrt P s o=some (true,s')) {N:Act->World->Prop} (hN:∀ G' a' w',Rel vbr vbm vbo G' s' a' w'->N a' w'):quv P o a w N:=by
 obtain⟨dst,op,ty,pos,after,guard⟩:=o;unfold zrt at h;split at h
 ·rename_i T t e1 e2;simp only at e1 e2;subst e1 e2;split at h
  ·rename_i n E hu;cases hn:Nat.blt 32 n<;>rw[hn]at h<;>simp only[qT,qF,reduceCtorEq]at h
   split at h
   ·rename_i τ zs hτ hzs;split at h
    ·rename_i z hz;cases hb:Nat.beq zs.length n&&qu2 τ zs&&Nat.ble n 65536&&AV.ones zs&&qah (s.nx+32*t) s.hp&&Nat.blt t s.n<;>rw[hb]at h<;>simp only[qT,qF,reduceCtorEq,qI,qP,true_and]at h
     subst h;simp only[qA]at hb;obtain⟨⟨⟨⟨⟨b1,b2⟩,b3⟩,b4⟩,b5⟩,b6⟩:=hb;have b1:=qN b1;have b3:n<=65536:=Nat.le_of_ble_eq_true b3;have hsz:τ.sz=1:=q5k (q3y hz);obtain⟨Z,hz1,hz2⟩:=qzp (P:=P) hzs w G.data;have vbu:Z.cells.toList.length=n:=by rw[← hz2.length,b1]
     have hreps:=q5f hz b2 hz2;rw[b1]at hreps;have hone:=qi4 hz2 b4;have hrun:(execOp a.eval ⟨some t,.alloc T,ty,pos,after,guard⟩).run P w = .ok (.value (.pointer (some ⟨w.heap.size,0,none⟩))) (w.alloc (.cells Z.cells T)):=by
      simp[execOp,Instr.alloc,hz1,newVar,newRow]
     refine qat (by simp) ?_
     unfold Oper.wp;rw[hrun];have hrow:qre (w.alloc (.cells Z.cells T)) T τ.sz (some ⟨w.heap.size,0,none⟩) (List.replicate n z).length n Z.cells.toList:=by
      refine⟨by rw[hsz,vbu];simp,.inr ⟨w.heap.size,Z.cells,(0,0),rfl,qcc _ _,.inl rfl,by simp,?_,?_,?_,hone⟩⟩
      ·exact Nat.le_trans b3 (by decide)
      ·rw[hsz,← vbu];simp
      ·rw[List.take_of_length_le];rw[hsz,vbu];simp
     obtain⟨G',hG⟩:=zc5 (t:=t) (v := .oel (s.nx+32*t) 1 0 0) (u := .pointer (some ⟨w.heap.size,0,none⟩)) (s':={ s with fr:=(t,.oel (s.nx+32*t) 1 0 0)::s.fr,hp:=(s.nx+32*t,.row τ (List.replicate n z) T)::s.hp }) hr b5 (qr3 _ _) hrow hreps
      (fun b hb=>by injection hb with hb;subst hb;exact wF _) (fun G' hG'=>⟨w.heap.size,_,n,hG',by simp⟩)
      (by have hb2:Nat.blt t s.n=true:=b6;simp only[St.add,hb2,qT];rfl)
     exact hN _ _ _ hG
    ·cases h
   ·cases h
  ·cases h
 ·rename_i T x t e1 e2;simp only at e1 e2;subst e1 e2;cases hbig:q04 P T<;>rw[hbig]at h<;>simp only[qT,qF,reduceCtorEq]at h
  split at h
  ·rename_i k sz hx;split at h
   ·rename_i τ l E n hl hagg hn;cases hb:τ.is1&&Nat.beq sz 1&&Nat.blt t s.n<;>rw[hb]at h<;>simp only[qT,qF,reduceCtorEq,qI,qP,decide_eq_true_eq]at h
    obtain⟨vbu,rfl⟩:=h;simp only[qA]at hb;obtain⟨⟨b1,b2⟩,b3⟩:=hb;have hsz:τ.sz=1:=q5k b1;obtain⟨B,n0,c0,ho,hxe⟩:=qcj hr hx;obtain⟨ad,c',h1,h3⟩:=hr.fin.mem.holds _ _ hl;rw[ho]at h1;simp only[qI,qP]at h1;obtain⟨rfl,rfl,rfl⟩:=h1;rcases h3 with ⟨h3,_⟩|⟨g,vs,fz,k1,k2,k3,k4,k5,k6,k7,k8,k9⟩
    ·cases h3
    ·simp only[qI,Addr.mk.injEq,and_true]at k1;subst k1;have hfl:(l.flatMap τ.enc).length=n:=by rw[qjv,hsz,vbu,Nat.mul_one]
     have hload:q1g P T (l.flatMap τ.enc) 0=some (.agg (l.flatMap τ.enc)):=by
      unfold q1g;rw[hagg,hn];have:Nat.ble (0+n) (l.flatMap τ.enc).length=true:=by rw[hfl,wO];simp
      simp only[this,qT,List.drop_zero];rw[List.take_of_length_le (by rw[hfl];exact wF _)]
     obtain⟨u,hu,us,rfl,hru⟩:=qmd (P:=P) (w:=w) hload (B:=B) (o:=0) k7 (fun j u hu=>by
      rw[List.getElem?_take]at hu;split at hu
      ·rw[wO];exact cell_of_heap k2 hu
      ·cases hu)
     have hrun:(execOp a.eval ⟨some t,.load T x,ty,pos,after,guard⟩).run P w = .ok (.value (.agg us)) w:=by
      simp only[Nat.add_zero]at hu;simp[execOp,hxe,Instr.loadAt,Instr.sureAddr,hu]
     refine qat (by simp) ?_
     unfold Oper.wp;rw[hrun];have hb2:Nat.blt t s.n=true:=b3;have:=q7i (G:=G) b1 hru;exact hN _ _ _ (qd7 (v := .arr τ l) hr (by simp only[St.add,hb2,qT,List.nil_append]) (by simpa using this))
   ·cases h
  ·cases h
 ·rename_i T x y e1 e2;simp only at e1 e2;subst e1 e2;cases hbig:q04 P T<;>rw[hbig]at h<;>simp only[qT,qF,reduceCtorEq]at h
  split at h
  ·rename_i k sz τ l hx hy;split at h
   ·rename_i τ0 l0 E0 n hl hn;cases hb:τ.is1&&τ0.is1&&Nat.beq sz 1<;>rw[hb]at h<;>simp only[qT,qF,reduceCtorEq,qI,qP,qA,decide_eq_true_eq]at h
    obtain⟨⟨vbu,hlen2⟩,rfl⟩:=h;simp only[qA]at hb;obtain⟨⟨b1,b2⟩,b3⟩:=hb;have hsz:τ.sz=1:=q5k b1;have hsz0:τ0.sz=1:=q5k b2;obtain⟨B,n0,c0,ho0,hxe⟩:=qcj hr hx;obtain⟨us,hye,hus⟩:=zod b1 (qcj hr hy);obtain⟨ad,c,h1,h3⟩:=hr.fin.mem.holds _ _ hl;rw[ho0]at h1;simp only[qI,qP]at h1;obtain⟨rfl,rfl,rfl⟩:=h1;rcases h3 with ⟨h3,_⟩|⟨g,vs,fz,k1,k2,k3,k4,k5,k6,k7,k8,k9⟩
    ·cases h3
    ·simp only[qI,Addr.mk.injEq,and_true]at k1;subst k1;have hul:us.toList.length=n:=by rw[← hus.length,qjv,hsz,hlen2,Nat.mul_one]
     have hones:∀ v∈us.toList,v.oneCell'=true:=qi4 hus (by
      rw[zk5 b1];have:∀ l:List τ.den,AV.ones (l.map τ.av)=true:=by
       intro l
       induction l with
       | nil=>rfl
       | cons x l ih=>
        simp only[List.map_cons,AV.ones,ih,Bool.and_true];cases τ<;>first|rfl|cases b1
      exact this l)
     have hle:l0.length<=vs.size:=by rw[k6,hsz0,Nat.mul_one];exact k4
     obtain⟨w',cur',m1,m2,m3,m4⟩:=qg5 (P:=P) B 0 E0 fz us.toList 0 vs w k2 (by omega) k3 hones
     have hrun:(execOp a.eval ⟨none,.store T x y,ty,pos,after,guard⟩).run P w = .ok .skip w':=by
      have hul':us.size=n:=by simpa using hul
      simp[execOp,Instr.storeAt,hxe,hye,Instr.sureAddr,storeVar,qa5 hn,Value.cells,hul',m1]
     refine qat (by simp) ?_
     unfold Oper.wp;rw[hrun];have hcs:cur'.size=vs.size:=by rw[← Array.length_toList,m3,qjd,Array.length_toList]
     refine hN G _ _ ⟨hr.defers,hr.size,hr.frame,fun m hm hlm=>hr.fresh m hm ?_,?_⟩
     ·simp only[look]at hlm;cases hbq:Nat.beq k m
      ·rw[hbq]at hlm;exact hlm
      ·rw[hbq]at hlm;cases hlm
     ·refine hr.fin.update (bx' := .row τ l E0) hl (B:=B) (by simp[Gh.at,ho0]) (by simp[Gh.at,ho0]) m4 ⟨some ⟨B,0,none⟩,c0,by rw[vbu];exact ho0,.inr ⟨B,cur',fz,rfl,m2,by rw[hcs];exact k3,by rw[vbu];exact k4,k5,by rw[hcs,hsz,← hsz0];exact k6,?_,?_,k9⟩⟩ k9
      ·rw[m3,hsz,Nat.mul_one,Nat.add_zero];have:=qwd us.toList vs.toList 0 (by simp only[Array.length_toList]at hul ⊢;omega)
       rw[wO,List.take_zero,List.nil_append]at this;rw[hlen2,← hul,this];exact hus
      ·intro u hu;rw[m3]at hu;rcases qnz _ _ _ _ hu with hu|hu
       ·exact k8 u hu
       ·exact hones u hu
   ·cases h
  ·cases h
 ·rename_i T x i t e1 e2;simp only at e1 e2;subst e1 e2;cases hbig:q04 P T<;>rw[hbig]at h<;>simp only[qT,qF,reduceCtorEq]at h
  split at h
  ·rename_i n E hu;split at h
   ·rename_i k sz hx hsz;cases hb:Nat.beq sz 1&&Nat.blt t s.n<;>rw[hb]at h<;>simp only[qT,qF,reduceCtorEq]at h
    simp only[qA]at hb;have b1:=qN hb.1;subst b1;obtain⟨B,n0,c0,ho,hxe⟩:=qcj hr hx;have hb2:Nat.blt t s.n=true:=hb.2;have key:∀ (j:Nat) (kk:IntKind),a.eval i = .int kk (j:Int)->j<n->s'={ s with fr:=(t,.oel k 1 j 0)::s.fr }->quv P ⟨some t,.indexAddr T x i,ty,pos,after,guard⟩ a w N:=by
     intro j kk hi hj hs';have hrun:(execOp a.eval ⟨some t,.indexAddr T x i,ty,pos,after,guard⟩).run P w = .ok (.value (.pointer (some ⟨B,j,none⟩))) w:=by
      simp[execOp,hxe,hi,Instr.indexAt,asIntOf,qab hu,qa5 hsz,qh5,Instr.sureAddr,hj]
     refine qat (by simp) ?_
     unfold Oper.wp;rw[hrun];subst hs';exact hN _ _ _ (qd7 (v := .oel k 1 j 0) hr (by simp only[St.add,hb2,qT,List.nil_append]) ⟨B,n0,c0,ho,by simp⟩)
    split at h
    ·rename_i kk j hi;simp only[qI,qP,qA,decide_eq_true_eq]at h;obtain⟨⟨h1,h2⟩,h3⟩:=h;have hie:a.eval i = .int kk j:=qp8 hr hi;exact key j.toNat kk (by rw[Int.toNat_of_nonneg h1];exact hie) (by omega) h3.symm
    ·rename_i c hi;simp only[qI,qP,Bool.or_eq_true,decide_eq_true_eq]at h;obtain⟨h1,h3⟩:=h;have hie:a.eval i = .int .u8 c.toNat:=qp8 hr hi;have hlt:c.toNat<n:=by
      rcases h1 with h1|h1
      ·have:=Nat.le_of_ble_eq_true h1;have:=c.toNat_lt;omega
      ·exact h1
     exact key c.toNat .u8 hie hlt h3.symm
    ·cases h
   ·cases h
  ·cases h
 ·cases h
end
end Go.Sym
namespace Go.Sym
open Go.RowKit
variable [LC]
def zii:TypeDesc->Bool
 | .interface _=>false
 | _=>true
def zt5 (P:Program) (s:St) (o:Oper):Option (Bool×St):=
 match o.op,o.dst with
 | .makeInterface T x,some tt=>match s.ev x,P.underlying T with
  | some v,some d=>bif zii d&&Nat.blt tt s.n then some (true,{ s with fr:=(tt,.iface T v)::s.fr }) else none
  | _,_=>none
 | .build T parts,some tt=>bif q04 P T then match parts.toList with
  | []=>match P.underlying T with
   | some (.array n E)=>match zq3 P E,q5b P s T [] with
    | some τ,some ([],.agg zs)=>match τ.zero1 with
     | some z=>bif Nat.beq zs.length n&&qu2 τ zs&&Nat.blt tt s.n then some (true,{ s with fr:=(tt,.arr τ (List.replicate n z))::s.fr }) else none
     | none=>none
    | _,_=>none
   | _=>none
  | _=>none else none
 | .binOp op t x y _,some tt=>match s.ev y,P.underlying t with
  | some (.val (.slice none 0 0)),some (.slice _)=>bif Nat.blt tt s.n then (match s.ev x,op with
   | some (.own k),.eql=>match look s.hp k with
    | some (.row _ l _)=>some (decide (0<l.length),{ s with fr:=(tt,.val (.bool false))::s.fr })
    | _=>none
   | some (.own k),.neq=>match look s.hp k with
    | some (.row _ l _)=>some (decide (0<l.length),{ s with fr:=(tt,.val (.bool true))::s.fr })
    | _=>none
   | some (.val (.slice none 0 0)),.eql=>some (true,{ s with fr:=(tt,.val (.bool true))::s.fr })
   | some (.val (.slice none 0 0)),.neq=>some (true,{ s with fr:=(tt,.val (.bool false))::s.fr })
   | _,_=>none) else none
  | _,_=>none
 | _,_=>none
omit [LC] in
theorem q49 {τ:Ty} {x:AV} {z:τ.den} {G G':Gh} {v:Value} (h:qxo τ x=true) (hz:τ.zero1=some z) (hr:Rep x G v):Reps (τ.enc z) G' [v]:=by
 cases τ with
 | int k=>
  cases x<;>simp only[qxo,wJ,qA,decide_eq_true_eq]at h
  obtain⟨rfl,rfl⟩:=h;cases hz;exact⟨hr,trivial⟩
 | byte=>
  cases x<;>simp only[qxo,wJ,decide_eq_true_eq]at h
  subst h;cases hz;exact⟨hr,trivial⟩
 | bool=>
  cases x with
  | bool b=>
   cases b
   ·cases hz;exact⟨hr,trivial⟩
   ·cases h
  | _=>cases h
 | str=>
  cases x with
  | str l=>
   cases l
   ·cases hz;exact⟨hr,trivial⟩
   ·cases h
  | _=>cases h
 | _=>cases hz
omit [LC] in
theorem q3s {τ:Ty} {z:τ.den} {G G':Gh} (hz:τ.zero1=some z):∀ {zs:List AV} {vs:List Value},qu2 τ zs=true->Reps zs G vs->Reps ((List.replicate zs.length z).flatMap τ.enc) G' vs
 | [],[],_,_=>trivial
 | x::zs,v::vs,h,hr=>by
  simp only[qu2,qA]at h;rw[qL,List.replicate_succ,List.flatMap_cons];exact qki (vs:=[v]) (q49 h.1 hz hr.1) (q3s hz h.2 hr.2)
 | [],_::_,_,h=>h.elim
 | _::_,[],_,h=>h.elim
section
variable {P:Program} {vbr:World} {vbm:Gh} {vbo:List (Nat×Box)} {G:Gh} {s:St} {a:Act} {w:World}
omit [LC] in
theorem q98 {P:Program} {t E:TypeId} (hu:P.underlying t=some (.slice E)) (d:Nat) (x:Option Addr) (n c:Nat) (w:World) (h:x=none->n=0/\c=0) :
  (Op.equalIn (d+1) t (.slice x n c) (.slice none 0 0)).run P w = .ok x.isNone w:=by
 cases x with
 | none=>obtain⟨rfl,rfl⟩:=h rfl;simp[Op.equalIn,qab hu]
 | some a=>simp[Op.equalIn,qab hu]
omit [LC] in
theorem zie {P:Program} {t E:TypeId} (hu:P.underlying t=some (.slice E)) (x:Option Addr) (n c:Nat) (w:World) (h:x=none->n=0/\c=0) :
  (Op.equal t (.slice x n c) (.slice none 0 0)).run P w = .ok x.isNone w:=q98 hu 9999 x n c w h
theorem zmt (hr:Rel vbr vbm vbo G s a w) {o:Oper} {s':St} (h:zt5 P s o=some (true,s')) {N:Act->World->Prop} (hN:∀ G' a' w',Rel vbr vbm vbo G' s' a' w'->N a' w'):quv P o a w N:=by
 obtain⟨dst,op,ty,pos,after,guard⟩:=o;unfold zt5 at h;split at h
 ·rename_i T x tt e1 e2;simp only at e1 e2;subst e1 e2;split at h
  ·rename_i v d hx hu;cases hb:zii d&&Nat.blt tt s.n<;>rw[hb]at h<;>simp only[qT,qF,reduceCtorEq,qI,qP,true_and]at h
   subst h;simp only[qA]at hb;refine qat (by simp) ?_
   unfold Oper.wp;have hrun:(execOp a.eval ⟨some tt,.makeInterface T x,ty,pos,after,guard⟩).run P w = .ok (.value (.iface T (a.eval x))) w:=by
    have h1:=hb.1;cases d<;>simp only[zii,wJ]at h1<;>simp[execOp,Instr.makeInterface,qab hu]
   rw[hrun];exact hN G _ _ (qd7 (v := .iface T v) hr (by simp only[St.add,hb.2,qT,List.nil_append]) ⟨_,rfl,qcj hr hx⟩)
  ·cases h
 ·rename_i T parts tt e1 e2;simp only at e1 e2;subst e1 e2;cases hbig:q04 P T<;>rw[hbig]at h<;>simp only[qT,qF,reduceCtorEq]at h
  split at h
  ·rename_i hp;split at h
   ·rename_i n E hu;split at h
    ·rename_i τ zs hτ hbu;split at h
     ·rename_i z hz;cases hb:Nat.beq zs.length n&&qu2 τ zs&&Nat.blt tt s.n<;>rw[hb]at h<;>simp only[qT,qF,reduceCtorEq,qI,qP,true_and]at h
      subst h;simp only[qA]at hb;have b1:=qN hb.1.1;rw[← hp]at hbu;obtain⟨u,hu1,us,rfl,hu3⟩:=q89 hr hbu;refine qat (by simp) ?_
      unfold Oper.wp;have hrun:(execOp a.eval ⟨some tt,.build T parts,ty,pos,after,guard⟩).run P w = .ok (.value (.agg us)) w:=by
       simp only[execOp,Sem.run_bind,hu1,Result.andThen_ok];rfl
      rw[hrun];have hrep:=q3s (G':=G.data) hz hb.1.2 hu3;rw[b1]at hrep;have:=q7i (q3y hz) (G:=G) hrep;exact hN G _ _ (qd7 (v := .arr τ (List.replicate n z)) hr (by simp only[St.add,hb.2,qT,List.nil_append]) this)
     ·cases h
    ·cases h
   ·cases h
  ·cases h
 ·rename_i op t x y p tt e1 e2;simp only at e1 e2;subst e1 e2;split at h
  ·rename_i E hy hu;cases hb:Nat.blt tt s.n<;>rw[hb]at h<;>simp only[qT,qF,reduceCtorEq]at h
   have hye:a.eval y = .slice none 0 0:=qcj hr hy;have go:∀ (op:BinOp) (q:Bool) (ad:Option Addr) (n c:Nat),a.eval x = .slice ad n c->(ad=none->n=0/\c=0)->(op = .eql/\q=ad.isNone\/op = .neq/\q = !ad.isNone) ->
     s'={ s with fr:=(tt,.val (.bool q))::s.fr }->quv P ⟨some tt,.binOp op t x y p,ty,pos,after,guard⟩ a w N:=by
    intro op q ad n c hxe hnil hq hs';subst hs';refine qat (by simp) ?_
    unfold Oper.wp;have hq':=zie (P:=P) hu ad n c w hnil;have hrun:(execOp a.eval ⟨some tt,.binOp op t x y p,ty,pos,after,guard⟩).run P w = .ok (.value (.bool q)) w:=by
     rcases hq with ⟨rfl,rfl⟩|⟨rfl,rfl⟩<;>simp[execOp,hxe,hye,eqGuard,binOp,hq']
    rw[hrun];exact hN G _ _ (qd7 (v := .val (.bool q)) hr (by simp only[St.add,hb,qT,List.nil_append]) rfl)
   have owned:∀ {k:Nat} {τ:Ty} {l:List τ.den} {E:TypeId},s.ev x=some (.own k)->look s.hp k=some (.row τ l E)->0<l.length->∃ ad n c,a.eval x = .slice (some ad) n c:=by
    intro k τ l E hx hl hpos;obtain⟨ad0,n0,c0,o1,hxe⟩:=qcj hr hx;obtain⟨ad,c',q1,q2⟩:=hr.fin.mem.holds _ _ hl;rw[o1]at q1;simp only[qI,qP]at q1;obtain⟨rfl,rfl,rfl⟩:=q1;rcases q2 with ⟨_,q,_⟩|⟨g,vs,fz,rfl,_⟩
    ·subst q;simp at hpos
    ·exact⟨_,_,_,hxe⟩
   split at h
   ·rename_i k hx;split at h
    ·rename_i hl;simp only[qI,qP,decide_eq_true_eq]at h;obtain⟨ad,n,c,he⟩:=owned hx hl h.1;exact go _ false _ _ _ he (fun q=>by cases q) (.inl ⟨rfl,rfl⟩) h.2.symm
    ·cases h
   ·rename_i k hx;split at h
    ·rename_i hl;simp only[qI,qP,decide_eq_true_eq]at h;obtain⟨ad,n,c,he⟩:=owned hx hl h.1;exact go _ true _ _ _ he (fun q=>by cases q) (.inr ⟨rfl,rfl⟩) h.2.symm
    ·cases h
   ·rename_i hx;simp only[qI,qP,true_and]at h;exact go _ true _ _ _ (qcj hr hx) (fun _=>⟨rfl,rfl⟩) (.inl ⟨rfl,rfl⟩) h.symm
   ·rename_i hx;simp only[qI,qP,true_and]at h;exact go _ false _ _ _ (qcj hr hx) (fun _=>⟨rfl,rfl⟩) (.inr ⟨rfl,rfl⟩) h.symm
   ·cases h
  ·cases h
 ·cases h
end
end Go.Sym
namespace Go.Sym
open Go.RowKit
variable [LC]
def rdec (s:List UInt8) (p:Nat):Nat×Nat:=Utf8.decode ⟨s.toArray⟩ p
def itOp {R:Type} (P:Program) (s:St) (o:Oper) (K:St->Option R):Option (Option R):=
 match o.op,o.dst with
 | .range T x,some t=>match P.underlying T,s.ev x with
  | some .string,some (.str l)=>bif qah (s.nx+32*t) s.hp&&Nat.blt t s.n then
    some (K { s with fr:=(t,.ptr (s.nx+32*t) 0)::s.fr,hp:=(s.nx+32*t,.it l 0)::s.hp }) else none
  | _,_=>none
 | .next x true,some t=>match s.ev x with
  | some (.ptr b 0)=>match look s.hp b with
   | some (.it l p)=>bif Nat.blt t s.n then
     some (bif Nat.blt p l.length then K { s with fr:=(t,.tup [.val (.bool true),.int .i64 p,.int .i32 (rdec l p).1])::s.fr,hp:=(b,.it l (p+(rdec l p).2))::s.hp }
      else K { s with fr:=(t,.tup [.val (.bool false)])::s.fr }) else none
   | _=>none
  | _=>none
 | .convert src dst x,some t=>match P.underlying src,P.underlying dst,s.evy x with
  | some _,some .string,some (.int _ n)=>bif Nat.blt t s.n then some (K { s with fr:=(t,.str (renc n))::s.fr }) else none
  | _,_,_=>none
 | _,_=>none
section
variable {P:Program} {vbr:World} {vbm:Gh} {vbo:List (Nat×Box)} {G:Gh} {s:St} {a:Act} {w:World}
omit [LC] in
theorem zrk (w:World) (B:Nat) (o:Obj):Bel (fun b=>b=B) w (w.putObj B o):=
 ⟨rfl,rfl,rfl,by simp,fun k _ hne=>World.putObj_heap_other hne⟩
theorem Rel.setBox (hr:Rel vbr vbm vbo G s a w) {n:Nat} {bx bx':Box} {B:Nat} (hn:look s.hp n=some bx) (hB:G.at n bx=some B) (hB':∀ c,G.at n bx'=some c->c=B) {o:Obj}
  (hok:qj5 G (w.putObj B o) n bx') (hi:∀ o,G.imm B o=none):Rel vbr vbm vbo G { s with hp:=(n,bx')::s.hp } a (w.putObj B o):=
 ⟨hr.defers,hr.size,hr.frame,fun m hm hl=>hr.fresh m hm (by
  simp only[look]at hl;cases hb:Nat.beq n m
  ·rw[hb]at hl;exact hl
  ·rw[hb]at hl;cases hl),hr.fin.update' hn hB hB' (zrk w B o) hok hi⟩
def Gh.addBox (G:Gh) (k:Nat) (B:Nat):Gh:={ imm:=G.imm,box:=fun m=>bif Nat.beq m k then some B else G.box m,own:=G.own }
omit [LC] in
theorem Gh.addBox_le {k B:Nat} (h:G.box k=none):G.le (G.addBox k B):=
 ⟨fun _ _ _ h=>h,fun n B' hn=>by
  show (bif Nat.beq n k then some B else G.box n)=_
  cases hb:Nat.beq n k
  ·exact hn
  ·(have:=qN hb;subst this;rw[h]at hn;cases hn),fun _ _ h=>h⟩
omit [LC] in
theorem Gh.addBox_self {k B:Nat}:(G.addBox k B).box k=some B:=by show (bif Nat.beq k k then some B else G.box k)=_;simp
omit [LC] in
theorem Gh.addBox_ne {k B m:Nat} (h:m≠k):(G.addBox k B).box m=G.box m:=by
 show (bif Nat.beq m k then some B else G.box m)=_
 cases hb:Nat.beq m k
 ·rfl
 ·exact absurd (qN hb) h
theorem Rel.newBox (hr:Rel vbr vbm vbo G s a w) {k:Nat} {bx:Box} {o:Obj} (hk:look s.hp k=none) (hkx:s.nx<=k) (hat:∀ b,(G.addBox k w.heap.size).at k bx=some b->b=w.heap.size)
  (hok:qj5 (G.addBox k w.heap.size) (w.alloc o) k bx):Rel vbr vbm vbo (G.addBox k w.heap.size) { s with hp:=(k,bx)::s.hp } a (w.alloc o):=by
 obtain⟨hkb,hko⟩:=hr.fresh k hkx hk;have hle:G.le (G.addBox k w.heap.size):=Gh.addBox_le hkb;have hl1:∀ n b,look [(k,bx)] n=some b->n=k/\b=bx:=fun n b h=>by
  simp only[look]at h;cases hb:Nat.beq k n
  ·rw[hb]at h;cases h
  ·rw[hb]at h;simp only[qT,qI]at h;exact⟨(qN hb).symm,h.symm⟩
 have hlt:∀ b o v,G.imm b o=some v->b<w.heap.size:=fun b o v h=>World.block_lt_of_cell? _ _ (hr.fin.mem.agree _ _ _ h)
 refine⟨by obtain⟨bs,h1,h2⟩:=hr.defers;exact⟨bs,h1,qls hle.box h2⟩,hr.size,fun i x hx=>by obtain⟨v,h1,h2⟩:=hr.frame i x hx;exact⟨v,h1,h2.le hle⟩,fun m hm hl => ?_,?_⟩
 ·simp only[look]at hl;cases hb:Nat.beq k m
  ·rw[hb]at hl;obtain⟨h1,h2⟩:=hr.fresh m hm hl;exact⟨by rw[Gh.addBox_ne (fun e=>by subst e;simp at hb)];exact h1,h2⟩
  ·rw[hb]at hl;cases hl
 ·refine hr.fin.extend (new:=[(k,bx)]) hle (qr3 _ _) (fun _ _ _ h => .inl h) (fun b o v h => ?_) hr.fin.mem.one ?_ ?_ ?_
  ·rw[World.cell?_alloc_lt _ _ _ (hlt b o v h)];exact hr.fin.mem.agree _ _ _ h
  ·intro n b h;obtain⟨rfl,_⟩:=hl1 n b h;exact hk
  ·intro n b h;obtain⟨rfl,rfl⟩:=hl1 n b h;exact⟨hok,fun b hb=>by rw[hat b hb];exact wF _⟩
  ·intro n m b b' c h1 h2 _ _;obtain⟨rfl,_⟩:=hl1 n b h1;obtain⟨rfl,_⟩:=hl1 m b' h2;rfl
omit [LC] in
theorem qtm (l:List UInt8):(⟨l.toArray⟩:ByteArray).size=l.length:=by simp[ByteArray.size]
theorem zs0 {R:Type} (hr:Rel vbr vbm vbo G s a w) {o:Oper} {K:St->Option R} {r:Option R} {x:R} (h:itOp P s o K=some r) (hx:r=some x) {N:Act->World->Prop} (hN:∀ s',K s'=some x->∀ G' a' w',Rel vbr vbm vbo G' s' a' w'->N a' w'):quv P o a w N:=by
 obtain⟨dst,op,ty,pos,after,guard⟩:=o;unfold itOp at h;split at h
 ·rename_i T y t e1 e2;simp only at e1 e2;subst e1 e2;split at h
  ·rename_i l hu hy;cases hb:qah (s.nx+32*t) s.hp&&Nat.blt t s.n<;>rw[hb]at h<;>simp only[qT,qF,reduceCtorEq,qI]at h
   simp only[qA]at hb;subst h;have hk:=qb6 hb.1 _ (wF _) (by omega)
   have he:a.eval y = .string ⟨l.toArray⟩:=qcj hr hy;refine qat (by simp) ?_
   unfold Oper.wp;have hrun:(execOp a.eval ⟨some t,.range T y,ty,pos,after,guard⟩).run P w = .ok (.value (.pointer (some ⟨w.heap.size,0,none⟩))) (w.iter ⟨l.toArray⟩ 0):=by
    simp[execOp,he,run_range_string w T ⟨l.toArray⟩ hu]
   rw[hrun];have hr1:=hr.newBox (k:=s.nx+32*t) (bx := .it l 0) (o := .stringIter ⟨l.toArray⟩ 0) hk (by omega) (fun b hb=>by
    have hb:(G.addBox (s.nx+32*t) w.heap.size).box (s.nx+32*t)=some b:=hb;rw[Gh.addBox_self]at hb;injection hb with hb;exact hb.symm)
    ⟨w.heap.size,Gh.addBox_self,qcc _ _,fun o=>by
     cases hq:(G.addBox (s.nx+32*t) w.heap.size).imm w.heap.size o with
     | none=>rfl
     | some v=>
      have:=World.block_lt_of_cell? _ _ (hr.fin.mem.agree _ _ _ hq);simp at this⟩
   exact hN _ hx _ _ _ (qd7 (v := .ptr (s.nx+32*t) 0) hr1 (by simp only[St.add,hb.2,qT,List.nil_append]) ⟨w.heap.size,Gh.addBox_self,rfl⟩)
  ·cases h
 ·rename_i y t e1 e2;simp only at e1 e2;subst e1 e2;split at h
  ·rename_i b hy;split at h
   ·rename_i l p hb;cases ht:Nat.blt t s.n<;>rw[ht]at h<;>simp only[qT,qF,reduceCtorEq,qI]at h
    subst h;obtain⟨B,hB,he⟩:=qcj hr hy;obtain⟨B',k1,k2,k3⟩:=hr.fin.mem.holds b _ hb;rw[hB]at k1;injection k1 with k1;subst k1
    refine qat (by simp) ?_
    unfold Oper.wp;cases hp:Nat.blt p l.length<;>rw[hp]at hx<;>simp only[qT,qF]at hx
    ·have hp':¬ p<(⟨l.toArray⟩:ByteArray).size:=fun hlt=>by
      rw[qtm]at hlt;have:Nat.blt p l.length=true:=Nat.ble_eq_true_of_le hlt;rw[hp]at this;cases this
     have hrun:(execOp a.eval ⟨some t,.next y true,ty,pos,after,guard⟩).run P w = .ok (.value (.tuple #[.bool false])) w:=by
      simp[execOp,he,Instr.next,getObj,Sem.run,k2,hp']
     rw[hrun];exact hN _ hx _ _ _ (qd7 (v := .tup [.val (.bool false)]) hr (by simp only[St.add,ht,qT,List.nil_append]) ⟨_,rfl,rfl,trivial⟩)
    ·have hp':p<(⟨l.toArray⟩:ByteArray).size:=by
      rw[qtm];exact Nat.le_of_ble_eq_true hp
     have hlt:=(Array.getElem?_eq_some_iff.1 k2).1;have hrun:(execOp a.eval ⟨some t,.next y true,ty,pos,after,guard⟩).run P w = .ok (.value (.tuple #[.bool true,.int .i64 p,.int .i32 (rdec l p).1])) (w.putObj B (.stringIter ⟨l.toArray⟩ (p+(rdec l p).2))):=by
      simp[execOp,he,Instr.next,getObj,setObj,Sem.run,k2,hp',goInt,rdec,World.putObj]
     rw[hrun];have hr1:=hr.setBox (bx' := .it l (p+(rdec l p).2)) (o := .stringIter ⟨l.toArray⟩ (p+(rdec l p).2)) hb (show G.at b (.it l p)=some B from hB) (fun c hc=>by
      have hc:G.box b=some c:=hc;rw[hB]at hc;exact (qJ hc).symm) ⟨B,hB,World.putObj_heap_same hlt,k3⟩ k3
     exact hN _ hx _ _ _ (qd7 (v := .tup [.val (.bool true),.int .i64 p,.int .i32 (rdec l p).1]) hr1 (by simp only[St.add,ht,qT,List.nil_append]) ⟨_,rfl,rfl,rfl,rfl,trivial⟩)
   ·cases h
  ·cases h
 ·rename_i src d y t e1 e2;simp only at e1 e2;subst e1 e2;split at h
  ·rename_i ds k n hs hd hy;cases ht:Nat.blt t s.n<;>rw[ht]at h<;>simp only[qT,qF,reduceCtorEq,qI]at h
   subst h;have he:a.eval y = .int k n:=qp8 hr hy;refine qat (by simp) ?_
   unfold Oper.wp;have hrun:(execOp a.eval ⟨some t,.convert src d y,ty,pos,after,guard⟩).run P w = .ok (.value (.string ⟨(renc n).toArray⟩)) w:=by
    simp[execOp,he,convert,run_underlying hs,run_underlying hd,Conv.intToString,renc]
   rw[hrun];exact hN _ hx _ _ _ (qd7 (v := .str (renc n)) hr (by simp only[St.add,ht,qT,List.nil_append]) rfl)
  ·cases h
 ·cases h
end
end Go.Sym
namespace Go.Sym
open Go.RowKit
variable [LC]
def zt1 {R:Type} (P:Program) (s:St) (o:Oper) (K:St->Option R):Option (Option R):=
 match o.op,o.dst with
 | .indexAddr T (.global g) i,some t=>match LC.glob g,P.underlying T with
  | some ⟨τ,l⟩,some (.array n E)=>match qmo P E with
   | some sz=>bif Nat.beq sz τ.sz&&(Nat.ble l.length n&&Nat.blt t s.n) then
     match s.evy i with
     | some (.int _ j)=>some (match idx l j with|some y=>K { s with fr:=(t,.rop (τ.enc y))::s.fr }|none=>none)
     | some (.byte c)=>some (match l[c.toNat]? with|some y=>K { s with fr:=(t,.rop (τ.enc y))::s.fr }|none=>none)
     | _=>none
    else none
   | none=>none
  | _,_=>none
 | _,_=>none
section
variable {P:Program} {vbr:World} {vbm:Gh} {vbo:List (Nat×Box)} {G:Gh} {s:St} {a:Act} {w:World}
theorem znw {R:Type} (hr:Rel vbr vbm vbo G s a w) {o:Oper} {K:St->Option R} {r:Option R} {x:R} (h:zt1 P s o K=some r) (hx:r=some x) {N:Act->World->Prop} (hN:∀ s',K s'=some x->∀ G' a' w',Rel vbr vbm vbo G' s' a' w'->N a' w'):quv P o a w N:=by
 obtain⟨dst,op,ty,pos,after,guard⟩:=o;unfold zt1 at h;split at h
 ·rename_i T g i t e1 e2;simp only at e1 e2;subst e1 e2;split at h
  ·rename_i τ l n E hg hu;split at h
   ·rename_i sz hsz;cases hb:Nat.beq sz τ.sz&&(Nat.ble l.length n&&Nat.blt t s.n)<;>rw[hb]at h<;>simp only[qT,qF,reduceCtorEq]at h
    simp only[qA]at hb;obtain⟨b1,b2,b3⟩:=hb;have b1:=qN b1;have b2:=Nat.le_of_ble_eq_true b2;subst b1;have key:∀ (j:Nat) (kk:IntKind) (y:τ.den),a.eval i = .int kk (j:Int)->l[j]? = some y->K { s with fr:=(t,.rop (τ.enc y))::s.fr }=some x->quv P ⟨some t,.indexAddr T (.global g) i,ty,pos,after,guard⟩ a w N:=by
     intro j kk y hi hy hk;have hj:j<n:=Nat.lt_of_lt_of_le (List.getElem?_eq_some_iff.1 hy).1 b2;have hrun:(execOp a.eval ⟨some t,.indexAddr T (.global g) i,ty,pos,after,guard⟩).run P w = .ok (.value (.pointer (some ⟨g,j*τ.sz,none⟩))) w:=by
      have hge:a.eval (.global g) = .pointer (some ⟨g,0,none⟩):=by simp[Act.eval]
      simp[execOp,hge,hi,Instr.indexAt,asIntOf,qab hu,qa5 hsz,qh5,Instr.sureAddr,hj]
     refine qat (by simp) ?_
     unfold Oper.wp;rw[hrun];exact hN _ hk _ _ _ (qd7 (v := .rop (τ.enc y)) hr (by simp only[St.add,b3,qT,List.nil_append]) ⟨g,j*τ.sz,rfl,qzv.2 (hr.fin.mem.tab.1 g τ l hg j y hy)⟩)
    split at h
    ·rename_i kk j hi;have h:=qJ h;rw[← h]at hx;split at hx
     ·rename_i y hy;have hie:a.eval i = .int kk j:=qp8 hr hi;obtain⟨h1,h2⟩:=qzc hy;exact key j.toNat kk y (by rw[Int.toNat_of_nonneg h1];exact hie) h2 hx
     ·cases hx
    ·rename_i c hi;have h:=qJ h;rw[← h]at hx;split at hx
     ·rename_i y hy;exact key c.toNat .u8 y (qp8 hr hi) hy hx
     ·cases hx
    ·cases h
   ·cases h
  ·cases h
 ·cases h
end
end Go.Sym
namespace Go.Sym
open Go.RowKit
variable [LC]
def qyc (s:List UInt8):Nat->Nat->List Int
 | 0,_=>[]
 | f+1,i=>bif Nat.blt i s.length then ((rdec s i).1:Int)::qyc s f (i+(rdec s i).2) else []
def qto (s:List UInt8):List Int:=qyc s s.length 0
def mkOp {R:Type} (P:Program) (s:St) (o:Oper) (K:St->Option R):Option (Option R):=
 match o.op,o.dst with
 | .makeSlice T x y,some t=>match P.underlying T with
  | some (.slice E)=>match zq3 P E,q9m P E,qmo P E,s.evy x,s.evy y with
   | some τ,some [z0],some 1,some (.int _ n),some (.int _ m)=>match τ.zero1 with
    | some z=>bif qxo τ z0&&qjt P E&&qah (s.nx+32*t) s.hp&&Nat.blt t s.n then
      some (bif decide (0<=n/\n=m/\n<=4294967296) then K { s with fr:=(t,.own (s.nx+32*t))::s.fr,hp:=(s.nx+32*t,.row τ (List.replicate n.toNat z) E)::s.hp } else none) else none
    | none=>none
   | _,_,_,_,_=>none
  | _=>none
 | .convert src dst x,some t=>match P.underlying src,P.underlying dst with
  | some .string,some (.slice E)=>match P.underlying E,s.ev x with
   | some (.int .i32),some (.str b)=>bif qah (s.nx+32*t) s.hp&&Nat.blt t s.n then
     some (bif decide (b.length<=4294967296) then K { s with fr:=(t,.own (s.nx+32*t))::s.fr,hp:=(s.nx+32*t,.row (.int .i32) (qto b) E)::s.hp } else none) else none
   | _,_=>none
  | some (.slice E),some .string=>match P.underlying E,s.ev x with
   | some (.int .i32),some v=>match q3a s v with
    | some l=>bif Nat.blt t s.n then some (K { s with fr:=(t,.str (q2j l))::s.fr }) else none
    | none=>none
   | _,_=>none
  | _,_=>none
 | .slice T x lo (some hi) (some mx),some t=>match P.underlying T with
  | some (.slice E)=>match qmo P E,qvl s lo,s.evy hi,s.evy mx,s.ev x with
   | some sz,some a,some (.int _ b),some (.int _ c),some (.sl τ l)=>bif Nat.beq τ.sz sz&&Nat.blt t s.n then
     some (bif decide (0<=a.getD 0/\a.getD 0<=b/\b<=c/\c<=(l.length:Int)) then K { s with fr:=(t,.sl τ ((l.drop (a.getD 0).toNat).take (b.toNat-(a.getD 0).toNat)))::s.fr } else none) else none
   | _,_,_,_,_=>none
  | _=>none
 | _,_=>none
omit [LC] in
theorem qwr (s:List UInt8):∀ (f i:Nat) (acc:Array Value),Conv.runesFrom ⟨s.toArray⟩ f i acc=acc++((qyc s f i).map (Value.int .i32)).toArray
 | 0,i,acc=>by simp[Conv.runesFrom,qyc]
 | f+1,i,acc=>by
  unfold Conv.runesFrom qyc;rw[qtm];by_cases h:i<s.length
  ·have hb:Nat.blt i s.length=true:=Nat.ble_eq_true_of_le h;rw[qX h,hb];simp only[qT];rw[show Utf8.decode (⟨s.toArray⟩:ByteArray) i=rdec s i from rfl]
   rw[qwr s f];simp
  ·have hb:Nat.blt i s.length=false:=by
    cases hq:Nat.blt i s.length
    ·rfl
    ·exact absurd (Nat.le_of_ble_eq_true hq) h
   rw[qW h,hb];simp
omit [LC] in
theorem q1y (s:List UInt8):∀ (f i:Nat),(qyc s f i).length<=f
 | 0,_=>wF _
 | f+1,i=>by
  unfold qyc;cases Nat.blt i s.length
  ·simp
  ·simp only[qT,qL];have:=q1y s f (i+(rdec s i).2);omega
omit [LC] in
theorem q8j (G:Gh):∀ (l:List Int),Reps (List.flatMap (β:=AV) (Ty.int .i32).enc l) G (l.map (Value.int .i32))
 | []=>trivial
 | _::l=>⟨rfl,q8j G l⟩
section
variable {P:Program} {vbr:World} {vbm:Gh} {vbo:List (Nat×Box)} {G:Gh} {s:St} {a:Act} {w:World}
omit [LC] in
theorem q1h (w:World) (o:Obj):qev w (w.drew.alloc o):=⟨rfl,rfl,rfl,by simp,fun k hk _=>Below.heap_alloc w.drew _ k hk⟩
omit [LC] in
theorem zkp {τ:Ty} {z:τ.den} {x:AV} {G G':Gh} {v:Value} (h:qxo τ x=true) (hz:τ.zero1=some z) (hr:Rep x G v) (n:Nat):Reps ((List.replicate n z).flatMap τ.enc) G' (List.replicate n v):=by
 induction n with
 | zero=>trivial
 | succ n ih=>
  rw[List.replicate_succ,List.replicate_succ,List.flatMap_cons];exact qki (vs:=[v]) (q49 h hz hr) ih
theorem zs9 {R:Type} (hr:Rel vbr vbm vbo G s a w) {o:Oper} {K:St->Option R} {r:Option R} {x:R} (h:mkOp P s o K=some r) (hx:r=some x) {N:Act->World->Prop} (hN:∀ s',K s'=some x->∀ G' a' w',Rel vbr vbm vbo G' s' a' w'->N a' w'):quv P o a w N:=by
 obtain⟨dst,op,ty,pos,after,guard⟩:=o;unfold mkOp at h;split at h
 ·rename_i T y1 y2 t e1 e2;simp only at e1 e2;subst e1 e2;split at h
  ·rename_i E hu;split at h
   ·rename_i τ z0 kn n km m hτ hz0 hs1 hn hm;split at h
    ·rename_i z hz;cases hb:qxo τ z0&&qjt P E&&qah (s.nx+32*t) s.hp&&Nat.blt t s.n<;>rw[hb]at h<;>simp only[qT,qF,reduceCtorEq,qI]at h
     simp only[qA]at hb;subst h;cases hd:decide (0<=n/\n=m/\n<=4294967296)<;>rw[hd]at hx<;>simp only[qT,qF,reduceCtorEq]at hx
     obtain⟨h0,rfl,h2⟩:=of_decide_eq_true hd;have en:a.eval y1 = .int kn n:=qp8 hr hn;have em:a.eval y2 = .int km n:=qp8 hr hm;obtain⟨i,zv,hi,hzv,q1,_,q3,q4,q5⟩:=qr2 hb.1.1.2 hs1;unfold q9m at hz0;rw[hi]at hz0;simp only[hzv,qI]at hz0;obtain⟨v,hv,hzo⟩:∃ v,zv.cells.toList=[v]/\z0=q1i v:=by
      cases hq:zv.cells.toList with
      | nil=>rw[hq]at hz0;cases hz0
      | cons v l=>rw[hq]at hz0;cases l with
       | nil=>simp only[q9q,List.cons.injEq,and_true]at hz0;exact⟨v,rfl,hz0.symm⟩
       | cons _ _=>simp[q9q]at hz0
     have hvc:zv.cells=#[v]:=by rw[← Array.toArray_toList (xs:=zv.cells),hv]
     have hv1:v.oneCell'=true:=q4 v (by rw[hv];exact List.mem_singleton.2 rfl)
     have hbytes:(i.bytes:Int)*n<=281474976710656:=by
      have:(i.bytes:Int)*n<=32768*4294967296:=Int.mul_le_mul (by omega) h2 h0 (by omega)
      omega
     have hr1:=run_make (P:=P) w T E i zv hu hi hzv kn km n n h0 (Int.le_refl _) hbytes (by omega)
     have hmc:madeCells zv.cells (n.toNat*i.size)=Array.replicate n.toNat v:=by
      rw[q5,Nat.mul_one,hvc];apply Array.ext
      ·simp[madeCells]
      ·intro j h1 h2;simp[madeCells,Nat.mod_one]
     rw[hmc]at hr1;have hsz:τ.sz=1:=q5k (q3y hz);have hz0v:Rep z0 G v:=by rw[hzo];exact qzi G v
     have vbu:(List.replicate n.toNat z).length=n.toNat:=List.length_replicate;obtain⟨G',hG⟩:=q2m (τ:=τ) (l:=List.replicate n.toNat z) (E:=E) (ad:=some ⟨w.heap.size,0,none⟩) (c:=n.toNat) (us:=List.replicate n.toNat v) (w':=w.alloc (.cells (Array.replicate n.toNat v) E)) hr hb.1.2 (qr3 _ _)
      ⟨by rw[vbu,hsz];simp,.inr ⟨w.heap.size,Array.replicate n.toNat v,(0,0),rfl,qcc _ _,.inl rfl,by rw[vbu];exact wF _,by simp only[maxLen];omega,by simp[hsz],by rw[vbu,hsz];simp,fun u hu=>by
       rw[Array.toList_replicate]at hu;rw[(List.mem_replicate.1 hu).2];exact hv1⟩⟩ (zkp hb.1.1.1 hz hz0v _) (fun b hb=>by injection hb with hb;simp at hb;omega)
      (s':={ s with fr:=(t,.own (s.nx+32*t))::s.fr,hp:=(s.nx+32*t,.row τ (List.replicate n.toNat z) E)::s.hp }) (by simp only[St.add,hb.2,qT,wK,List.nil_append])
     refine qat (by simp) ?_
     unfold Oper.wp;rw[show (execOp a.eval ⟨some t,.makeSlice T y1 y2,ty,pos,after,guard⟩).run P w = .ok (.value (.slice (some ⟨w.heap.size,0,none⟩) n.toNat n.toNat)) (w.alloc (.cells (Array.replicate n.toNat v) E)) by simp[execOp,en,em,hr1]]
     rw[vbu]at hG;exact hN _ hx _ _ _ hG
    ·cases h
   ·cases h
  ·cases h
 ·rename_i src dst y t e1 e2;simp only at e1 e2;subst e1 e2;split at h
  ·rename_i E hs hd;split at h
   ·rename_i b he hy;cases hb:qah (s.nx+32*t) s.hp&&Nat.blt t s.n<;>rw[hb]at h<;>simp only[qT,qF,reduceCtorEq,qI]at h
    simp only[qA]at hb;subst h;cases hdd:decide (b.length<=4294967296)<;>rw[hdd]at hx<;>simp only[qT,qF,reduceCtorEq]at hx
    have hbl:=of_decide_eq_true hdd;have hev:a.eval y = .string ⟨b.toArray⟩:=qcj hr hy;have hrf:Conv.runesFrom (⟨b.toArray⟩:ByteArray) (⟨b.toArray⟩:ByteArray).size 0 #[]=((qto b).map (Value.int .i32)).toArray:=by
     rw[qwr,qtm];simp[qto]
    have hlr:(qto b).length<=b.length:=q1y b _ _;have hrun:=run_runes_of_string (P:=P) w src dst E (⟨b.toArray⟩:ByteArray) hs hd he (by rw[hrf];simp;omega)
    rw[hrf]at hrun;simp only[List.size_toArray,wC]at hrun;have hcap:(qto b).length<=grownCap w (qto b).length 0 E:=grownCap_ge _ _ _ _;have hcap2:grownCap w (qto b).length 0 E<=maxLen:=grownCap_le_maxLen _ _ _ _ (by simp only[maxLen];omega)
    obtain⟨G',hG⟩:=q2m (τ := .int .i32) (l:=qto b) (E:=E) (ad:=some ⟨w.heap.size,0,none⟩) (c:=grownCap w (qto b).length 0 E) (us:=(qto b).map (Value.int .i32)) (w':=w.drew.alloc (.cells (((qto b).map (Value.int .i32)).toArray++Array.replicate (grownCap w (qto b).length 0 E-(qto b).length) (.int .i32 0)) E)) hr hb.1 (q1h _ _)
     ⟨by rw[wC];exact (Nat.mul_one _).symm,.inr ⟨w.heap.size,_,(0,0),rfl,qcc w.drew _,.inl rfl,hcap,hcap2,by rw[show (Ty.int IntKind.i32).sz=1 from rfl,Nat.mul_one,Array.size_append,Array.size_replicate,List.size_toArray,wC];omega,by rw[show (Ty.int IntKind.i32).sz=1 from rfl,Nat.mul_one,Array.toList_append,show List.length (α:=(Ty.int IntKind.i32).den) (qto b)=((qto b).map (Value.int .i32)).length from (wC _).symm];exact List.take_left' rfl,fun u hu=>by
      simp only[Array.toList_append,wA,List.mem_map,Array.toList_replicate,List.mem_replicate]at hu;rcases hu with ⟨c,_,rfl⟩|⟨_,rfl⟩<;>rfl⟩⟩ (q8j _ _) (fun b hb=>by injection hb with hb;simp at hb;omega)
     (s':={ s with fr:=(t,.own (s.nx+32*t))::s.fr,hp:=(s.nx+32*t,.row (.int .i32) (qto b) E)::s.hp }) (by simp only[St.add,hb.2,qT,wK,List.nil_append])
    refine qat (by simp) ?_
    unfold Oper.wp;rw[show (execOp a.eval ⟨some t,.convert src dst y,ty,pos,after,guard⟩).run P w = .ok (.value (.slice (some ⟨w.heap.size,0,none⟩) (qto b).length (grownCap w (qto b).length 0 E))) (w.drew.alloc (.cells (((qto b).map (Value.int .i32)).toArray++Array.replicate (grownCap w (qto b).length 0 E-(qto b).length) (.int .i32 0)) E)) by simp[execOp,hev,hrun]]
    exact hN _ hx _ _ _ hG
   ·cases h
  ·rename_i E hs hd;split at h
   ·rename_i v he hy;split at h
    ·rename_i l hl;cases ht:Nat.blt t s.n<;>rw[ht]at h<;>simp only[qT,qF,reduceCtorEq,qI]at h
     subst h;have hsrc:=q13 hl;have hrun:(convert src dst (a.eval y)).run P w = .ok (.string ⟨(q2j l).toArray⟩) w:=by
      rcases q8n hr (qcj hr hy) hsrc with ⟨b',rfl,_⟩|⟨ad,c,us,he1,h1,h2,h3⟩
      ·simp[q3a]at hl
      ·rw[he1];have hus:=q0k h1
       cases ad with
       | none=>
        have:l=[]:=by
         rcases h3 with h3|⟨_,_,h3,_⟩
         ·rw[hus]at h3;simpa using h3
         ·cases h3
        subst this;rw[run_convert_runes_nil w src dst E _ c hs he hd];rfl
       | some ad=>
        have hlc:=qjf (P:=P) (w:=w) (ad:=ad) h3;have vbu:us.length=l.length:=by rw[hus];simp
        rw[vbu,hus]at hlc;rw[run_convert_runes_string w src dst E _ _ _ hs he hd,run_runesToString w ad l.length c l hlc,qu8]
     refine qat (by simp) ?_
     unfold Oper.wp;rw[show (execOp a.eval ⟨some t,.convert src dst y,ty,pos,after,guard⟩).run P w = .ok (.value (.string ⟨(q2j l).toArray⟩)) w by simp[execOp,hrun]]
     exact hN _ hx _ _ _ (qd7 (v := .str (q2j l)) hr (by simp only[St.add,ht,qT,List.nil_append]) rfl)
    ·cases h
   ·cases h
  ·cases h
 ·rename_i T y lo hi mx t e1 e2;simp only at e1 e2;subst e1 e2;split at h
  ·rename_i E hu;split at h
   ·rename_i sz lo' kb b kc c τ l hsz hlo hhi hmx hy;cases hb:Nat.beq τ.sz sz&&Nat.blt t s.n<;>rw[hb]at h<;>simp only[qT,qF,reduceCtorEq,qI]at h
    simp only[qA]at hb;subst h;cases hdd:decide (0<=lo'.getD 0/\lo'.getD 0<=b/\b<=c/\c<=(l.length:Int))<;>rw[hdd]at hx<;>simp only[qT,qF,reduceCtorEq]at hx
    obtain⟨g0,g1,g2,g3⟩:=of_decide_eq_true hdd;have hq:=qN hb.1;subst hq;obtain⟨ad,cp,hv,hc,hl⟩:=qcj hr hy;have eb:a.eval hi = .int kb b:=qp8 hr hhi;have ec:a.eval mx = .int kc c:=qp8 hr hmx;have hbounds:(Instr.sliceBounds true l.length cp (lo.map a.eval) (some (a.eval hi)) (some (a.eval mx))).run P w = .ok ((lo'.getD 0).toNat,b.toNat,c.toNat) w:=by
     rcases qq7 hr hlo with ⟨rfl,rfl⟩|⟨xo,kx,m,rfl,rfl,hxo⟩
     ·simp[Instr.sliceBounds,eb,ec,qbz (P:=P) (w:=w) (show 0<=c by omega) (show c<=(cp:Int) by omega),qbz (P:=P) (w:=w) (show 0<=b by omega) (show b<=(c.toNat:Int) by omega)]
     ·simp only[Option.getD_some]at g0 g1;simp[Instr.sliceBounds,eb,ec,hxo,qbz (P:=P) (w:=w) (show 0<=c by omega) (show c<=(cp:Int) by omega),qbz (P:=P) (w:=w) (show 0<=b by omega) (show b<=(c.toNat:Int) by omega),qbz (P:=P) (w:=w) g0 (show m<=(b.toNat:Int) by omega)]
    generalize lo'.getD 0=i0 at *
    have hrun:(Instr.sliceAt T (a.eval y) (lo.map a.eval) (some (a.eval hi)) (some (a.eval mx))).run P w = .ok (.slice (if c.toNat=i0.toNat then ad else ad.map (·.add (i0.toNat*τ.sz))) (b.toNat-i0.toNat) (c.toNat-i0.toNat)) w:=by
     simp[Instr.sliceAt,Instr.slice,qab hu,hv,hbounds,qa5 hsz]
    refine qat (by simp) ?_
    unfold Oper.wp
    rw[show (execOp a.eval ⟨some t,.slice T y lo (some hi) (some mx),ty,pos,after,guard⟩).run P w = .ok (.value (.slice (if c.toNat=i0.toNat then ad else ad.map (·.add (i0.toNat*τ.sz))) (b.toNat-i0.toNat) (c.toNat-i0.toNat))) w by simp[execOp,hrun]]
    refine hN _ hx _ _ _ (qd7 (v := .sl τ ((l.drop i0.toNat).take (b.toNat-i0.toNat))) hr (by simp only[St.add,hb.2,qT,List.nil_append]) ?_)
    have vbu:((l.drop i0.toNat).take (b.toNat-i0.toNat)).length=b.toNat-i0.toNat:=by simp;omega
    refine⟨_,_,by rw[vbu],by rw[vbu];omega,?_⟩
    rcases hl with rfl|⟨B,o,rfl,hcells⟩
    ·exact .inl (by simp)
    ·by_cases hci:c.toNat=i0.toNat
     ·exact .inl (List.eq_nil_of_length_eq_zero (by rw[vbu];omega))
     ·refine .inr ⟨B,o+i0.toNat*τ.sz,by rw[qW hci];simp[qh5],fun k y hy => ?_⟩
      rw[List.getElem?_take]at hy;split at hy
      ·rw[List.getElem?_drop]at hy;have:=hcells _ _ hy
       rwa [show o+i0.toNat*τ.sz+k*τ.sz=o+(i0.toNat+k)*τ.sz by rw[Nat.add_mul];omega]
      ·cases hy
   ·cases h
  ·cases h
 ·cases h
end
end Go.Sym
namespace Go.Sym
open Go.RowKit
variable [LC]
def zza (P:Program) (T:TypeId):Bool:=match P.underlying T with
 | some (.struct fs)=>match fs.toList with
  | [f,g]=>match P.underlying f.type,P.underlying g.type with
   | some (.pointer T'),some (.slice _)=>Nat.beq T' T
   | _,_=>false
  | _=>false
 | _=>false
def zdg:AV->Bool
 | .val (.pointer none)=>true
 | _=>false
def zhu (n:Nat):List AV->List AV
 | []=>[]
 | x::cs=>(bif zdg x then .pn n else x)::cs
def sbOp (P:Program) (s:St) (o:Oper):Option St:=
 match o.op,o.dst with
 | .alloc T,some t=>bif zza P T then (match aex P s .none o with
  | some ([],s1)=>match look s1.hp (s.nx+32*t) with
   | some (.cells cs T')=>some { s1 with hp:=(s.nx+32*t,.cells (zhu (s.nx+32*t) cs) T')::s1.hp }
   | _=>none
  | _=>none) else none
 | _,_=>none
section
variable {P:Program} {vbr:World} {vbm:Gh} {vbo:List (Nat×Box)} {G:Gh} {s:St} {a:Act} {w:World}
theorem Rel.rebox {n:Nat} {bx bx':Box} (hr:Rel vbr vbm vbo G s a w) (h:look s.hp n=some bx) (hat:G.at n bx'=G.at n bx) (hok:qj5 G w n bx') :
  Rel vbr vbm vbo G { s with hp:=(n,bx')::s.hp } a w:=by
 have key:∀ m b,look ((n,bx')::s.hp) m=some b->(m=n/\b=bx')\/look s.hp m=some b:=fun m b hh=>by
  simp only[look]at hh;cases hb:Nat.beq n m
  ·rw[hb]at hh;exact .inr hh
  ·rw[hb]at hh;simp only[qT,qI]at hh;exact .inl ⟨(qN hb).symm,hh.symm⟩
 have old:∀ m b,look ((n,bx')::s.hp) m=some b->∃ b0,look s.hp m=some b0/\G.at m b0=G.at m b:=fun m b hh=>by
  rcases key m b hh with ⟨rfl,rfl⟩|h1
  ·exact⟨bx,h,hat.symm⟩
  ·exact⟨b,h1,rfl⟩
 refine⟨hr.defers,hr.size,hr.frame,fun m hm hl=>hr.fresh m hm ?_,⟨⟨hr.fin.mem.agree,hr.fin.mem.one,fun m b hh => ?_,fun m m' b b' c h1 h2 h3 h4 => ?_,hr.fin.mem.tab⟩,hr.fin.bel,hr.fin.imm_le,hr.fin.imm_new,fun m b c h1 h2 => ?_,hr.fin.keep,hr.fin.keepOwn⟩⟩
 ·simp only[look]at hl;cases hb:Nat.beq n m
  ·rw[hb]at hl;exact hl
  ·rw[hb]at hl;cases hl
 ·rcases key m b hh with ⟨rfl,rfl⟩|h1
  ·exact hok
  ·exact hr.fin.mem.holds m b h1
 ·obtain⟨c1,k1,e1⟩:=old m b h1;obtain⟨c2,k2,e2⟩:=old m' b' h2;exact hr.fin.mem.apart m m' c1 c2 c k1 k2 (e1.trans h3) (e2.trans h4)
 ·obtain⟨c1,k1,e1⟩:=old m b h1;exact hr.fin.base m c1 c k1 (e1.trans h2)
omit [LC] in
theorem zgu {x:AV} (h:zdg x=true):x = .val (.pointer none):=by
 unfold zdg at h;split at h
 ·rfl
 ·cases h
omit [LC] in
theorem q9h {n B:Nat} (hB:G.box n=some B):∀ {cs:List AV} {vs:List Value},Reps cs G vs->Reps (zhu n cs) G vs
 | [],[],_=>trivial
 | x::cs,v::vs,⟨h1,h2⟩=>by
  refine⟨?_,h2⟩;cases hb:zdg x
  ·exact h1
  ·have:=zgu hb;subst this;exact⟨B,hB,.inl h1⟩
 | [],_::_,h=>h.elim
 | _::_,[],h=>h.elim
theorem zpv (hr:Rel vbr vbm vbo G s a w) {o:Oper} {s':St} (h:sbOp P s o=some s') {N:Act->World->Prop} (hN:∀ G' a' w',Rel vbr vbm vbo G' s' a' w'->N a' w'):quv P o a w N:=by
 unfold sbOp at h;split at h
 ·rename_i T t _ _;cases hs:zza P T<;>rw[hs]at h<;>simp only[qT,qF,reduceCtorEq]at h
  split at h
  ·rename_i s1 ha;split at h
   ·rename_i cs T' hl;simp only[qI]at h;subst h;refine ziy hr ha trivial fun G' a' w' hr'=>hN G' a' w' ?_
    obtain⟨B,vs,h1,h2,h3,h4,h5⟩:=hr'.fin.mem.holds _ _ hl;exact hr'.rebox hl rfl ⟨B,vs,h1,h2,q9h h1 h3,h4,h5⟩
   ·cases h
  ·cases h
 ·cases h
end
end Go.Sym
