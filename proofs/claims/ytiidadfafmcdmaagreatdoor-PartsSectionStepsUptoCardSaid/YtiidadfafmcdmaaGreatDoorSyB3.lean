/- What the claim rests on, part 3: gathered texts. -/
import Derived.RangeFuncRecord
import Derived.Lib.ItoaNum
import Derived.Lib.Index
import Derived.Lib.AtoiAll
import Derived.Shelf.SlSortCmp.Insertion
import Derived.Lib.Replace
import Derived.Lib.Repeat
import Derived.Lib.MapLaws
import Derived.Lib.ValidLaws
import Derived.Lib.BytesEntry
import Derived.Laws.Externs
import Derived.Test.YtiidadfafmcdmaaGreatDoorSyB2
namespace Go.Sym
open Go.RowKit
variable [LC]
mutual
def zo7:AV->List Nat
 | .own k=>[k]
 | .agg xs=>qx3 xs
 | .tup xs=>qx3 xs
 | .fn _ _ xs=>qx3 xs
 | _=>[]
def qx3:List AV->List Nat
 | []=>[]
 | x::xs=>zo7 x++qx3 xs
end
mutual
def zlj:Pt->AV->List Nat
 | .h _,x=>zo7 x
 | .agg ps,x=>match x with
  | .agg xs=>q2o ps xs
  | _=>[]
 | .tup ps,x=>match x with
  | .tup xs=>q2o ps xs
  | _=>[]
 | .fn _ ps,x=>match x with
  | .fn _ _ xs=>q2o ps xs
  | _=>[]
 | _,_=>[]
def q2o:List Pt->List AV->List Nat
 | [],_=>[]
 | p::ps,xs=>match xs with
  | x::xs=>zlj p x++q2o ps xs
  | []=>[]
end
def frzL:List Nat->St->St
 | [],s=>s
 | k::ks,s=>match s.freeze k with
  | some s'=>frzL ks s'
  | none=>frzL ks s
mutual
def nmP:Pt->AV->NM
 | .ptr b _,x=>match zlp x with
  | some (b',_)=>[(b,b')]
  | none=>[]
 | .own k,x=>match zk6 x with
  | some k'=>[(k,k')]
  | none=>[]
 | .el k _,x=>match asEl x with
  | some (k',_)=>[(k,k')]
  | none=>[]
 | .iel _ k _,x=>match znr x with
  | some (_,k',_)=>[(k,k')]
  | none=>[]
 | .yld k,x=>match zn7 x with
  | some k'=>[(k,k')]
  | none=>[]
 | .pn k,x=>match asPn x with
  | some k'=>[(k,k')]
  | none=>[]
 | .agg ps,x=>match asAgg x with
  | some xs=>nmPs ps xs
  | none=>[]
 | .tup ps,x=>match zl4 x with
  | some xs=>nmPs ps xs
  | none=>[]
 | .fn _ ps,x=>match asFn x with
  | some (_,xs)=>nmPs ps xs
  | none=>[]
 | _,_=>[]
def nmPs:List Pt->List AV->NM
 | [],_=>[]
 | p::ps,xs=>match xs with
  | x::xs=>nmP p x++nmPs ps xs
  | []=>[]
end
def znn:List (Nat×BPt)->Nat->Option BPt
 | [],_=>none
 | (k,v)::r,i=>bif Nat.beq k i then some v else znn r i
def coB1 (bs:List (Nat×BPt)) (b:Nat):List Pt->Nat->St->St
 | [],_,s=>s
 | p::ps,off,s=>match p,look s.hp b with
  | .own k,some (.cells cs _)=>match znn bs k,cs[off]? with
   | some (.row τ E),some x=>bif qyg x then (match s.ownCell b off τ E with
     | some s'=>coB1 bs b ps (off+1) s'
     | none=>coB1 bs b ps (off+1) s) else coB1 bs b ps (off+1) s
   | _,_=>coB1 bs b ps (off+1) s
  | p,some (.cells cs _)=>match cs[off]? with
   | some x=>coB1 bs b ps (off+1) (frzL (zlj p x) s)
   | none=>coB1 bs b ps (off+1) s
  | _,_=>coB1 bs b ps (off+1) s
def coB (bs:List (Nat×BPt)) (nm:NM):List (Nat×BPt)->St->St
 | [],s=>s
 | (n,p)::r,s=>match p,qa4 nm n with
  | .cells ps _,some b=>coB bs nm r (coB1 bs b ps 0 s)
  | .dat _ _,some b=>match look s.hp b with
   | some (.cells cs _)=>coB bs nm r (frzL (qx3 cs) s)
   | _=>coB bs nm r s
  | _,_=>coB bs nm r s
def coF (bs:List (Nat×BPt)):List (Nat×Pt)->St->St
 | [],s=>s
 | (i,p)::r,s=>match p,look s.fr i with
  | .own k,some x=>bif qyg x then (match znn bs k with
    | some (.row τ E)=>match s.ownNil i τ E with
     | some s'=>coF bs r s'
     | none=>coF bs r s
    | _=>coF bs r s) else coF bs r s
  | p,some x=>coF bs r (frzL (zlj p x) s)
  | _,none=>coF bs r s
def nmF (fr:List (Nat×AV)):List (Nat×Pt)->NM
 | []=>[]
 | (i,p)::r=>match look fr i with
  | some x=>nmP p x++nmF fr r
  | none=>nmF fr r
def nmH (s:St):List (Nat×BPt)->NM->NM
 | [],nm=>nm
 | (n,p)::r,nm=>match qa4 nm n with
  | some b=>match p,look s.hp b with
   | .cells ps _,some (.cells cs _)=>nmH s r (nm++nmPs ps cs)
   | .loop _ _ _ _ fr _ _ D,some (.loop _ _ _ _ fr' _ _ D')=>nmH s r (nm++((D,D')::nmF fr' fr))
   | _,_=>nmH s r nm
  | none=>nmH s r nm
def LS.co (ls:LS) (ids:NM) (s:St):St:=coF ls.hp ls.fr (coB ls.hp (nmH s ls.hp (ids++nmF s.fr ls.fr)) ls.hp s)
section
variable {P:Program} {vbr:World} {vbm:Gh} {vbo:List (Nat×Box)} {a:Act} {w:World}
theorem Rel.frzL:∀ {ks:List Nat} {s:St} {G:Gh},Rel vbr vbm vbo G s a w->∃ G',Rel vbr vbm vbo G' (frzL ks s) a w
 | [],s,G,hr=>⟨G,hr⟩
 | k::ks,s,G,hr=>by
  simp only[Sym.frzL];split
  ·rename_i s' h;obtain⟨G',hr'⟩:=hr.freeze h;exact Rel.frzL hr'
  ·exact Rel.frzL hr
theorem Rel.coB1 {bs:List (Nat×BPt)} {b:Nat}:∀ {ps:List Pt} {off:Nat} {s:St} {G:Gh},Rel vbr vbm vbo G s a w->∃ G',Rel vbr vbm vbo G' (coB1 bs b ps off s) a w
 | [],_,s,G,hr=>⟨G,hr⟩
 | p::ps,off,s,G,hr=>by
  unfold Sym.coB1;split
  ·split
   ·rename_i x _ _;cases hb:qyg x<;>simp only[qT,qF]
    ·exact Rel.coB1 hr
    ·split
     ·rename_i h;obtain⟨G',hr'⟩:=hr.ownCell h;exact Rel.coB1 hr'
     ·exact Rel.coB1 hr
   ·exact Rel.coB1 hr
  ·split
   ·obtain⟨G',hr'⟩:=hr.frzL;exact Rel.coB1 hr'
   ·exact Rel.coB1 hr
  ·exact Rel.coB1 hr
theorem Rel.coB {bs:List (Nat×BPt)} {nm:NM}:∀ {l:List (Nat×BPt)} {s:St} {G:Gh},Rel vbr vbm vbo G s a w->∃ G',Rel vbr vbm vbo G' (coB bs nm l s) a w
 | [],s,G,hr=>⟨G,hr⟩
 | (n,p)::r,s,G,hr=>by
  unfold Sym.coB;split
  ·obtain⟨G',hr'⟩:=hr.coB1;exact Rel.coB hr'
  ·split
   ·obtain⟨G',hr'⟩:=hr.frzL;exact Rel.coB hr'
   ·exact Rel.coB hr
  ·exact Rel.coB hr
theorem Rel.coF {bs:List (Nat×BPt)}:∀ {l:List (Nat×Pt)} {s:St} {G:Gh},Rel vbr vbm vbo G s a w->∃ G',Rel vbr vbm vbo G' (coF bs l s) a w
 | [],s,G,hr=>⟨G,hr⟩
 | (i,p)::r,s,G,hr=>by
  unfold Sym.coF;split
  ·rename_i x _;cases hb:qyg x<;>simp only[qT,qF]
   ·exact Rel.coF hr
   ·split
    ·split
     ·rename_i h;obtain⟨G',hr'⟩:=hr.ownNil h;exact Rel.coF hr'
     ·exact Rel.coF hr
    ·exact Rel.coF hr
  ·obtain⟨G',hr'⟩:=hr.frzL;exact Rel.coF hr'
  ·exact Rel.coF hr
theorem Rel.co {s:St} {G:Gh} (hr:Rel vbr vbm vbo G s a w) (ls:LS) (ids:NM):∃ G',Rel vbr vbm vbo G' (ls.co ids s) a w:=by
 obtain⟨G',hr'⟩:=hr.coB (bs:=ls.hp) (nm:=nmH s ls.hp (ids++nmF s.fr ls.fr)) (l:=ls.hp);exact hr'.coF
end
def nmY (k:Key) (m:Nat):NM:=match k with
 | .yld m'=>[(m',m)]
 | _=>[]
def zde (g:Ent->Bool):List Ent->Option Ent
 | []=>none
 | e::es=>bif g e then some e else zde g es
def coer (tb:Tb) (s:St) (op:Op):Option St:=
 match op with
 | .call { callee := .value g,args,argTypes:=_ }=>match s.ev g,s.evs args.toList with
  | some (.fn (.func f) [] cap),some xs=>match zde (fun e=>q4g f e.key) tb.ents with
   | some e=>some (coB e.hp (nmH s e.hp (nmPs e.args (xs++cap))) e.hp (frzL (q2o e.args (xs++cap)) s))
   | none=>none
  | some (.yld m),some ys=>match look s.hp m with
   | some (.loop _ _ _ _ _ _ tag _)=>match zde (fun e=>match e.key with
     | .yld m'=>match znn e.hp m' with
      | some (.loop _ _ _ _ _ _ tag' _)=>Nat.beq tag' tag
      | _=>false
     | _=>false) tb.ents with
    | some e=>some (coB e.hp (nmH s e.hp (nmY e.key m++nmPs e.args ys)) e.hp (frzL (q2o e.args ys) s))
    | none=>none
   | _=>none
  | _,_=>none
 | .slice _ x _ _ _=>match s.ev x with
  | some (.own k)=>some (frzL [k] s)
  | _=>none
 | .buildSlice _ _ parts=>match s.evs (parts.toList.map (·.2)) with
  | some xs=>some (frzL (qx3 xs) s)
  | none=>none
 | _=>none
def exq {R:Type} (P:Program) (tb:Tb) (s:St) (o:Oper) (K:St->Option R):Option R:=
 match areq P tb s o.op with
 | some q=>q.K fun d=>match aex P s d o with
  | some (_,s')=>K s'
  | none=>none
 | none=>none
def ziv:Option Rq->Bool
 | some _=>true
 | none=>false
def ex1 {R:Type} (P:Program) (tb:Tb) (s:St) (o:Oper) (K:St->Option R):Option R:=
 match sbOp P s o with
 | some s'=>K s'
 | none=>match mkOp P s o K with
 | some r=>r
 | none=>match zt1 P s o K with
 | some r=>r
 | none=>match itOp P s o K with
 | some r=>r
 | none=>match zt5 P s o with
 | some (b,s')=>bif b then K s' else none
 | none=>match zrt P s o with
 | some (b,s')=>bif b then K s' else none
 | none=>match zp3 P s o with
 | some (b,s')=>bif b then K s' else none
 | none=>match zqy tb s o K with
 | some r=>r
 | none=>match zsu P tb s o with
 | some (b,s')=>bif b then K s' else none
 | none=>bif ziv (areq P tb s o.op) then exq P tb s o K else
  match coer tb s o.op with
  | some s'=>exq P tb s' o K
  | none=>none
def St.know (s:St) (x:Operand) (b:Bool):St:=match x with
 | .tmp t=>bif Nat.blt t s.n then { s with fr:=(t,.val (.bool b))::s.fr } else s
 | _=>s
def zd3 (ops:Array Oper) (j:Nat):Operand:=match ops[j]? with
 | some o=>match o.dst with
  | some t => .tmp t
  | none => .const undef
 | none => .const undef
def op1 {R:Type} (P:Program) (tb:Tb) (ops:Array Oper) (s:St) (o:Oper) (K:St->Option R):Option R:=
 match o.guard with
 | none=>ex1 P tb s o K
 | some (j,want)=>match qub ops s j with
  | none=>none
  | some none=>match s.add o.dst (.val undef) [] with
   | some s'=>K s'
   | none=>none
  | some (some b)=>bif b then
    (bif want then ex1 P tb (s.know (zd3 ops j) true) o K else match (s.know (zd3 ops j) true).add o.dst (.val undef) [] with
     | some s'=>K s'
     | none=>none)
   else (bif want then (match (s.know (zd3 ops j) false).add o.dst (.val undef) [] with
     | some s'=>K s'
     | none=>none) else ex1 P tb (s.know (zd3 ops j) false) o K)
def opsR {R:Type} (P:Program) (tb:Tb) (ops:Array Oper):List Oper->St->(St->Option R)->Option R
 | [],s,K=>K s
 | o::l,s,K=>op1 P tb ops s o fun s'=>opsR P tb ops l s' K
section
variable {P:Program} {vbr:World} {vbm:Gh} {vbo:List (Nat×Box)} {G:Gh} {a:Act} {w:World} {R:Type} {tb:Tb} {s:St}
theorem zoj (hT:∀ e∈tb.ents,e.Sound P) (hr:Rel vbr vbm vbo G s a w) {o:Oper} {K:St->Option R} {x:R} (h:exq P tb s o K=some x) {N:Act->World->Prop} (hN:∀ s',K s'=some x->∀ G' a' w',Rel vbr vbm vbo G' s' a' w'->N a' w'):quv P o a w N:=by
 unfold exq at h;split at h
 ·rename_i q hq;obtain⟨d,h1,h2⟩:=Rq.K_some h;split at h2
  ·rename_i ps s' ha;exact ziy hr ha (zgw hT hq h1 ha) (hN s' h2)
  ·cases h2
 ·cases h
theorem zi5 (hT:∀ e∈tb.ents,e.Sound P) (hr:Rel vbr vbm vbo G s a w) {o:Oper} {K:St->Option R} {x:R} (h:ex1 P tb s o K=some x) {N:Act->World->Prop} (hN:∀ s',K s'=some x->∀ G' a' w',Rel vbr vbm vbo G' s' a' w'->N a' w'):quv P o a w N:=by
 unfold ex1 at h;split at h
 ·rename_i s' hs;exact zpv hr hs (hN s' h)
 split at h
 ·rename_i r' hs;exact zs9 hr hs h hN
 split at h
 ·rename_i r' hs;exact znw hr hs h hN
 split at h
 ·rename_i r' hs;exact zs0 hr hs h hN
 split at h
 ·rename_i b s' hs;cases b<;>simp only[qT,qF,reduceCtorEq]at h
  exact zmt hr hs (hN s' h)
 split at h
 ·rename_i b s' hs;cases b<;>simp only[qT,qF,reduceCtorEq]at h
  exact zmy hr hs (hN s' h)
 split at h
 ·rename_i b s' hs;cases b<;>simp only[qT,qF,reduceCtorEq]at h
  exact zl1 hr hs (hN s' h)
 split at h
 ·rename_i r' hs;exact zks hT hr hs h hN
 split at h
 ·rename_i b s' hs;cases b<;>simp only[qT,qF,reduceCtorEq]at h
  exact zm0 hr hs (hN s' h)
 cases hq:ziv (areq P tb s o.op)<;>rw[hq]at h<;>simp only[qT,qF]at h
 ·split at h
  ·rename_i s' hs;have:∃ G',Rel vbr vbm vbo G' s' a w:=by
    unfold coer at hs;split at hs
    ·split at hs
     ·split at hs
      ·simp only[qI]at hs;subst hs;obtain⟨G1,hr1⟩:=hr.frzL;exact hr1.coB
      ·cases hs
     ·split at hs
      ·split at hs
       ·simp only[qI]at hs;subst hs;obtain⟨G1,hr1⟩:=hr.frzL;exact hr1.coB
       ·cases hs
      ·cases hs
     ·cases hs
    ·split at hs
     ·simp only[qI]at hs;subst hs;exact hr.frzL
     ·cases hs
    ·split at hs
     ·simp only[qI]at hs;subst hs;exact hr.frzL
     ·cases hs
    ·cases hs
   obtain⟨G',hr'⟩:=this;exact zoj hT hr' h hN
  ·cases h
 ·exact zoj hT hr h hN
theorem Rel.know (hr:Rel vbr vbm vbo G s a w) {x:Operand} {b:Bool} (h:a.eval x = .bool b):Rel vbr vbm vbo G (s.know x b) a w:=by
 unfold St.know;split
 ·rename_i t;cases hb:Nat.blt t s.n
  ·exact hr
  ·refine⟨hr.defers,hr.size,fun i y hy => ?_,hr.fresh,hr.fin⟩
   simp only[qT,look]at hy;cases hq:Nat.beq t i
   ·rw[hq]at hy;exact hr.frame i y hy
   ·rw[hq]at hy;simp only[qT,qI]at hy;subst hy;have:=qN hq;subst this;have hlt:t<a.tmps.size:=by rw[hr.size];exact Nat.lt_of_lt_of_le (Nat.lt_succ_self t) (Nat.le_of_ble_eq_true hb)
    refine⟨a.tmps[t],by simp[hlt],?_⟩
    have h:a.tmps.getD t undef = .bool b:=h;simp only[Array.getD,hlt,dif_pos]at h;exact h
 ·exact hr
omit [LC] in
theorem zab {ops:Array Oper} {j:Nat} {b:Bool} (h:yielded ops a.tmps j=some b):a.eval (zd3 ops j) = .bool b:=by
 unfold zd3;unfold yielded at h
 cases ho:ops[j]? with
 | none=>rw[ho]at h;simp at h
 | some o=>
  rw[ho]at h
  cases hd:o.dst with
  | none=>simp[hd]at h
  | some t=>
   simp only[hd,qB]at h ⊢;show a.tmps.getD t undef=_;rw[Array.getD_eq_getD_getElem?]
   cases hv:a.tmps[t]? with
   | none=>rw[hv]at h;simp at h
   | some v=>
    rw[hv]at h;simp only[Option.getD_some]at h ⊢;split at h
    ·rename_i e;simp only[qI]at h;subst h;exact qJ e
    ·cases h
theorem Rel.skip (hr:Rel vbr vbm vbo G s a w) {dst:Option Tmp} {s':St} (h:s.add dst (.val undef) []=some s'):Rel vbr vbm vbo G s' (a.put dst undef) w:=qd7 hr h rfl
theorem zog (hT:∀ e∈tb.ents,e.Sound P) (hr:Rel vbr vbm vbo G s a w) {ops:Array Oper} {i:Nat} {o:Oper} (ho:ops[i]? = some o) {K:St->Option R} {x:R} (h:op1 P tb ops s o K=some x) {N:Act->World->Prop} (hN:∀ s',K s'=some x->∀ G' a' w',Rel vbr vbm vbo G' s' a' w'->N a' w'):dOp P ops i N a w:=by
 have skip:∀ {s:St},Rel vbr vbm vbo G s a w->(match s.add o.dst (.val undef) [] with|some s'=>K s'|none=>none)=some x->¬ Region.wanted o (yielded ops a.tmps)=true->dOp P ops i N a w:=fun hr h hw=>by
  split at h
  ·rename_i s' hs;exact q6r ho hw (hN s' h _ _ _ (hr.skip hs))
  ·cases h
 unfold op1 at h;split at h
 ·rename_i hg;exact q5d ho (by simp[Region.wanted,hg]) (zi5 hT hr h hN)
 ·rename_i j want hg;split at h
  ·cases h
  ·rename_i hgo;have hy:=qw3 hr hgo;exact skip hr h (by simp[Region.wanted,hg,hy])
  ·rename_i b hgo;have hy:=qw3 hr hgo;have hk:=hr.know (zab hy);cases b<;>cases want<;>simp only[qT,qF]at h
   ·exact q5d ho (by simp[Region.wanted,hg,hy]) (zi5 hT hk h hN)
   ·exact skip hk h (by simp[Region.wanted,hg,hy])
   ·exact skip hk h (by simp[Region.wanted,hg,hy])
   ·exact q5d ho (by simp[Region.wanted,hg,hy]) (zi5 hT hk h hN)
theorem zfv (hT:∀ e∈tb.ents,e.Sound P) {ops:Array Oper} {K:St->Option R} {x:R} {N:Act->World->Prop} (hN:∀ s',K s'=some x->∀ G' a' w',Rel vbr vbm vbo G' s' a' w'->N a' w') :
  ∀ (l:List Oper) (i:Nat) (s:St) (G:Gh) (a:Act) (w:World),(∀ j,j<l.length->ops[i+j]? = l[j]?)->opsR P tb ops l s K=some x->Rel vbr vbm vbo G s a w->dOps P ops N (List.range' i l.length) a w
 | [],i,s,G,a,w,_,h,hr=>hN s h G a w hr
 | o::l,i,s,G,a,w,hl,h,hr=>by
  simp only[qL,List.range'_succ,dOps];exact zog hT hr (by have:=hl 0 (by simp);simpa using this) h (fun s' h' G' a' w' hr'=>zfv hT hN l (i+1) s' G' a' w' (fun j hj=>by have:=hl (j+1) (by simp;omega);simpa [Nat.add_assoc,Nat.add_comm 1 j] using this) h' hr')
end
end Go.Sym
namespace Go.Sym
open Go.RowKit
variable [LC]
def zd1:List (Nat×Bool)->Nat->Option Bool
 | [],_=>none
 | (k,v)::r,i=>bif Nat.beq k i then some v else zd1 r i
def rsIx (t:Nat):List HR->Nat->Option Nat
 | [],_=>none
 | r::rs,j=>bif Nat.beq r.dst t then some j else rsIx t rs (j+1)
def zoz (pred:List Nat) (Rs:List HR) (kn:List (Nat×Bool)) (op:Op):Option Bool:=
 match op with
 | .pick (.tmp c) _ _=>match rsIx c Rs 0 with
  | some j=>bif memN pred j then zd1 kn j else none
  | none=>none
 | _=>none
def z07 (P:Program) (tb:Tb) (t:St) (pred:List Nat) (Rs:List HR) (kn:List (Nat×Bool)) (op:Op):Option Rq:=
 match zoz pred Rs kn op with
 | some d=>some (.tot (.b d))
 | none=>areq P tb t op
def exH {R:Type} (P:Program) (tb:Tb) (t:St) (pred:List Nat) (Rs:List HR) (kn:List (Nat×Bool)) (o:Oper) (K:AV->List (Nat×Box)->Option R):Option R:=
 match z07 P tb t pred Rs kn o.op with
 | some q=>q.K fun d=>match aadd P t d o with
  | some (_,v,new)=>K v new
  | none=>none
 | none=>none
def q78:AV->Bool
 | .bool _=>true
 | _=>false
def addK (pred:List Nat) (Rs:List HR) (j:Nat) (d:Bool) (kn:List (Nat×Bool)):List (Nat×Bool):=match Rs[j]? with
 | some r=>bif memN pred j&&q78 r.v then (j,d)::kn else kn
 | none=>kn
def opH {R:Type} (P:Program) (tb:Tb) (ops:Array Oper) (t:St) (pred:List Nat) (Rs:List HR) (kn:List (Nat×Bool)) (o:Oper) (K:AV->List (Nat×Box)->List (Nat×Bool)->Option R):Option R:=
 match o.guard with
 | none=>exH P tb t pred Rs kn o fun v new=>K v new kn
 | some (j,want)=>match qub ops t j with
  | none=>none
  | some none=>K (.val undef) [] kn
  | some (some b)=>match (bif memN pred j then zd1 kn j else none) with
   | some d=>bif d==want then (exH P tb t pred Rs kn o fun v new=>K v new kn) else K (.val undef) [] kn
   | none=>bif b then (bif want then (exH P tb t pred Rs (addK pred Rs j true kn) o fun v new=>K v new (addK pred Rs j true kn)) else K (.val undef) [] (addK pred Rs j true kn))
    else (bif want then K (.val undef) [] (addK pred Rs j false kn) else (exH P tb t pred Rs (addK pred Rs j false kn) o fun v new=>K v new (addK pred Rs j false kn)))
def zmg {R:Type} (P:Program) (tb:Tb) (ops:Array Oper) (s:St) (K:List HR->List (Nat×Bool)->Option R):List Oper->Nat->List HR->List (Nat×Bool)->Option R
 | [],_,Rs,kn=>K Rs kn
 | o::l,i,Rs,kn=>match o.dst,qn4 Rs o.after.toList with
  | some d,some pred=>bif Nat.blt d s.n&&qah (s.nx+32*d) s.hp&&qmv d Rs&&qlr pred (qka ops o) Rs 0&&qjc ops d pred i then
    opH P tb ops (qxl pred Rs 0 s) pred Rs kn o fun v new kn'=>zmg P tb ops s K l (i+1) (Rs++[⟨d,v,new,pred⟩]) kn'
   else none
  | _,_=>none
def q0h:List Oper->Nat->Nat
 | [],n=>n
 | o::l,n=>bif Nat.ble 2 n&&q24 o (n-2) then q0h l (n-1) else n-1
def zdn (ops:Array Oper):List Oper->Nat->Nat
 | [],n=>n
 | o::l,n=>bif zcb ops o n then n else zdn ops l (n+1)
def qjh (ops:Array Oper):Nat:=zdn ops (ops.toList.drop (q0h ops.toList.reverse ops.toList.length)) (q0h ops.toList.reverse ops.toList.length)
def q9c (Rs:List HR) (kn:List (Nat×Bool)):List (Nat×Bool)->St->St
 | [],s=>s
 | (j,_)::l,s=>match zd1 kn j,Rs[j]? with
  | some d,some r=>(q9c Rs kn l s).know (.tmp r.dst) d
  | _,_=>q9c Rs kn l s
def zst {R:Type} (P:Program) (tb:Tb) (ops:Array Oper) (s:St) (K:St->Option R):Option R:=
 bif qia ops.toList 0&&qk6 ops (qjh ops)&&Nat.ble (qjh ops) ops.toList.length then
  zmg P tb ops s (fun Rs kn=>opsR P tb ops (ops.toList.drop (qjh ops)) (q9c Rs kn kn (qsx Rs s)) K) (ops.toList.take (qjh ops)) 0 [] []
 else none
section
variable {P:Program} {vbr:World} {vbm:Gh} {vbo:List (Nat×Box)} {G:Gh} {a:Act} {w:World} {R:Type} {tb:Tb} {s:St}
def KnOk (Rs:List HR) (kn:List (Nat×Bool)):Prop:=∀ j d,zd1 kn j=some d->∃ r,Rs[j]? = some r/\r.v = .bool d
omit [LC] in
theorem zti {pred:List Nat} {Rs:List HR} {j:Nat} {d:Bool} {kn:List (Nat×Bool)} (hk:KnOk Rs kn) (h:∀ r,Rs[j]? = some r->memN pred j=true->q78 r.v=true->r.v = .bool d):KnOk Rs (addK pred Rs j d kn):=by
 unfold addK;split
 ·rename_i r hr;cases hb:memN pred j&&q78 r.v
  ·exact hk
  ·simp only[qA]at hb;intro j' d' h';simp only[qT,zd1]at h';cases hq:Nat.beq j j'
   ·rw[hq]at h';exact hk j' d' h'
   ·rw[hq]at h';simp only[qT,qI]at h';subst h';have:=qN hq;subst this;exact⟨r,hr,h r hr hb.1 hb.2⟩
 ·exact hk
omit [LC] in
theorem q82 {t:Nat}:∀ {rs:List HR} {j0 j:Nat},rsIx t rs j0=some j->∃ k r,j=j0+k/\rs[k]? = some r/\r.dst=t
 | [],j0,j,h=>by cases h
 | r::rs,j0,j,h=>by
  simp only[rsIx]at h;cases hq:Nat.beq r.dst t
  ·rw[hq]at h;obtain⟨k,r',h1,h2,h3⟩:=q82 h;exact⟨k+1,r',by omega,by simpa using h2,h3⟩
  ·rw[hq]at h;simp only[qT,qI]at h;exact⟨0,r,by omega,by simp,qN hq⟩
theorem zdr (hT:∀ e∈tb.ents,e.Sound P) {t:St} {pred:List Nat} {Rs:List HR} {kn:List (Nat×Bool)} {o:Oper} {K:AV->List (Nat×Box)->Option R} {x:R} (hkn:KnOk Rs kn) (hv:∀ j r,memN pred j=true->Rs[j]? = some r->look t.fr r.dst=some r.v)
  (h:exH P tb t pred Rs kn o K=some x):∃ ps d v new,aadd P t d o=some (ps,v,new)/\Alls ps/\K v new=some x:=by
 unfold exH at h;split at h
 ·rename_i q hq;obtain⟨d,h1,h2⟩:=Rq.K_some h;split at h2
  ·rename_i ps v new ha;refine⟨ps,d,v,new,ha,?_,h2⟩;unfold z07 at hq;split at hq
   ·rename_i d' hd;simp only[qI]at hq;subst hq;have h1:d = .b d':=h1;subst h1;unfold zoz at hd;split at hd
    ·rename_i c y z hop;split at hd
     ·rename_i j hj;obtain⟨k,r,rfl,i1,i2⟩:=q82 hj;rw[wO]at hd;cases hm:memN pred k<;>rw[hm]at hd<;>simp only[qT,qF,reduceCtorEq]at hd
      obtain⟨r',j1,j2⟩:=hkn k d' hd;rw[i1]at j1;have:=qJ j1;subst this;have hl:=hv k r hm i1;rw[i2,j2]at hl;unfold aadd at ha;rw[hop]at ha;have hev:t.ev (.tmp c)=some (.bool d'):=hl;simp only[aval,hev]at ha;split at ha
      ·rename_i ps1 v1 e;simp only[qI,qP]at ha;obtain⟨rfl,_,_⟩:=ha;split at e
       ·simp only[qI,qP]at e;obtain⟨rfl,_⟩:=e;exact⟨trivial,trivial⟩
       ·cases e
      ·unfold anew at ha;rw[hop]at ha;cases ha
     ·cases hd
    ·cases hd
   ·exact zcn hT hq h1 ha
  ·cases h2
 ·cases h
theorem zot (hT:∀ e∈tb.ents,e.Sound P) {ops:Array Oper} {t:St} {pred:List Nat} {Rs:List HR} {kn:List (Nat×Bool)} {o:Oper} {K:AV->List (Nat×Box)->List (Nat×Bool)->Option R} {x:R} (hkn:KnOk Rs kn)
  (hv:∀ j r,memN pred j=true->Rs[j]? = some r->look t.fr r.dst=some r.v) (hd:∀ (j:Nat) (r:HR),memN pred j=true->Rs[j]? = some r->∃ oj:Oper,ops[j]? = some oj/\oj.dst=some r.dst)
  (h:opH P tb ops t pred Rs kn o K=some x):∃ ps,∃ c:Dec,∃ v new kn',qt4 P ops t c o=some (ps,v,new)/\Alls ps/\KnOk Rs kn'/\K v new kn'=some x:=by
 unfold opH at h;unfold qt4;split at h
 ·rename_i hg;obtain⟨ps,d,v,new,h1,h2,h3⟩:=zdr hT hkn hv h;exact⟨ps,(false,d),v,new,kn,by rw[hg];exact h1,h2,hkn,h3⟩
 ·rename_i j want hg;split at h
  ·cases h
  ·rename_i hgo;exact⟨[],(false,.none),_,_,kn,by simp[hg,hgo],trivial,hkn,h⟩
  ·rename_i b hgo;have hb:∀ r,Rs[j]? = some r->memN pred j=true->q78 r.v=true->r.v = .bool b:=fun r hr hm hi=>by
    obtain⟨oj,k1,k2⟩:=hd j r hm hr;have hl:=hv j r hm hr;unfold qub at hgo;simp only[k1,k2,hl]at hgo;cases hrv:r.v<;>rw[hrv]at hi<;>simp only[q78,wJ]at hi
    rw[hrv]at hgo;simp only[qI]at hgo;subst hgo;rfl
   split at h
   ·rename_i d hkd;cases hm:memN pred j<;>rw[hm]at hkd<;>simp only[qT,qF,reduceCtorEq]at hkd
    obtain⟨r,i1,i2⟩:=hkn j d hkd;have hbd:b=d:=by
     have:=hb r i1 hm (by rw[i2];rfl)
     rw[i2]at this;simpa using this.symm
    cases hw:d==want<;>rw[hw]at h<;>simp only[qT,qF]at h
    ·exact⟨[b=d],(d,.none),_,_,kn,by simp[hg,hgo,hw],⟨hbd,trivial⟩,hkn,h⟩
    ·obtain⟨ps,d',v,new,h1,h2,h3⟩:=zdr hT hkn hv h;exact⟨(b=d)::ps,(d,d'),v,new,kn,by simp[hg,hgo,hw,h1],⟨hbd,h2⟩,hkn,h3⟩
   ·have hkn':∀ d,b=d->KnOk Rs (addK pred Rs j d kn):=fun d e=>zti hkn (by subst e;exact hb)
    cases b<;>cases want<;>simp only[qT,qF]at h
    ·obtain⟨ps,d',v,new,h1,h2,h3⟩:=zdr hT (hkn' false rfl) hv h;exact⟨(false=false)::ps,(false,d'),v,new,_,by simp[hg,hgo,h1],⟨rfl,h2⟩,hkn' false rfl,h3⟩
    ·exact⟨[false=false],(false,.none),_,_,_,by simp[hg,hgo],⟨rfl,trivial⟩,hkn' false rfl,h⟩
    ·exact⟨[true=true],(true,.none),_,_,_,by simp[hg,hgo],⟨rfl,trivial⟩,hkn' true rfl,h⟩
    ·obtain⟨ps,d',v,new,h1,h2,h3⟩:=zdr hT (hkn' true rfl) hv h;exact⟨(true=true)::ps,(true,d'),v,new,_,by simp[hg,hgo,h1],⟨rfl,h2⟩,hkn' true rfl,h3⟩
omit [LC] in
theorem q5a {sel:List Nat} {d:Nat}:∀ {rs:List HR} {j:Nat} {t:St},(∀ r∈rs,r.dst≠d)->look (qxl sel rs j t).fr d=look t.fr d
 | [],_,_,_=>rfl
 | r::rs,j,t,h=>by
  simp only[qxl];rw[q5a (fun r' hr'=>h r' (qE _ hr'))]
  cases memN sel j
  ·rfl
  ·simp only[qT,St.addR,look];have:=h r qH;cases hq:Nat.beq r.dst d
   ·rfl
   ·exact absurd (qN hq) this
omit [LC] in
theorem q7u {sel:List Nat}:∀ {rs:List HR} {j k:Nat} {t:St} {r:HR},rs[k]? = some r->memN sel (j+k)=true->(∀ k' r',k<k'->rs[k']? = some r'->r'.dst≠r.dst)->look (qxl sel rs j t).fr r.dst=some r.v
 | [],_,_,_,_,h,_,_=>by simp at h
 | r0::rs,j,0,t,r,h,hm,hd=>by
  simp only[List.getElem?_cons_zero,qI]at h;subst h;simp only[qxl];rw[q5a (fun r' hr'=>by
   obtain⟨k,hk⟩:=List.getElem?_of_mem hr';exact hd (k+1) r' (by omega) (by simpa using hk))]
  rw[Nat.add_zero]at hm;rw[hm];simp[St.addR,look]
 | r0::rs,j,k+1,t,r,h,hm,hd=>by
  simp only[qxl];exact q7u (k:=k) (by simpa using h) (by rw[show j+1+k=j+(k+1) by omega];exact hm) (fun k' r' hk hr'=>hd (k'+1) r' (by omega) (by simpa using hr'))
omit [LC] in
theorem q47 {d:Nat}:∀ {rs:List HR} {t:St},(∀ r∈rs,r.dst≠d)->look (qsx rs t).fr d=look t.fr d
 | [],_,_=>rfl
 | r::rs,t,h=>by
  simp only[qsx];rw[q47 (fun r' hr'=>h r' (qE _ hr'))]
  show (bif Nat.beq r.dst d then some r.v else look t.fr d)=_
  cases hb:Nat.beq r.dst d
  ·rfl
  ·exact absurd (qN hb) (h r qH)
omit [LC] in
theorem q83:∀ {rs:List HR} {k:Nat} {t:St} {r:HR},rs[k]? = some r->(∀ k' r',k<k'->rs[k']? = some r'->r'.dst≠r.dst)->look (qsx rs t).fr r.dst=some r.v
 | [],_,_,_,h,_=>by simp at h
 | r0::rs,0,t,r,h,hd=>by
  simp only[List.getElem?_cons_zero,qI]at h;subst h;simp only[qsx];rw[q47 (fun r' hr'=>by
   obtain⟨k,hk⟩:=List.getElem?_of_mem hr';exact hd (k+1) r' (by omega) (by simpa using hk))]
  show (bif Nat.beq r0.dst r0.dst then some r0.v else look t.fr r0.dst)=_
  simp
 | r0::rs,k+1,t,r,h,hd=>by
  simp only[qsx];exact q83 (k:=k) (by simpa using h) (fun k' r' hk hr'=>hd (k'+1) r' (by omega) (by simpa using hr'))
theorem zdi {Rs:List HR} (hdis:∀ (k k':Nat) (r r':HR),k<k'->Rs[k]? = some r->Rs[k']? = some r'->r'.dst≠r.dst) (hr:Rel vbr vbm vbo G (qsx Rs s) a w) {kn:List (Nat×Bool)} (hkn:KnOk Rs kn):∀ {l:List (Nat×Bool)},Rel vbr vbm vbo G (q9c Rs kn l (qsx Rs s)) a w
 | []=>hr
 | (j,_)::l=>by
  have ih:=zdi hdis hr hkn (l:=l);unfold q9c;split
  ·rename_i d r h0 h1;obtain⟨r',i1,h2⟩:=hkn j d h0;rw[h1]at i1;have:=qJ i1;subst this;refine ih.know ?_;obtain⟨v,v1,v2⟩:=hr.frame r.dst _ (q83 h1 (fun k' r' hk hr'=>hdis j k' r r' hk h1 hr'))
   rw[h2]at v2;have v2:v = .bool d:=v2;subst v2;show a.tmps.getD r.dst undef=_;rw[Array.getD_eq_getD_getElem?,v1];rfl
  ·exact ih
theorem zbw (hT:∀ e∈tb.ents,e.Sound P) {ops:Array Oper} {K:List HR->List (Nat×Bool)->Option R} {x:R}:∀ (l:List Oper) (i:Nat) (Rs:List HR) (kn:List (Nat×Bool)),(∀ j,j<l.length->ops[i+j]? = l[j]?)->Rs.length=i->KnOk Rs kn ->
  (∀ j o,j<i->ops[j]? = some o->HOk P ops s Rs j o)->zmg P tb ops s K l i Rs kn=some x->∃ Rs' kn',K Rs' kn'=some x/\KnOk Rs' kn'/\Rs'.length=i+l.length/\∀ j o,j<i+l.length->ops[j]? = some o->HOk P ops s Rs' j o
 | [],i,Rs,kn,_,vbu,hkn,hH,h=>⟨Rs,kn,h,hkn,vbu,hH⟩
 | o::l,i,Rs,kn,hl,vbu,hkn,hH,h=>by
  have ho:ops[i]? = some o:=by have:=hl 0 (by simp);simpa using this
  have hops:∀ j,j<i->∃ oj,ops[j]? = some oj:=fun j hj=>by
   have:i<ops.size:=(Array.getElem?_eq_some_iff.1 ho).1;exact⟨ops[j],by simp[show j<ops.size by omega]⟩
  simp only[zmg]at h;split at h
  ·rename_i d pred hd hp;cases hb:Nat.blt d s.n&&qah (s.nx+32*d) s.hp&&qmv d Rs&&qlr pred (qka ops o) Rs 0&&qjc ops d pred i<;>rw[hb]at h<;>simp only[qT,qF,reduceCtorEq]at h
   simp only[qA]at hb;obtain⟨⟨⟨⟨b1,b2⟩,b3⟩,b4⟩,b5⟩:=hb;have hdst:∀ (j:Nat) (r:HR),Rs[j]? = some r->∃ oj:Oper,ops[j]? = some oj/\oj.dst=some r.dst:=fun j r hr=>by
    have hj:j<i:=by have:=(List.getElem?_eq_some_iff.1 hr).1;omega
    obtain⟨oj,hoj⟩:=hops j hj;obtain⟨r',_,_,k1,k2,_⟩:=hH j oj hj hoj;rw[hr]at k1;have:=qJ k1;subst this;exact⟨oj,hoj,k2⟩
   have hdis:∀ (k k':Nat) (r r':HR),k<k'->Rs[k]? = some r->Rs[k']? = some r'->r'.dst≠r.dst:=fun k k' r r' hkk hr hr' e=>by
    have hk':k'<i:=by have:=(List.getElem?_eq_some_iff.1 hr').1;omega
    obtain⟨oj,hoj⟩:=hops k' hk';obtain⟨r2,_,_,k1,_,_,_,_,k6,_⟩:=hH k' oj hk' hoj;rw[hr']at k1;have:=qJ k1;subst this;exact qig.1 k6 r (List.mem_of_getElem? (i:=k) (by rw[List.getElem?_take,qX hkk];exact hr)) e.symm
   obtain⟨ps,c,v,new,kn',h1,h2,h3,h4⟩:=zot hT hkn (fun j r hm hr=>q7u (k:=j) hr (by rw[wO];exact hm) (fun k' r' hk hr'=>hdis j k' r r' hk hr hr')) (fun j r _ hr=>hdst j r hr) h
   obtain⟨Rs',kn2,k1,kk,k2,k3⟩:=zbw hT l (i+1) (Rs++[⟨d,v,new,pred⟩]) kn' (fun j hj=>by have:=hl (j+1) (by simp;omega);simpa [Nat.add_assoc,Nat.add_comm 1 j] using this) (by simp[vbu])
    (fun j d' hj=>by
     obtain⟨r,i1,i2⟩:=h3 j d' hj;exact⟨r,by rw[List.getElem?_append_left (List.getElem?_eq_some_iff.1 i1).1];exact i1,i2⟩)
    (fun j oj hj hoj=>by
     by_cases hji:j<i
     ·obtain⟨r,ps',c',j1,j2,j3,j4,j5,j6,j7,j8,j9,j10⟩:=hH j oj hji hoj;have ht:(Rs++[(⟨d,v,new,pred⟩:HR)]).take j=Rs.take j:=by rw[List.take_append_of_le_length (by omega)]
      exact⟨r,ps',c',by rw[List.getElem?_append_left (by omega)];exact j1,j2,j3,j4,by rw[ht];exact j5,by rw[ht];exact j6,by rw[ht];exact j7,j8,by rw[ht];exact j9,j10⟩
     ·have:j=i:=by omega
      subst this;rw[ho]at hoj;have:=qJ hoj;subst this;have ht:(Rs++[(⟨d,v,new,pred⟩:HR)]).take j=Rs:=by rw[← vbu,List.take_left]
      exact⟨⟨d,v,new,pred⟩,ps,c,by rw[← vbu];simp,hd,Nat.lt_of_lt_of_le (Nat.lt_succ_self d) (Nat.le_of_ble_eq_true b1),b2,by rw[ht];exact hp,by rw[ht];exact b3,by rw[ht];exact b4,b5,by rw[ht];exact h1,h2⟩)
    h4
   exact⟨Rs',kn2,k1,kk,by rw[k2,qL];omega,fun j oj hj=>k3 j oj (by rw[qL]at hj;omega)⟩
  ·cases h
theorem zav (hT:∀ e∈tb.ents,e.Sound P) {ops:Array Oper} {K:St->Option R} {x:R} {n:Nat} {N:Act->World->Prop} (he:qia ops.toList 0=true) (ht:qk6 ops n=true) (hN:∀ s',K s'=some x->∀ G' a' w',Rel vbr vbm vbo G' s' a' w'->N a' w') :
  ∀ (l:List Oper) (m:Nat),n<=m->ops.toList.drop m=l->m<=ops.size->∀ (s:St) (G:Gh) (a:Act) (w:World) (listed:Array Bool),opsR P tb ops l s K=some x->Rel vbr vbm vbo G s a w->Upto ops m listed->dAny P ops N (ops.size-m) listed a w
 | [],m,hn,hl,hm,s,G,a,w,listed,h,hr,hu=>by
  have:m=ops.size:=by
   have:=congrArg List.length hl;simp at this;omega
  subst this;exact zm1 hu (hN s h G a w hr)
 | o::l,m,hn,hl,hm,s,G,a,w,listed,h,hr,hu=>by
  have hlt:m<ops.size:=by
   have:=congrArg List.length hl;simp at this;omega
  have ho:ops[m]? = some o:=by
   have:=congrArg (fun l=>l[0]?) hl
   simpa using this
  refine zls he ht hn hlt hu (zog hT hr ho h (fun s' h' G' a' w' hr' listed' hu' => ?_))
  exact zav hT he ht hN l (m+1) (by omega) (by rw[← List.drop_drop,hl];rfl) (by omega) s' G' a' w' listed' h' hr' hu'
theorem zma (hT:∀ e∈tb.ents,e.Sound P) (hm:P.follows .mixedOrders=true) {ops:Array Oper} {K:St->Option R} {x:R} (h:zst P tb ops s K=some x) {N:Act->World->Prop} (hN:∀ s',K s'=some x->∀ G' a' w',Rel vbr vbm vbo G' s' a' w'->N a' w')
  (hr:Rel vbr vbm vbo G s a w) (id:Nat) (b:Frame) (k:List Item) (cs:List Frame) (hk:b.kind = .normal) :
  ∃ a' w',N a' w'/\Steps P (lone (b.atR a (.code (.region id ops true)::k)) cs w) (lone (b.atR a' k) cs w'):=by
 unfold zst at h;generalize qjh ops=n at h;cases hb:qia ops.toList 0&&qk6 ops n&&Nat.ble n ops.toList.length<;>rw[hb]at h<;>simp only[qT,qF,reduceCtorEq]at h
 simp only[qA]at hb;obtain⟨⟨b1,b2⟩,b3⟩:=hb;have hn:n<=ops.size:=by have:=Nat.le_of_ble_eq_true b3;simpa using this
 have vbu:(ops.toList.take n).length=n:=by simp;omega
 obtain⟨Rs,kn,k1,kk,k2,k3⟩:=zbw hT (ops.toList.take n) 0 [] [] (fun j hj=>by
  rw[vbu]at hj;rw[List.getElem?_take,qX hj,wO];simp) rfl (fun j d h=>by cases h) (fun j o hj=>by omega) h
 rw[wO,vbu]at k2 k3;have hdis:∀ (k k':Nat) (r r':HR),k<k'->Rs[k]? = some r->Rs[k']? = some r'->r'.dst≠r.dst:=fun k k' r r' hkk hr hr' e=>by
  have hk':k'<n:=by have:=(List.getElem?_eq_some_iff.1 hr').1;omega
  obtain⟨oj,hoj⟩:∃ oj,ops[k']? = some oj:=⟨ops[k'],by simp[show k'<ops.size by omega]⟩
  obtain⟨r2,_,_,j1,_,_,_,_,j6,_⟩:=k3 k' oj hk' hoj;rw[hr']at j1;have:=qJ j1;subst this;exact qig.1 j6 r (List.mem_of_getElem? (i:=k) (by rw[List.getElem?_take,qX hkk];exact hr)) e.symm
 exact zpm hn b1 b2 hm k2 k3 (fun G a w listed hr' hu=>zav hT b1 b2 hN _ n (wF _) rfl hn _ G a w listed k1 (zdi hdis hr' kk) hu) hr id b k cs hk
end
end Go.Sym
namespace Go.Sym
open Go.RowKit
variable [LC]
structure Md:Type where
 f:List (Nat×AV)
 h:List (Nat×Box)
def St.addM (s:St) (m:Md):St:={ s with fr:=m.f++s.fr,hp:=m.h++s.hp }
def q8m (K:List Nat):List (Nat×Box)->List (Nat×Box)
 | []=>[]
 | (n,b)::r=>bif memN K n then q8m K r else (n,b)::q8m K r
def St.hide (s:St) (K:List Nat):St:={ s with hp:=q8m K s.hp }
omit [LC] in
theorem q23 {K:List Nat}:∀ {l:List (Nat×Box)} {n:Nat} {b:Box},look (q8m K l) n=some b->look l n=some b/\n∉K
 | [],n,b,h=>by cases h
 | (k,v)::r,n,b,h=>by
  simp only[q8m]at h;cases hm:memN K k<;>rw[hm]at h<;>simp only[qT,qF]at h
  ·simp only[look]at h ⊢;cases hb:Nat.beq k n<;>rw[hb]at h<;>simp only[qT,qF]at h ⊢
   ·exact q23 h
   ·refine⟨h,fun hn => ?_⟩
    rw[← qN hb]at hn;rw[qct.2 hn]at hm;cases hm
  ·obtain⟨h1,h2⟩:=q23 h;refine⟨?_,h2⟩;simp only[look];cases hb:Nat.beq k n
   ·exact h1
   ·exfalso;apply h2;rw[← qN hb];exact qct.1 hm
def ze9 (s:St) (q:Prop) (ys:List AV) (names:List (Nat×Nat)) (xs:List AV) (hp:List (Nat×Box)) (r:AV) (hp':List (Nat×Box)) (t:Nat):Option (List Prop×Md):=
 bif qam names&&qgs names&&qah (s.nx+32*t) s.hp&&Nat.blt t s.n then
  match qm2 (rho names) s.hp names,vws false [] (AV.rens (rho names) ys) xs with
  | some hpv,some ps1=>match vwHp hpv hp with
   | some ps2=>some (q::(ps1++ps2),⟨[(t,r.ren (back names hp' (s.nx+32*t)))],qs2 (back names hp' (s.nx+32*t)) hp'++qz7 names⟩)
   | none=>none
  | _,_=>none
 else none
omit [LC] in
theorem zeu {s:St} {q:Prop} {ys:List AV} {names:List (Nat×Nat)} {xs:List AV} {hp:List (Nat×Box)} {r:AV} {hp':List (Nat×Box)} {t:Nat} {ps:List Prop} {m:Md} (h:ze9 s q ys names xs hp r hp' t=some (ps,m)):qvu s q ys names xs hp r hp' t=some (ps,s.addM m):=by
 unfold ze9 at h;unfold qvu;cases hc:qam names&&qgs names&&qah (s.nx+32*t) s.hp&&Nat.blt t s.n<;>rw[hc]at h<;>simp only[qT,qF,reduceCtorEq]at h ⊢
 split at h
 ·rename_i hpv ps1 h1 h2;split at h
  ·rename_i ps2 h3;simp only[qI,qP]at h;obtain⟨rfl,rfl⟩:=h;rw[h1,h2];simp only[h3,St.addM,wM,qS]
  ·cases h
 ·cases h
omit [LC] in
theorem q1x {ρ:Nat->Option Nat} {hp hp':List (Nat×Box)} (hhp:∀ n b,look hp n=some b->look hp' n=some b):∀ {l:List (Nat×Nat)} {r:List (Nat×Box)},qm2 ρ hp l=some r->qm2 ρ hp' l=some r
 | [],_,h=>h
 | (m,n)::l,r,h=>by
  simp only[qm2]at h ⊢;split at h
  ·rename_i b l' h1 h2;rw[hhp _ _ h1,q1x hhp h2];exact h
  ·cases h
omit [LC] in
theorem zfb {t s:St} {q:Prop} {ys:List AV} {names:List (Nat×Nat)} {xs:List AV} {hp:List (Nat×Box)} {r:AV} {hp':List (Nat×Box)} {tt:Nat} {R:List Prop×Md} (hhp:∀ n b,look t.hp n=some b->look s.hp n=some b) (hroom:qah (s.nx+32*tt) s.hp=true) (hnx:t.nx=s.nx) (hn:t.n=s.n)
  (h:ze9 t q ys names xs hp r hp' tt=some R):ze9 s q ys names xs hp r hp' tt=some R:=by
 unfold ze9 at h ⊢;cases hc:qam names&&qgs names&&qah (t.nx+32*tt) t.hp&&Nat.blt tt t.n<;>rw[hc]at h<;>simp only[qT,qF,reduceCtorEq]at h
 simp only[qA]at hc;rw[hroom,← hn,hc.1.1.1,hc.1.1.2,hc.2,← hnx];split at h
 ·rename_i hpv ps1 h1 h2;rw[q1x hhp h1,h2];exact h
 ·cases h
def zan (P:Program) (t:St) (d:D) (o:Oper):Option (List Prop×Md):=
 match o.op,o.dst with
 | .store T x y,none=>match t.ev x,t.ev y,qmo P T with
  | some (.ptr b off),some v,some n=>match look t.hp b with
   | some (.cells cs T')=>bif Nat.beq v.cells.length n&&AV.ones v.cells&&Nat.ble (off+n) cs.length then some ([],⟨[],[(b,.cells (qi9 cs off v.cells) T')]⟩) else none
   | _=>none
  | _,_,_=>none
 | .call { callee := .builtin .append,args,argTypes },some tt=>match args.toList,argTypes.toList with
  | [x,y],[ty,ty2]=>match t.ev x,t.ev y with
   | some (.own k),some v=>match look t.hp k with
    | some (.row τ0 l0 E0)=>match qqk P t d ty ty2 (l0.flatMap τ0.enc) l0.length v with
     | some (ps,.row τ l E)=>bif qah (t.nx+32*tt) t.hp&&Nat.beq τ.sz τ0.sz&&Nat.beq E E0&&Nat.blt tt t.n then some (ps,⟨[(tt,.own (t.nx+32*tt))],[(t.nx+32*tt,.row τ l E),(k,.dead)]⟩) else none
     | _=>none
    | _=>none
   | _,_=>none
  | _,_=>none
 | .call { callee := .value g,args,argTypes:=_ },some tt=>match t.ev g,t.evs args.toList,d with
  | some (.fn (.func f) [] cap),some ys,.mem names xs hp r hp'=>ze9 t (q8k P f/\qbm P f xs hp r hp') (ys++cap) names xs hp r hp' tt
  | _,_,_=>none
 | _,_=>none
theorem q9l {P:Program} {t:St} {d:D} {o:Oper} {ps:List Prop} {m:Md} (h:zan P t d o=some (ps,m)):aex P t d o=some (ps,t.addM m):=by
 obtain⟨dst,op,ty,pos,after,guard⟩:=o;unfold zan at h;split at h
 ·rename_i T x y ho hd;simp only at ho hd;subst ho hd;split at h
  ·rename_i b off v n hx hy hn;split at h
   ·rename_i cs T' hb;cases hc:Nat.beq v.cells.length n&&AV.ones v.cells&&Nat.ble (off+n) cs.length<;>rw[hc]at h<;>simp only[qT,qF,reduceCtorEq,qI,qP]at h
    obtain⟨rfl,rfl⟩:=h;unfold aex;rw[show aadd P t d ⟨none,.store T x y,ty,pos,after,guard⟩=none from rfl]
    simp only[amod,hx,hy,hn,hb,hc,qT];rfl
   ·cases h
  ·cases h
 ·rename_i args argTypes tt ho hd;simp only at ho hd;subst ho hd;split at h
  ·rename_i x y t1 t2 ha ht;split at h
   ·rename_i k v hx hy;split at h
    ·rename_i τ0 l0 E0 hk;split at h
     ·rename_i ps' τ l E hap;cases hc:qah (t.nx+32*tt) t.hp&&Nat.beq τ.sz τ0.sz&&Nat.beq E E0&&Nat.blt tt t.n<;>rw[hc]at h<;>simp only[qT,qF,reduceCtorEq,qI,qP]at h
      obtain⟨rfl,rfl⟩:=h;have hadd:aadd P t d ⟨some tt,.call { callee := .builtin .append,args:=args,argTypes:=argTypes },ty,pos,after,guard⟩=none:=by
       simp only[aadd,aval,anew,ha,ht,hx,hy]
      unfold aex;rw[hadd];simp only[amod,ha,ht,hx,hy,hk,hap,hc,qT];rfl
     ·cases h
    ·cases h
   ·cases h
  ·cases h
 ·rename_i g args argTypes tt ho hd;simp only at ho hd;subst ho hd;split at h
  ·rename_i f cap ys names xs hp r hp' hg hys;have hadd:aadd P t (.mem names xs hp r hp') ⟨some tt,.call { callee := .value g,args:=args,argTypes:=argTypes },ty,pos,after,guard⟩=none:=by
    simp only[aadd,aval,anew,hg,hys]
   unfold aex;rw[hadd];simp only[amod,hg,hys];exact zeu h
  ·cases h
 ·cases h
theorem zd7 {P:Program} {t st:St} {d:D} {o:Oper} {R:List Prop×Md} (hs:Sees o t st) (hn:t.n=st.n) (h:zan P t d o=some R):zan P st d o=some R:=by
 obtain⟨dst,op,ty,pos,after,guard⟩:=o;have hev:=hs.ev;have hhp:=hs.hp;have hroom:=hs.room;have hnx:=hs.nx;simp only at hev hroom;unfold zan at h ⊢;split at h
 ·rename_i T x y ho hd;simp only at ho hd;subst ho hd;rw[hev x (by simp[Op.operands]),hev y (by simp[Op.operands])]at h
  split at h
  ·rename_i b off v n hx hy hn;split at h
   ·rename_i cs T' hb;simp only[hhp _ _ hb];exact h
   ·cases h
  ·cases h
 ·rename_i args argTypes tt ho hd;simp only at ho hd;subst ho hd;have hm:∀ z∈args.toList,t.ev z=st.ev z:=fun z hz=>hev z (by simp[Op.operands,Call.operands];simpa using hz)
  split at h
  ·rename_i x y t1 t2 ha ht;rw[hm x (by rw[ha];simp),hm y (by rw[ha];simp)]at h
   split at h
   ·rename_i k v hx hy;split at h
    ·rename_i τ0 l0 E0 hk;simp only[hhp _ _ hk];split at h
     ·rename_i ps' τ l E hap;simp only[q06 hhp hap];cases hc:qah (t.nx+32*tt) t.hp&&Nat.beq τ.sz τ0.sz&&Nat.beq E E0&&Nat.blt tt t.n<;>rw[hc]at h<;>simp only[qT,qF,reduceCtorEq]at h
      simp only[qA]at hc;rw[hroom tt rfl,← hn,hc.1.1.2,hc.1.2,hc.2,← hnx];exact h
     ·cases h
    ·cases h
   ·cases h
  ·cases h
 ·rename_i g args argTypes tt ho hd;simp only at ho hd;subst ho hd;have h1:t.ev g=st.ev g:=hev g (by simp[Op.operands,Call.operands])
  have h2:t.evs args.toList=st.evs args.toList:=qyx (fun x hx=>hev x (by simp[Op.operands,Call.operands];exact .inr (by simpa using hx)))
  rw[h1,h2]at h;split at h
  ·exact zfb hhp (hroom tt rfl) hnx hn h
  ·cases h
 ·cases h
def cat {β:Type} (A:Nat->List (Nat×β)):List Nat->List (Nat×β)->List (Nat×β)
 | [],b=>b
 | i::L,b=>A i++cat A L b
omit [LC] in
theorem qvr {β:Type} (l r:List (Nat×β)) (n:Nat):look (l++r) n=match look l n with|some b=>some b|none=>look r n:=by
 induction l with
 | nil=>rfl
 | cons x l ih=>
  obtain⟨k,v⟩:=x;simp only[wK,look];cases Nat.beq k n<;>simp[ih]
omit [LC] in
theorem qmt {β:Type}:∀ {l:List (Nat×β)} {m:Nat},look l m≠none->∃ e∈l,e.1=m
 | [],m,h=>absurd rfl h
 | (k,v)::r,m,h=>by
  simp only[look]at h;cases hb:Nat.beq k m
  ·rw[hb]at h;obtain⟨e,h1,h2⟩:=qmt h;exact⟨e,qE _ h1,h2⟩
  ·exact⟨(k,v),qH,qN hb⟩
omit [LC] in
theorem q4t {β:Type} (A:Nat->List (Nat×β)):∀ (L M:List Nat) (b:List (Nat×β)),cat A (L++M) b=cat A L (cat A M b)
 | [],M,b=>rfl
 | i::L,M,b=>by simp only[wK,cat,q4t A L M b]
omit [LC] in
theorem q5s {β:Type} {A:Nat->List (Nat×β)} {x:Nat} {b:List (Nat×β)}:∀ {L:List Nat},(∀ j∈L,look (A j) x=none)->look (cat A L b) x=look b x
 | [],_=>rfl
 | i::L,h=>by
  simp only[cat];rw[qvr,h i qH];exact q5s (fun j hj=>h j (qE _ hj))
omit [LC] in
theorem zf9 {β:Type} {A:Nat->List (Nat×β)} {b:List (Nat×β)}:∀ {L:List Nat} {e:Nat×β},e∈cat A L b->(∃ j∈L,e∈A j)\/e∈b
 | [],e,h => .inr h
 | i::L,e,h=>by
  rcases List.mem_append.1 h with h|h
  ·exact .inl ⟨i,qH,h⟩
  ·rcases zf9 h with ⟨j,h1,h2⟩|h
   ·exact .inl ⟨j,qE _ h1,h2⟩
   ·exact .inr h
def Good (pr:Nat->List Nat):List Nat->Prop
 | []=>True
 | i::L=>i∉L/\(∀ j∈pr i,j∈L)/\Good pr L
omit [LC] in
theorem Good.closed {pr:Nat->List Nat}:∀ {L:List Nat},Good pr L->∀ i∈L,∀ j∈pr i,j∈L
 | [],_,i,hi,_,_=>by cases hi
 | k::L,h,i,hi,j,hj=>by
  rcases List.mem_cons.1 hi with rfl|hi
  ·exact qE _ (h.2.1 j hj)
  ·exact qE _ (h.2.2.closed i hi j hj)
omit [LC] in
theorem zbg {β:Type} {A:Nat->List (Nat×β)} {x:Nat} {b:List (Nat×β)} {pr:Nat->List Nat}:∀ {L:List Nat},Good pr L->(∀ i∈L,∀ j∈L,i<j->look (A i) x≠none->look (A j) x≠none->i∈pr j) ->
  ∀ j∈L,look (A j) x≠none->(∀ k∈L,look (A k) x≠none->k<=j)->look (cat A L b) x=look (A j) x
 | [],_,_,j,hj,_,_=>by cases hj
 | i::L,hg,hd,j,hj,hx,hm=>by
  simp only[cat];rw[qvr]
  cases hq:look (A i) x with
  | some v=>
   have hij:i<=j:=hm i qH (by rw[hq];simp)
   rcases Nat.lt_or_eq_of_le hij with h|h
   ·exfalso;have hjL:j∈L:=by
     rcases List.mem_cons.1 hj with e|e
     ·omega
     ·exact e
    exact hg.1 (hg.2.2.closed j hjL i (hd i qH j hj h (by rw[hq];simp) hx))
   ·subst h;rw[hq]
  | none=>
   have hjL:j∈L:=by
    rcases List.mem_cons.1 hj with e|e
    ·subst e;exact absurd hq hx
    ·exact e
   exact zbg hg.2.2 (fun a ha c hc=>hd a (qE _ ha) c (qE _ hc)) j hjL hx (fun k hk=>hm k (qE _ hk))
omit [LC] in
theorem q4l (p:Nat->Prop):∀ (L:List Nat),(∃ j∈L,p j)->∃ j∈L,p j/\∀ k∈L,p k->k<=j
 | [],h=>by obtain⟨j,hj,_⟩:=h;cases hj
 | i::L,h=>by
  by_cases hL:∃ j∈L,p j
  ·obtain⟨j,hj,pj,hm⟩:=q4l p L hL;by_cases hi:p i/\j<i
   ·exact⟨i,qH,hi.1,fun k hk pk=>by
     rcases List.mem_cons.1 hk with e|e
     ·omega
     ·have:=hm k e pk;omega⟩
   ·exact⟨j,qE _ hj,pj,fun k hk pk=>by
     rcases List.mem_cons.1 hk with e|e
     ·subst e;have:¬ j<k:=fun h=>hi ⟨pk,h⟩
      omega
     ·exact hm k e pk⟩
  ·obtain⟨j,hj,pj⟩:=h;rcases List.mem_cons.1 hj with e|e
   ·subst e;exact⟨j,qH,pj,fun k hk pk=>by
     rcases List.mem_cons.1 hk with e|e
     ·omega
     ·exact absurd ⟨k,e,pk⟩ hL⟩
   ·exact absurd ⟨j,e,pj⟩ hL
omit [LC] in
theorem q1t {β:Type} {A:Nat->List (Nat×β)} {x:Nat} {b:List (Nat×β)} {pr:Nat->List Nat} {L L':List Nat} (hg:Good pr L) (hg':Good pr L') (hd:∀ i j,(i∈L\/i∈L')->(j∈L\/j∈L')->i<j->look (A i) x≠none->look (A j) x≠none->i∈pr j)
  (hs:∀ j,look (A j) x≠none->(j∈L↔j∈L')):look (cat A L b) x=look (cat A L' b) x:=by
 by_cases hex:∃ j∈L,look (A j) x≠none
 ·obtain⟨j,hj,hx,hm⟩:=q4l (fun j=>look (A j) x≠none) L hex
  rw[zbg hg (fun i hi j hj=>hd i j (.inl hi) (.inl hj)) j hj hx hm,zbg hg' (fun i hi j hj=>hd i j (.inr hi) (.inr hj)) j ((hs j hx).1 hj) hx (fun k hk hk2=>hm k ((hs k hk2).2 hk) hk2)]
 ·have h1:∀ j∈L,look (A j) x=none:=fun j hj=>by
   cases hq:look (A j) x with
   | none=>rfl
   | some v=>exact absurd ⟨j,hj,by rw[hq];simp⟩ hex
  have h2:∀ j∈L',look (A j) x=none:=fun j hj=>by
   cases hq:look (A j) x with
   | none=>rfl
   | some v=>exact absurd ⟨j,(hs j (by rw[hq];simp)).2 hj,by rw[hq];simp⟩ hex
  rw[q5s h1,q5s h2]
omit [LC] in
theorem q53 {sel:List Nat} {pr:Nat->List Nat}:∀ (m:Nat),(∀ i,i<m->i∈sel->∀ j∈pr i,j<i/\j∈sel)->Good pr (((List.range' 0 m).filter (memN sel)).reverse)
 | 0,_=>trivial
 | m+1,h=>by
  have ih:=q53 m (fun i hi=>h i (by omega))
  rw[List.range'_1_concat,List.filter_append,List.reverse_append,wO];cases hm:memN sel m
  ·rw[List.filter_cons_of_neg (by simp[hm])];exact ih
  ·rw[List.filter_cons_of_pos hm];refine⟨fun hin => ?_,fun j hj => ?_,ih⟩
   ·have hin:m∈((List.range' 0 m).filter (memN sel)).reverse:=hin;simp only[List.mem_reverse,List.mem_filter,List.mem_range'_1]at hin;omega
   ·have:=h m (by omega) (qct.1 hm) j hj
    show j∈((List.range' 0 m).filter (memN sel)).reverse;rw[List.mem_reverse,List.mem_filter,List.mem_range'_1,qct];exact⟨⟨by omega,by omega⟩,this.2⟩
def efF (Rs:List HR) (Ms:List (Nat×Md)) (j:Nat):List (Nat×AV):=match look Ms j with
 | some md=>md.f
 | none=>match Rs[j]? with
  | some r=>[(r.dst,r.v)]
  | none=>[]
def efH (Rs:List HR) (Ms:List (Nat×Md)) (j:Nat):List (Nat×Box):=match look Ms j with
 | some md=>md.h
 | none=>match Rs[j]? with
  | some r=>r.new
  | none=>[]
def prd (Rs:List HR) (j:Nat):List Nat:=match Rs[j]? with
 | some r=>r.pred
 | none=>[]
def stE (Rs:List HR) (Ms:List (Nat×Md)) (L:List Nat) (s:St):St:={ s with fr:=cat (efF Rs Ms) L s.fr,hp:=cat (efH Rs Ms) L s.hp }
def qdy (Ms:List (Nat×Md)) (sel:List Nat):List HR->Nat->St->St
 | [],_,t=>t
 | r::rs,j,t=>qdy Ms sel rs (j+1) (bif memN sel j then (match look Ms j with
  | some md=>t.addM md
  | none=>t.addR r) else t)
omit [LC] in
theorem qwz {Rs:List HR} {Ms:List (Nat×Md)} {sel:List Nat}:∀ (rs:List HR) (j:Nat) (t:St),(∀ k,k<rs.length->Rs[j+k]? = rs[k]?)->qdy Ms sel rs j t=stE Rs Ms (((List.range' j rs.length).filter (memN sel)).reverse) t
 | [],j,t,_=>rfl
 | r::rs,j,t,h=>by
  have h0:Rs[j]? = some r:=by simpa using h 0 (by simp)
  rw[qdy,qwz rs (j+1) _ (fun k hk=>by have:=h (k+1) (by simp;omega);rw[show j+1+k=j+(k+1) by omega,this];simp),qL,List.range'_succ]
  cases hm:memN sel j
  ·rw[List.filter_cons_of_neg (by simp[hm])];rfl
  ·rw[List.filter_cons_of_pos hm,List.reverse_cons];simp only[stE,q4t,cat,qT,efF,efH,h0];cases look Ms j<;>rfl
def hidK (Cs:List (Nat×List Nat×List Nat)) (pred:List Nat) (i:Nat):List Nat:=match Cs with
 | []=>[]
 | (m,K,Pm)::r=>bif Nat.beq m i||memN pred m||memN Pm i then hidK r pred i else K++hidK r pred i
omit [LC] in
theorem zdq {pred:List Nat} {i x:Nat}:∀ {Cs:List (Nat×List Nat×List Nat)} {m:Nat} {K Pm:List Nat},(m,K,Pm)∈Cs->m≠i->m∉pred->i∉Pm->x∈K->x∈hidK Cs pred i
 | (m',K',P')::Cs,m,K,Pm,h,h1,h2,h3,h4=>by
  simp only[hidK];rcases List.mem_cons.1 h with e|h
  ·simp only[qP]at e;obtain⟨rfl,rfl,rfl⟩:=e;have hc:(Nat.beq m i||memN pred m||memN Pm i)=false:=by
    simp only[Bool.or_eq_false_iff];refine⟨⟨?_,?_⟩,?_⟩
    ·cases hb:Nat.beq m i
     ·rfl
     ·exact absurd (qN hb) h1
    ·cases hb:memN pred m
     ·rfl
     ·exact absurd (qct.1 hb) h2
    ·cases hb:memN Pm i
     ·rfl
     ·exact absurd (qct.1 hb) h3
   rw[hc];exact List.mem_append.2 (.inl h4)
  ·have ih:=zdq h h1 h2 h3 h4;cases Nat.beq m' i||memN pred m' || memN P' i
   ·exact List.mem_append.2 (.inr ih)
   ·exact ih
def in16 (lo k:Nat):Prop:=lo<=k/\k<lo+32
omit [LC] in
theorem qug {Rs:List HR}:∀ {es:List Edge} {l:List Nat},qn4 Rs es=some l->∀ e∈es,Region.binds .any e=true->∀ r,Rs[e.on]? = some r->∀ j∈r.pred,j∈l
 | [],l,_,e,he,_,_,_,_,_=>by cases he
 | e0::es,l,h,e,he,hb,r,hr,j,hj=>by
  simp only[qn4]at h;cases hb0:Region.binds .any e0<;>rw[hb0]at h<;>simp only[qT,qF]at h
  ·rcases List.mem_cons.1 he with rfl|he
   ·rw[hb0]at hb;cases hb
   ·exact qug h e he hb r hr j hj
  ·split at h
   ·rename_i r' l' h1 h2;simp only[qI]at h;subst h;rw[qt3];rcases List.mem_cons.1 he with rfl|he
    ·rw[hr]at h1;cases h1;exact .inl (qE _ hj)
    ·exact .inr (qug h2 e he hb r hr j hj)
   ·cases h
section
variable {P:Program} {vbr:World} {vbm:Gh} {vbo:List (Nat×Box)} {s:St}
structure OkX (ops:Array Oper) (s:St) (Rs:List HR) (Ms:List (Nat×Md)) (Cs:List (Nat×List Nat×List Nat)) (i:Nat) (o:Oper) (r:HR):Prop where
 get:Rs[i]? = some r
 room:qah (s.nx+32*r.dst) s.hp=true
 pred:qn4 (Rs.take i) o.after.toList=some r.pred
 fresh:qmv r.dst (Rs.take i)=true
 reads:qlr r.pred (qka ops o) (Rs.take i) 0=true
 writes:qjc ops r.dst r.pred i=true
 f:∀ e∈efF Rs Ms i,e.1=r.dst
 h:∀ e∈efH Rs Ms i,in16 (s.nx+32*r.dst) e.1\/(look Ms i≠none/\(∃ K Pm,(i,K,Pm)∈Cs/\e.1∈K/\∀ j∈Pm,j∈r.pred)/\((∃ b,look s.hp e.1=some b)\/∃ c rc,c∈r.pred/\Rs[c]? = some rc/\in16 (s.nx+32*rc.dst) e.1)/\∀ j,j<i->look Ms j≠none->j∈r.pred)
def qyy (s:St) (Rs:List HR) (Ms:List (Nat×Md)) (Cs:List (Nat×List Nat×List Nat)) (i:Nat) (r:HR):St:=(qdy Ms r.pred (Rs.take i) 0 s).hide (hidK Cs r.pred i)
def StX (P:Program) (ops:Array Oper) (s:St) (Rs:List HR) (Ms:List (Nat×Md)) (Cs:List (Nat×List Nat×List Nat)) (i:Nat) (o:Oper) (r:HR):Prop:=
 (look Ms i=none/\o.dst=some r.dst/\r.dst<s.n/\∃ ps,∃ c:Dec,qt4 P ops (qyy s Rs Ms Cs i r) c o=some (ps,r.v,r.new)/\Alls ps) \/
 (∃ ps d md,look Ms i=some md/\o.guard=none/\(∀ t,o.dst=some t->t=r.dst/\t<s.n)/\zan P (qyy s Rs Ms Cs i r) d o=some (ps,md)/\Alls ps)
theorem zk7 {ops:Array Oper} {n:Nat} {Rs:List HR} {Ms:List (Nat×Md)} {Cs:List (Nat×List Nat×List Nat)} {N:Act->World->Prop} (hn:n<=ops.size) (hed:qia ops.toList 0=true) (ht:qk6 ops n=true) (vbu:Rs.length=n)
  (hO:∀ i o,i<n->ops[i]? = some o->∃ r,OkX ops s Rs Ms Cs i o r/\StX P ops s Rs Ms Cs i o r)
  (htail:∀ (G:Gh) (a:Act) (w:World) (listed:Array Bool),Rel vbr vbm vbo G (qdy Ms (List.range n) Rs 0 s) a w->Upto ops n listed->dAny P ops N (ops.size-n) listed a w) :
  ∀ (g:Nat) (L:List Nat) (listed:Array Bool) (G:Gh) (a:Act) (w:World),ops.size=g+L.length->Inv ops n L listed->Good (prd Rs) L->Rel vbr vbm vbo G (stE Rs Ms L s) a w->dAny P ops N g listed a w:=by
 have hop:∀ i,i<n->ops[i]? = some (ops[i]?.getD default):=fun i hi=>by
  have:i<ops.size:=by omega
  simp[this]
 -- predecessors
 have hpreds:∀ {L:List Nat},(∀ i∈L,∀ o,ops[i]? = some o->∀ e∈o.after,Region.binds .any e=true->e.on∈L)->∀ (i:Nat) (o:Oper) (r:HR),i<n->ops[i]? = some o->Rs[i]? = some r->(∀ e∈o.after,Region.binds .any e=true->e.on∈L)->(∀ j∈r.pred,j∈L/\j<i):=by
  intro L hcl i
  induction i using Nat.strongRecOn with
  | ind i ih=>
   intro o r hi ho hr hall j hj;obtain⟨r',ok,_⟩:=hO i o hi ho;have h1:=ok.get;rw[hr]at h1;injection h1 with h1;subst h1
   obtain⟨e,he,hb,hje⟩:=(qrw ok.pred).2 j hj;have hlt:=qb3 hed i o (by simpa using ho) e (by simpa using he) hb
   have hlt':e.on<i:=by omega
   have heL:=hall e (by simpa using he) hb
   rcases hje with rfl|⟨re,hre,hje⟩
   ·exact⟨heL,hlt'⟩
   ·have hre':Rs[e.on]? = some re:=by rw[List.getElem?_take]at hre;rw[qX hlt']at hre;exact hre
    have hoe:ops[e.on]? = some ops[e.on]:=by simp
    have:=ih e.on hlt' ops[e.on] re (by omega) hoe hre' (hcl e.on heL _ hoe) j hje
    exact⟨this.1,by omega⟩
 have hlt:∀ (i:Nat) (r:HR),i<n->Rs[i]? = some r->∀ j∈r.pred,j<i:=fun i r hi hr j hj=>by
  refine (hpreds (L:=List.range n) (fun k hk o ho e he hb => ?_) i _ r hi (hop i hi) hr (fun e he hb => ?_) j hj).2
  ·have:=qb3 hed k o (by simpa using ho) e (by simpa using he) hb
   have hk':=List.mem_range.1 hk;exact List.mem_range.2 (by omega)
  ·have:=qb3 hed i _ (by simpa using hop i hi) e (by simpa using he) hb
   exact List.mem_range.2 (by omega)
 have htrans:∀ (i:Nat) (r:HR),i<n->Rs[i]? = some r->∀ k∈r.pred,∀ rk:HR,Rs[k]? = some rk->∀ c∈rk.pred,c∈r.pred:=by
  intro i
  induction i using Nat.strongRecOn with
  | ind i ih=>
   intro r hi hr k hk rk hrk c hc;obtain⟨r',ok,_⟩:=hO i _ hi (hop i hi);have h1:=ok.get;rw[hr]at h1;injection h1 with h1;subst h1
   obtain⟨e,he,hb,hje⟩:=(qrw ok.pred).2 k hk;have hle:=qb3 hed i _ (by simpa using hop i hi) e (by simpa using he) hb
   have hle':e.on<i:=by omega
   rcases hje with rfl|⟨re,hre,hje⟩
   ·exact qug ok.pred e he hb rk (by rw[List.getElem?_take,qX hle'];exact hrk) c hc
   ·have hre':Rs[e.on]? = some re:=by rw[List.getElem?_take,qX hle']at hre;exact hre
    exact qug ok.pred e he hb re hre c (ih e.on hle' re (by omega) hre' k hje rk hrk c hc)
 have hdst:∀ (i j:Nat) (r r':HR),i<n->j<n->Rs[i]? = some r->Rs[j]? = some r'->r.dst=r'.dst->i=j:=fun i j r r' hi hj hr hr' hd=>by
  rcases Nat.lt_trichotomy i j with h|h|h
  ·obtain⟨r2,ok,_⟩:=hO j _ hj (hop j hj);have h1:=ok.get;rw[hr']at h1;injection h1 with h1;subst h1
   exact absurd hd (qig.1 ok.fresh r (List.mem_of_getElem? (i:=i) (by rw[List.getElem?_take,qX h];exact hr)))
  ·exact h
  ·obtain⟨r2,ok,_⟩:=hO i _ hi (hop i hi);have h1:=ok.get;rw[hr]at h1;injection h1 with h1;subst h1
   exact absurd hd.symm (qig.1 ok.fresh r' (List.mem_of_getElem? (i:=j) (by rw[List.getElem?_take,qX h];exact hr')))
 have hrs:∀ i,i<n->∃ r,Rs[i]? = some r/\OkX ops s Rs Ms Cs i (ops[i]?.getD default) r:=fun i hi=>by
  obtain⟨r,ok,_⟩:=hO i _ hi (hop i hi);exact⟨r,ok.get,ok⟩
 -- two that touch the same are ordered
 have old:∀ (i:Nat) (r:HR) (x:Nat),OkX ops s Rs Ms Cs i (ops[i]?.getD default) r->in16 (s.nx+32*r.dst) x->look s.hp x=none:=fun i r x ok hx=>by
  cases hq:look s.hp x with
  | none=>rfl
  | some b=>
   have:=qj7.1 ok.room _ (qu3 hq);unfold in16 at hx;simp only at this;omega
 have hC1:∀ (x i j:Nat),i<n->j<n->i<j->look (efH Rs Ms i) x≠none->look (efH Rs Ms j) x≠none->i∈prd Rs j:=fun x i j hi hj hij h1 h2=>by
  obtain⟨ri,gi,oki⟩:=hrs i hi;obtain⟨rj,gj,okj⟩:=hrs j hj;have hpj:prd Rs j=rj.pred:=by unfold prd;rw[gj]
  rw[hpj];obtain⟨e1,m1,rfl⟩:=qmt h1;obtain⟨e2,m2,hx⟩:=qmt h2;rcases oki.h e1 m1 with a1|⟨n1,_,c1,_⟩
  ·rcases okj.h e2 m2 with a2|⟨n2,_,c2,_⟩
   ·rw[hx]at a2;exact absurd (hdst i j ri rj hi hj gi gj (by unfold in16 at a1 a2;omega)) (by omega)
   ·rw[hx]at c2;rcases c2 with ⟨b,hb⟩|⟨c,rc,c3,c4,c5⟩
    ·rw[old i ri _ oki a1]at hb;cases hb
    ·have hcn:c<n:=by have:=hlt j rj hj gj c c3;omega
     have:c=i:=hdst c i rc ri hcn hi c4 gi (by unfold in16 at a1 c5;omega)
     exact this▸c3
  ·rcases okj.h e2 m2 with a2|⟨n2,_,c2,c6⟩
   ·rw[hx]at a2;rcases c1 with ⟨b,hb⟩|⟨c,rc,c3,c4,c5⟩
    ·rw[old j rj _ okj a2]at hb;cases hb
    ·have hcn:c<i:=hlt i ri hi gi c c3;have:c=j:=hdst c j rc rj (by omega) hj c4 gj (by unfold in16 at a2 c5;omega)
     omega
   ·exact c6 i hij n1
 have hC2:∀ (d i j:Nat),i<n->j<n->i<j->look (efF Rs Ms i) d≠none->look (efF Rs Ms j) d≠none->i∈prd Rs j:=fun d i j hi hj hij h1 h2=>by
  obtain⟨ri,gi,oki⟩:=hrs i hi;obtain⟨rj,gj,okj⟩:=hrs j hj;obtain⟨e1,m1,rfl⟩:=qmt h1;obtain⟨e2,m2,hx⟩:=qmt h2;have:=oki.f e1 m1;have:=okj.f e2 m2;exact absurd (hdst i j ri rj hi hj gi gj (by omega)) (by omega)
 -- all have run
 have fin:∀ (L:List Nat) (listed:Array Bool) (G:Gh) (a:Act) (w:World),(∀ i,i<n->i∈L)->Inv ops n L listed->Good (prd Rs) L->Rel vbr vbm vbo G (stE Rs Ms L s) a w->dAny P ops N (ops.size-n) listed a w:=by
  intro L listed G a w hall hinv hgood hr;refine htail G a w listed (hr.eqv ?_) ⟨hinv.size,fun j hj=>by rw[hinv.iff j hj];exact⟨fun h=>hinv.lt j h,fun h=>hall j h⟩⟩
  rw[qwz (Rs:=Rs) Rs 0 s (fun k _=>by rw[wO]),vbu]
  have hmem:∀ j,j∈((List.range' 0 n).filter (memN (List.range n))).reverse↔j∈L:=fun j=>by
   rw[List.mem_reverse,List.mem_filter,qct,List.mem_range'_1,List.mem_range];exact⟨fun h=>hall j h.2,fun h=>by have:=hinv.lt j h;exact⟨⟨by omega,by omega⟩,this⟩⟩
  have hg2:Good (prd Rs) (((List.range' 0 n).filter (memN (List.range n))).reverse):=q53 n (fun i hi _ j hj=>by
   obtain⟨r,gr,_⟩:=hrs i hi;have hp:prd Rs i=r.pred:=by unfold prd;rw[gr]
   rw[hp]at hj;have:=hlt i r hi gr j hj;exact⟨this,List.mem_range.2 (by omega)⟩)
  have hb:∀ i,(i∈L\/i∈((List.range' 0 n).filter (memN (List.range n))).reverse)->i<n:=fun i h=>by
   rcases h with h|h
   ·exact hinv.lt i h
   ·exact hinv.lt i ((hmem i).1 h)
  exact⟨rfl,rfl,fun d=>q1t hgood hg2 (fun i j hi hj=>hC2 d i j (hb i hi) (hb j hj)) (fun j _=>(hmem j).symm),fun x=>q1t hgood hg2 (fun i j hi hj=>hC1 x i j (hb i hi) (hb j hj)) (fun j _=>(hmem j).symm),rfl⟩
 intro g
 induction g with
 | zero=>
  intro L listed G a w hg hinv hgood hr;have h1:=qsr n L hinv.nodup hinv.lt;have hnn:n=ops.size:=by omega
  have hall:∀ i,i<n->i∈L:=fun i hi=>by
   by_cases hm:i∈L
   ·exact hm
   ·have:=qsr n (i::L) (List.nodup_cons.2 ⟨hm,hinv.nodup⟩) (fun j hj=>by
     rcases List.mem_cons.1 hj with rfl|hj;· exact hi
     ·exact hinv.lt j hj)
    simp at this;omega
  have:=fin L listed G a w hall hinv hgood hr
  rwa [hnn,Nat.sub_self]at this
 | succ g ih=>
  intro L listed G a w hg hinv hgood hr;by_cases hall:∀ i,i<n->i∈L
  ·have h1:=qsr n L hinv.nodup hinv.lt;have h2:=q5t n L hall;have:=fin L listed G a w hall hinv hgood hr
   rwa [show ops.size-n=g+1 by omega]at this
  ·have hex:∃ i,i<n/\i∉L/\∀ j,j<i->j∈L:=by
    have:∃ i,i<n/\i∉L:=by
     simpa using hall
    obtain⟨i,hi,hm⟩:=this;clear hall
    induction i using Nat.strongRecOn with
    | ind i ih=>
     by_cases hsm:∀ j,j<i->j∈L
     ·exact⟨i,hi,hm,hsm⟩
     ·have:∃ j,j<i/\j∉L:=by simpa using hsm
      obtain⟨j,hj,hjm⟩:=this;exact ih j hj (by omega) hjm
   obtain⟨i0,hi0,hm0,hsm0⟩:=hex;have hi0s:i0<ops.size:=by omega
   have h0r:i0∈Region.ready .any ops listed:=by
    refine qod.2 ⟨hi0s,?_,ops[i0],by simp,fun e he hb => ?_⟩
    ·cases hq:listed.getD i0 true
     ·rfl
     ·exact absurd ((hinv.iff i0 hi0s).1 hq) hm0
    ·have:=qb3 hed i0 ops[i0] (by simp) e he hb
     have hlt:e.on<i0:=by omega
     exact (hinv.getD_false (by omega)).2 (hsm0 _ hlt)
   refine⟨fun hnil=>(by rw[hnil]at h0r;cases h0r),fun i hi => ?_⟩
   obtain⟨i1,i2,o,i3,i4⟩:=qod.1 hi;have hiL:i∉L:=fun h=>by rw[(hinv.iff i i1).2 h]at i2;cases i2
   have hin:i<n:=by
    rcases Nat.lt_or_ge i n with h|h
    ·exact h
    ·rcases Nat.lt_or_ge n i with h|h
     ·obtain⟨e,he1,he2,he3⟩:=qxw (qus ht h i3);have:=i4 e he1 he3;rw[he2,hinv.getD_false (by omega)]at this
      have:=hinv.lt _ this;omega
     ·have:i=n:=by omega
      subst this;exact absurd (qxk ht i3 hinv.closed (fun e he hb=>by
       have hlt:=qb3 hed i o (by simpa using i3) e he hb
       exact (hinv.getD_false (by omega)).1 (i4 e he hb)) i0 hi0) hm0
   have hedge:∀ e∈o.after,Region.binds .any e=true->e.on∈L:=fun e he hb=>by
    have hlt:=qb3 hed i o (by simpa using i3) e he hb
    exact (hinv.getD_false (by omega)).1 (i4 e he hb)
   obtain⟨r,ok,st⟩:=hO i o hin i3;have gr:=ok.get;have hpred:=hpreds hinv.closed i o r hin i3 gr hedge;have hpr:prd Rs i=r.pred:=by unfold prd;rw[gr]
   have hgood':Good (prd Rs) (i::L):=⟨hiL,fun j hj=>by rw[hpr]at hj;exact (hpred j hj).1,hgood⟩
   have hnext:Inv ops n (i::L) (listed.setIfInBounds i true):=by
    refine⟨List.nodup_cons.2 ⟨hiL,hinv.nodup⟩,fun j hj => ?_,by simp[hinv.size],fun j hj => ?_,fun j hj oj hoj e he hb => ?_⟩
    ·rcases List.mem_cons.1 hj with rfl|hj
     ·exact hin
     ·exact hinv.lt j hj
    ·rw[Array.getD_eq_getD_getElem?,Array.getElem?_setIfInBounds];by_cases hij:i=j
     ·subst hij;simp[hinv.size,i1]
     ·rw[qW hij];have:=hinv.iff j hj;rw[Array.getD_eq_getD_getElem?]at this;rw[this,wE];exact⟨fun h => .inr h,fun h=>h.resolve_left (fun e=>hij e.symm)⟩
    ·rcases List.mem_cons.1 hj with rfl|hj
     ·rw[i3]at hoj;injection hoj with hoj;subst hoj
      exact qE _ (hedge e he hb)
     ·exact qE _ (hinv.closed j hj oj hoj e he hb)
   have htk:(Rs.take i).length=i:=by simp;omega
   have hlen':∀ k,k<(Rs.take i).length->Rs[0+k]? = (Rs.take i)[k]? := fun k hk=>by
    rw[List.getElem?_take,qX (by rw[htk]at hk;omega),wO]
   have hseen:qyy s Rs Ms Cs i r=(stE Rs Ms (((List.range' 0 i).filter (memN r.pred)).reverse) s).hide (hidK Cs r.pred i):=by
    unfold qyy;rw[qwz (Rs:=Rs) (Rs.take i) 0 s hlen',htk]
   have hsel:∀ j,j∈((List.range' 0 i).filter (memN r.pred)).reverse↔j∈r.pred:=fun j=>by
    rw[List.mem_reverse,List.mem_filter,qct];refine⟨fun h=>h.2,fun h=>⟨?_,h⟩⟩
    rw[List.mem_range'_1];exact⟨by omega,by have:=(hpred j h).2;omega⟩
   have hgsel:Good (prd Rs) (((List.range' 0 i).filter (memN r.pred)).reverse):=q53 i (fun k hk hks j hj=>by
    obtain⟨rk,gk,_⟩:=hrs k (by omega)
    have hpk:prd Rs k=rk.pred:=by unfold prd;rw[gk]
    rw[hpk]at hj;exact⟨hlt k rk (by omega) gk j hj,htrans i r hin gr k hks rk gk j hj⟩)
   have hbn:∀ k,(k∈((List.range' 0 i).filter (memN r.pred)).reverse\/k∈L)->k<n:=fun k h=>by
    rcases h with h|h
    ·have:=(hpred k ((hsel k).1 h)).2;omega
    ·exact hinv.lt k h
   -- an operation that has run already,and is no predecessor,writes nothing that is looked at
   have late:∀ (j:Nat) (rj:HR),Rs[j]? = some rj->j∈L->rj.dst∈qka ops o->j∈r.pred:=by
    intro j rj hj h hd;have hjn:=hinv.lt j h;have hji:j≠i:=fun e=>hiL (e▸h)
    rcases Nat.lt_or_gt_of_ne hji with hlt'|hgt
    ·rcases quk ok.reads j rj (by rw[List.getElem?_take,qX hlt'];exact hj) with h'|h'
     ·simpa using h'
     ·exact absurd hd h'
    ·have hoj:=hop j hjn;obtain⟨rj',okj,_⟩:=hO j _ hjn hoj;have k1:=okj.get;rw[hj]at k1;injection k1 with k1;subst k1
     rcases qtb okj.writes i o hgt i3 with h'|h'
     ·have:=hpreds hinv.closed j _ rj hjn hoj hj (hinv.closed j h _ hoj) i h';exact absurd this.1 hiL
     ·exact absurd hd h'
   have hreads:∀ d∈qka ops o,look (qyy s Rs Ms Cs i r).fr d=look (stE Rs Ms L s).fr d:=fun d hd=>by
    rw[hseen];show look (cat (efF Rs Ms) _ s.fr) d=look (cat (efF Rs Ms) L s.fr) d;refine q1t hgsel hgood (fun a b ha hb=>hC2 d a b (hbn a ha) (hbn b hb)) (fun j hj=>⟨fun h=>(hpred j ((hsel j).1 h)).1,fun h=>(hsel j).2 ?_⟩)
    obtain⟨rj,gj,okj⟩:=hrs j (hinv.lt j h);obtain⟨e,he,rfl⟩:=qmt hj;exact late j rj gj h (by rw[← okj.f e he];exact hd)
   have hhp:∀ x b,look (qyy s Rs Ms Cs i r).hp x=some b->look (stE Rs Ms L s).hp x=some b:=fun x b hb=>by
    rw[hseen]at hb;obtain⟨b1,b2⟩:=q23 hb;have b1':look (cat (efH Rs Ms) (((List.range' 0 i).filter (memN r.pred)).reverse) s.hp) x=some b:=b1;rw[← b1'];refine (q1t hgsel hgood (fun a b ha hb=>hC1 x a b (hbn a ha) (hbn b hb)) (fun j hj=>⟨fun h=>(hpred j ((hsel j).1 h)).1,fun h=>(hsel j).2 ?_⟩)).symm
    have hjn:=hinv.lt j h;obtain⟨rj,gj,okj⟩:=hrs j hjn;obtain⟨e,he,hex⟩:=qmt hj;by_cases hjp:j∈r.pred
    ·exact hjp
    ·exfalso;have hji:j≠i:=fun e=>hiL (e▸h)
     rcases okj.h e he with a1|⟨_,⟨K,Pm,k1,k2,k3⟩,_,_⟩
     ·rw[hex]at a1;by_cases hk:∃ k∈((List.range' 0 i).filter (memN r.pred)).reverse,look (efH Rs Ms k) x≠none
      ·obtain⟨k,hk1,hk2⟩:=hk;have hkp:=(hsel k).1 hk1;have hkn:k<n:=hbn k (.inl hk1);obtain⟨rk,gk,okk⟩:=hrs k hkn;obtain⟨e2,he2,hex2⟩:=qmt hk2;rcases okk.h e2 he2 with a2|⟨_,_,c1,_⟩
       ·rw[hex2]at a2;have:j=k:=hdst j k rj rk hjn hkn gj gk (by unfold in16 at a1 a2;omega)
        exact hjp (this▸hkp)
       ·rw[hex2]at c1;rcases c1 with ⟨b',hb'⟩|⟨c,rc,c3,c4,c5⟩
        ·rw[old j rj x okj a1]at hb';cases hb'
        ·have hcn:c<n:=by have:=hlt k rk hkn gk c c3;omega
         have:c=j:=hdst c j rc rj hcn hjn c4 gj (by unfold in16 at a1 c5;omega)
         exact hjp (htrans i r hin gr k hkp rk gk j (this▸c3))
      ·have hnone:∀ k∈((List.range' 0 i).filter (memN r.pred)).reverse,look (efH Rs Ms k) x=none:=fun k hk1=>by
        cases hq:look (efH Rs Ms k) x with
        | none=>rfl
        | some v=>exact absurd ⟨k,hk1,by rw[hq];simp⟩ hk
       rw[q5s hnone,old j rj x okj a1]at b1';cases b1'
     ·refine b2 (zdq k1 hji hjp (fun hiP=>hiL ?_) (hex▸k2))
      exact hgood.closed j h i (by unfold prd;rw[gj];exact k3 i hiP)
   have hroom:qah (s.nx+32*r.dst) (stE Rs Ms L s).hp=true:=by
    rw[qj7];intro e he;rcases zf9 he with ⟨j,hj,he⟩|he
    ·have hjn:=hinv.lt j hj;have hji:j≠i:=fun e=>hiL (e▸hj)
     obtain⟨rj,gj,okj⟩:=hrs j hjn;rcases okj.h e he with a1|⟨_,_,c1,_⟩
     ·have:rj.dst≠r.dst:=fun hq=>hji (hdst j i rj r hjn hin gj gr hq)
      unfold in16 at a1;omega
     ·rcases c1 with ⟨b',hb'⟩|⟨c,rc,c3,c4,c5⟩
      ·exact qj7.1 ok.room (e.1,b') (qu3 hb')
      ·have hcL:c∈L:=hgood.closed j hj c (by unfold prd;rw[gj];exact c3)
       have hcn:=hinv.lt c hcL;have:rc.dst≠r.dst:=fun hq=>hiL ((hdst c i rc r hcn hin c4 gr hq)▸hcL)
       unfold in16 at c5;omega
    ·exact qj7.1 ok.room _ he
   have hsees:(∀ d,o.dst=some d->d=r.dst)->Sees o (qyy s Rs Ms Cs i r) (stE Rs Ms L s):=fun hd=>by
    refine⟨by rw[hseen];rfl,fun x hx => ?_,hhp,fun d hd' => ?_⟩
    ·cases x with
     | tmp t=>
      exact hreads t (by simp only[qka];refine List.mem_append.2 (.inl ?_);rw[List.mem_filterMap];exact⟨.tmp t,hx,rfl⟩)
     | _=>rfl
    ·rw[hd d hd'];exact hroom
   rcases st with ⟨s1,s2,s3,ps,c,s4,s5⟩|⟨ps,d,md,s1,s2,s3,s4,s5⟩
   ·have h9':=q2w (hsees (fun d hd=>by rw[s2]at hd;injection hd with hd;exact hd.symm)) hreads s4
    have hadd:(stE Rs Ms L s).add o.dst r.v r.new=some (stE Rs Ms (i::L) s):=by
     rw[s2];have hbl:Nat.blt r.dst s.n=true:=by simpa using s3
     simp only[St.add,stE,hbl,qT,cat,efF,efH,s1,gr,wM]
    exact q75 hr i3 h9' s5 hadd (fun G' a' w' hr'=>ih (i::L) _ G' a' w' (by simp;omega) hnext hgood' hr')
   ·have h9':=zd7 (hsees (fun d hd=>(s3 d hd).1)) (by rw[hseen];rfl) s4
    refine q5d i3 (by simp[Region.wanted,s2]) (ziy hr (q9l h9') s5 (fun G' a' w' hr'=>ih (i::L) _ G' a' w' (by simp;omega) hnext hgood' ?_))
    have:(stE Rs Ms L s).addM md=stE Rs Ms (i::L) s:=by
     simp only[St.addM,stE,cat,efF,efH,s1]
    rw[← this];exact hr'
end
end Go.Sym
namespace Go.Sym
open Go.RowKit
variable [LC]
mutual
def q6a:AV->List Nat
 | .ptr b _=>[b]
 | .own k=>[k]
 | .oel k _ _ _=>[k]
 | .osl k _ _=>[k]
 | .iface _ x=>q6a x
 | .agg xs=>qw0 xs
 | .fn _ _ xs=>qw0 xs
 | _=>[]
def qw0:List AV->List Nat
 | []=>[]
 | x::xs=>q6a x++qw0 xs
end
def zda (s:St):List Nat->List Nat
 | []=>[]
 | k::ks=>(match look s.hp k with
  | some (.cells cs _)=>qw0 cs
  | _=>[])++zda s ks
def zpz (lo:Nat):List Nat:=[lo,lo+1,lo+2,lo+3,lo+4,lo+5,lo+6,lo+7,lo+8,lo+9,lo+10,lo+11,lo+12,lo+13,lo+14,lo+15]
def q68 (s:St) (l:List Oper):Nat->Operand->List Nat
 | 0,_=>[]
 | n+1,x=>match x with
  | .tmp t=>match l.find? (fun o=>match o.dst with|some d=>Nat.beq d t|none=>false) with
   | some o=>match o.op with
    | .move y=>q68 s l n y
    | .assign y=>q68 s l n y
    | .fieldAddr _ y _=>q68 s l n y
    | .indexAddr _ y _=>q68 s l n y
    | .load _ y=>zda s (q68 s l n y)
    | .alloc _=>[s.nx+32*t]
    | .box _ _=>[s.nx+32*t]
    | .buildSlice _ _ _=>[s.nx+32*t]
    | .call { callee := .builtin .append,args:=_,argTypes:=_ }=>[s.nx+32*t]
    | .call _=>zpz (s.nx+32*t)
    | _=>[]
   | none=>match s.ev x with
    | some v=>q6a v
    | none=>[]
  | x=>match s.ev x with
   | some v=>q6a v
   | none=>[]
def q55 (s:St) (l:List Oper):List Operand->List Nat
 | []=>[]
 | x::xs=>q68 s l 8 x++q55 s l xs
def zoh (f:FuncId):List Ent->Bool
 | []=>false
 | e::es=>(q4g f e.key && !(match e.hp with|[]=>true|_=>false))||zoh f es
def z49 (tb:Tb) (s:St) (l:List Oper) (o:Oper):List Nat:=match o.guard with
 | some _=>[]
 | none=>match o.op with
  | .store _ x _=>q68 s l 8 x
  | .call { callee := .builtin .append,args,argTypes:=_ }=>match args.toList with
   | x::_=>q68 s l 8 x
   | []=>[]
  | .call { callee := .value g,args,argTypes:=_ }=>match s.ev g with
   | some (.fn (.func f) [] cap)=>bif zoh f tb.ents then (q55 s l args.toList++qw0 cap)++zda s (q55 s l args.toList++qw0 cap) else []
   | _=>[]
  | _=>[]
def ztp (s:St) (l:List Oper):Nat->Operand->List Nat
 | 0,_=>[]
 | n+1,x=>match x with
  | .tmp t=>match l.find? (fun o=>match o.dst with|some d=>Nat.beq d t|none=>false) with
   | some o=>match o.op with
    | .move y=>ztp s l n y
    | .assign y=>ztp s l n y
    | .load _ y=>zda s (q68 s l n y)
    | .build _ parts=>q55 s l (parts.toList.map (·.2))
    | _=>[]
   | none=>match s.ev x with
    | some (.agg xs)=>qx3 xs
    | _=>[]
  | _=>[]
def zom (s:St) (l:List Oper):List Operand->List Nat
 | []=>[]
 | x::xs=>ztp s l 8 x++zom s l xs
def preK (s:St) (all:List Oper):List Oper->List Nat
 | []=>[]
 | o::l=>(match o.op with
  | .call { callee := .value g,args,argTypes:=_ }=>match s.ev g with
   | some (.fn (.func _) [] _)=>zom s all args.toList
   | _=>[]
  | _=>[])++preK s all l
def zfx:List Oper->List HR->List (List Nat)
 | [],_=>[]
 | o::l,Rs=>match qn4 Rs o.after.toList with
  | some p=>p::zfx l (Rs++[⟨0,.undef,[],p⟩])
  | none=>[]
def ztk (tb:Tb) (s:St) (all:List Oper):List Oper->List (List Nat)->Nat->List (Nat×List Nat×List Nat)
 | o::l,p::ps,i=>match z49 tb s all o with
  | []=>ztk tb s all l ps (i+1)
  | K=>(i,K,p)::ztk tb s all l ps (i+1)
 | _,_,_=>[]
def zly (i:Nat):List (Nat×List Nat×List Nat)->Option (List Nat×List Nat)
 | []=>none
 | (m,r)::l=>bif Nat.beq m i then some r else zly i l
def subN (l pred:List Nat):Bool:=match l with
 | []=>true
 | x::xs=>memN pred x&&subN xs pred
def subM (pred:List Nat):List (Nat×Md)->Bool
 | []=>true
 | (m,_)::r=>memN pred m&&subM pred r
def zcp (s:St) (Rs:List HR) (k:Nat):List Nat->Bool
 | []=>false
 | c::cs=>(match Rs[c]? with
  | some r=>Nat.ble (s.nx+32*r.dst) k&&Nat.blt k (s.nx+32*r.dst+32)
  | none=>false)||zcp s Rs k cs
def qym (s:St) (Rs:List HR) (pred:List Nat) (dst:Nat) (K:List Nat):List (Nat×Box)->Bool
 | []=>true
 | e::r=>((Nat.ble (s.nx+32*dst) e.1&&Nat.blt e.1 (s.nx+32*dst+32))||(memN K e.1&&((match look s.hp e.1 with|some _=>true|none=>false)||zcp s Rs e.1 pred)))&&qym s Rs pred dst K r
def qy7 (dst:Nat):List (Nat×AV)->Bool
 | []=>true
 | e::r=>Nat.beq e.1 dst&&qy7 dst r
def noMd (Ms:List (Nat×Md)) (j:Nat):Bool:=match look Ms j with
 | some _=>false
 | none=>true
def q1b (Ms:List (Nat×Md)):List Nat->List Nat
 | []=>[]
 | x::xs=>bif noMd Ms x then x::q1b Ms xs else q1b Ms xs
def dstX (s:St) (i:Nat):Option Tmp->Nat
 | some t=>t
 | none=>s.n+i
def zsy (s:St):Option Tmp->Bool
 | some t=>Nat.blt t s.n
 | none=>true
def ze3 {R:Type} (P:Program) (tb:Tb) (ops:Array Oper) (s:St) (Cs:List (Nat×List Nat×List Nat)) (fin:List (Nat×Md)->List HR->List (Nat×Bool)->Option R):List Oper->Nat->List HR->List (Nat×Bool)->List (Nat×Md)->Option R
 | [],_,Rs,kn,Ms=>fin Ms Rs kn
 | o::l,i,Rs,kn,Ms=>match qn4 Rs o.after.toList with
  | none=>none
  | some pred=>bif zsy s o.dst&&qah (s.nx+32*dstX s i o.dst) s.hp&&qmv (dstX s i o.dst) Rs&&qlr pred (qka ops o) Rs 0&&qjc ops (dstX s i o.dst) pred i then
    match zly i Cs,o.guard with
    | some (K,Pm),none=>match areq P tb ((qdy Ms pred Rs 0 s).hide (hidK Cs pred i)) o.op with
     | some q=>q.K fun d=>match aadd P ((qdy Ms pred Rs 0 s).hide (hidK Cs pred i)) d o,o.dst with
      | some (_,v,new),some tt=>ze3 P tb ops s Cs fin l (i+1) (Rs++[⟨tt,v,new,pred⟩]) kn Ms
      | _,_=>match zan P ((qdy Ms pred Rs 0 s).hide (hidK Cs pred i)) d o with
       | some (_,md)=>bif qym s Rs pred (dstX s i o.dst) K md.h&&qy7 (dstX s i o.dst) md.f&&subN Pm pred&&subM pred Ms then
         ze3 P tb ops s Cs fin l (i+1) (Rs++[⟨dstX s i o.dst,.undef,[],pred⟩]) kn ((i,md)::Ms) else none
       | none=>none
     | none=>none
    | _,_=>match o.dst with
     | some d=>opH P tb ops ((qdy Ms pred Rs 0 s).hide (hidK Cs pred i)) (q1b Ms pred) Rs kn o fun v new kn'=>ze3 P tb ops s Cs fin l (i+1) (Rs++[⟨d,v,new,pred⟩]) kn' Ms
     | none=>none
   else none
def zqp {R:Type} (P:Program) (tb:Tb) (ops:Array Oper) (s:St) (Cs:List (Nat×List Nat×List Nat)) (K:St->Option R):Option R:=
 bif qia ops.toList 0&&qk6 ops (qjh ops)&&Nat.ble (qjh ops) ops.toList.length then
  ze3 P tb ops s Cs (fun Ms Rs kn=>opsR P tb ops (ops.toList.drop (qjh ops)) (q9c Rs kn kn (qdy Ms (List.range (qjh ops)) Rs 0 s)) K) (ops.toList.take (qjh ops)) 0 [] [] []
 else none
def ztv {R:Type} (P:Program) (tb:Tb) (ops:Array Oper) (s:St) (K:St->Option R):Option R:=
 match ztk tb s (ops.toList.take (qjh ops)) (ops.toList.take (qjh ops)) (zfx (ops.toList.take (qjh ops)) []) 0 with
 | []=>zst P tb ops s K
 | Cs=>zqp P tb ops s Cs K
def zrn {R:Type} (P:Program) (tb:Tb) (ops:Array Oper) (s:St) (K:St->Option R):Option R:=
 ztv P tb ops (frzL (preK s (ops.toList.take (qjh ops)) (ops.toList.take (qjh ops))) s) K
section
variable {P:Program} {vbr:World} {vbm:Gh} {vbo:List (Nat×Box)} {G:Gh} {a:Act} {w:World} {R:Type} {tb:Tb} {s:St}
omit [LC] in
theorem zbo {Ms:List (Nat×Md)} {j:Nat}:noMd Ms j=true↔look Ms j=none:=by
 unfold noMd;cases look Ms j<;>simp
omit [LC] in
theorem qw8 {Ms:List (Nat×Md)} {j:Nat}:∀ {l:List Nat},j∈q1b Ms l↔j∈l/\look Ms j=none
 | []=>by simp[q1b]
 | x::xs=>by
  simp only[q1b];cases hb:noMd Ms x
  ·simp only[qF,qw8 (l:=xs),wE];refine⟨fun h=>⟨.inr h.1,h.2⟩,fun ⟨h1,h2⟩=>⟨h1.resolve_left (fun e => ?_),h2⟩⟩
   subst e;rw[zbo.2 h2]at hb;cases hb
  ·have:=zbo.1 hb;simp only[qT,wE,qw8 (l:=xs)];refine⟨fun h => ?_,fun ⟨h1,h2⟩ => ?_⟩
   ·rcases h with rfl|h
    ·exact⟨.inl rfl,this⟩
    ·exact⟨.inr h.1,h.2⟩
   ·rcases h1 with h1|h1
    ·exact .inl h1
    ·exact .inr ⟨h1,h2⟩
omit [LC] in
theorem q8p {i:Nat} {r:List Nat×List Nat}:∀ {l:List (Nat×List Nat×List Nat)},zly i l=some r->(i,r)∈l
 | [],h=>by cases h
 | (m,r')::l,h=>by
  simp only[zly]at h;cases hb:Nat.beq m i<;>rw[hb]at h<;>simp only[qT,qF]at h
  ·exact qE _ (q8p h)
  ·simp only[qI]at h;subst h;rw[qN hb];exact qH
omit [LC] in
theorem zdk {pred:List Nat}:∀ {l:List Nat},subN l pred=true->∀ j∈l,j∈pred
 | [],_,j,h=>by cases h
 | x::xs,h,j,hj=>by
  simp only[subN,qA]at h;rcases List.mem_cons.1 hj with rfl|hj
  ·exact qct.1 h.1
  ·exact zdk h.2 j hj
omit [LC] in
theorem zc9 {pred:List Nat}:∀ {Ms:List (Nat×Md)},subM pred Ms=true->∀ j,look Ms j≠none->j∈pred
 | [],_,j,h=>absurd rfl h
 | (m,md)::r,h,j,hj=>by
  simp only[subM,qA]at h;simp only[look]at hj;cases hb:Nat.beq m j<;>rw[hb]at hj<;>simp only[qT,qF]at hj
  ·exact zc9 h.2 j hj
  ·rw[← qN hb];exact qct.1 h.1
omit [LC] in
theorem q5g {Rs:List HR} {k:Nat}:∀ {cs:List Nat},zcp s Rs k cs=true->∃ c rc,c∈cs/\Rs[c]? = some rc/\in16 (s.nx+32*rc.dst) k
 | [],h=>by cases h
 | c::cs,h=>by
  simp only[zcp,Bool.or_eq_true]at h;rcases h with h|h
  ·split at h
   ·rename_i r hr;simp only[qA,Nat.blt_eq]at h;exact⟨c,r,qH,hr,Nat.le_of_ble_eq_true h.1,h.2⟩
   ·cases h
  ·obtain⟨c',rc,h1,h2⟩:=q5g h;exact⟨c',rc,qE _ h1,h2⟩
omit [LC] in
theorem q09 {Rs:List HR} {pred:List Nat} {dst:Nat} {K:List Nat}:∀ {l:List (Nat×Box)},qym s Rs pred dst K l=true->∀ e∈l,in16 (s.nx+32*dst) e.1\/(e.1∈K/\((∃ b,look s.hp e.1=some b)\/∃ c rc,c∈pred/\Rs[c]? = some rc/\in16 (s.nx+32*rc.dst) e.1))
 | [],_,e,he=>by cases he
 | x::r,h,e,he=>by
  simp only[qym,qA,Bool.or_eq_true]at h;rcases List.mem_cons.1 he with rfl|he
  ·rcases h.1 with h1|⟨h1,h2⟩
   ·simp only[Nat.blt_eq]at h1;exact .inl ⟨Nat.le_of_ble_eq_true h1.1,h1.2⟩
   ·refine .inr ⟨qct.1 h1,?_⟩;rcases h2 with h2|h2
    ·cases hq:look s.hp e.1 with
     | none=>rw[hq]at h2;cases h2
     | some b=>exact .inl ⟨b,rfl⟩
    ·exact .inr (q5g h2)
  ·exact q09 h.2 e he
omit [LC] in
theorem q1a {dst:Nat}:∀ {l:List (Nat×AV)},qy7 dst l=true->∀ e∈l,e.1=dst
 | [],_,e,he=>by cases he
 | x::r,h,e,he=>by
  simp only[qy7,qA]at h;rcases List.mem_cons.1 he with rfl|he
  ·exact qN h.1
  ·exact q1a h.2 e he
omit [LC] in
theorem quc {Ms Ms':List (Nat×Md)} {sel:List Nat}:∀ (rs:List HR) (j:Nat) (t:St),(∀ k,k<j+rs.length->look Ms k=look Ms' k)->qdy Ms sel rs j t=qdy Ms' sel rs j t
 | [],_,_,_=>rfl
 | r::rs,j,t,h=>by
  simp only[qdy];rw[h j (by simp),quc rs (j+1) _ (fun k hk=>h k (by simp;omega))]
omit [LC] in
theorem q18 {Ms:List (Nat×Md)} {sel:List Nat} {d:Nat}:∀ {rs:List HR} {j:Nat} {t:St},(∀ (k:Nat) (r:HR),rs[k]? = some r->(look Ms (j+k)=none->r.dst≠d)/\∀ md,look Ms (j+k)=some md->∀ e∈md.f,e.1≠d)->look (qdy Ms sel rs j t).fr d=look t.fr d
 | [],_,_,_=>rfl
 | r::rs,j,t,h=>by
  simp only[qdy];rw[q18 (fun k r' hr'=>by have:=h (k+1) r' (by simpa using hr');rwa [show j+(k+1)=j+1+k by omega]at this)]
  cases memN sel j
  ·rfl
  ·simp only[qT];have h0:=h 0 r (by simp)
   rw[Nat.add_zero]at h0
   cases hm:look Ms j with
   | none=>
    simp only[St.addR,look];cases hq:Nat.beq r.dst d
    ·rfl
    ·exact absurd (qN hq) (h0.1 hm)
   | some md=>
    simp only[St.addM];rw[qvr]
    cases hq:look md.f d with
    | none=>rfl
    | some v=>
     obtain⟨e,he,hx⟩:=qmt (l:=md.f) (m:=d) (by rw[hq];simp)
     exact absurd hx (h0.2 md hm e he)
omit [LC] in
theorem q0e {Ms:List (Nat×Md)} {sel:List Nat}:∀ {rs:List HR} {j k:Nat} {t:St} {r:HR},rs[k]? = some r->memN sel (j+k)=true->look Ms (j+k)=none ->
  (∀ (k':Nat) (r':HR),k<k'->rs[k']? = some r'->r'.dst≠r.dst/\∀ md,look Ms (j+k')=some md->∀ e∈md.f,e.1≠r.dst)->look (qdy Ms sel rs j t).fr r.dst=some r.v
 | [],_,_,_,_,h,_,_,_=>by simp at h
 | r0::rs,j,0,t,r,h,hm,hn,hd=>by
  simp only[List.getElem?_cons_zero,qI]at h;subst h;simp only[qdy];rw[q18 (fun k r' hr'=>by
   have:=hd (k+1) r' (by omega) (by simpa using hr')
   rw[show j+(k+1)=j+1+k by omega]at this
   exact⟨fun _=>this.1,this.2⟩)]
  rw[Nat.add_zero]at hm hn;rw[hm,hn];simp[St.addR,look]
 | r0::rs,j,k+1,t,r,h,hm,hn,hd=>by
  simp only[qdy];rw[show j+(k+1)=j+1+k by omega]at hm hn
  exact q0e (k:=k) (by simpa using h) hm hn (fun k' r' hk hr'=>by
   have:=hd (k'+1) r' (by omega) (by simpa using hr')
   rwa [show j+(k'+1)=j+1+k' by omega]at this)
structure HX (P:Program) (ops:Array Oper) (s:St) (Cs:List (Nat×List Nat×List Nat)) (i:Nat) (Rs:List HR) (Ms:List (Nat×Md)):Prop where
 len:Rs.length=i
 all:∀ j o,j<i->ops[j]? = some o->∃ r,OkX ops s Rs Ms Cs j o r/\StX P ops s Rs Ms Cs j o r
 lt:∀ j,look Ms j≠none->j<i
 und:∀ (j:Nat) (r:HR) (md:Md),Rs[j]? = some r->look Ms j=some md->r.v = .undef
theorem HX.more {ops:Array Oper} {Cs:List (Nat×List Nat×List Nat)} {i:Nat} {Rs:List HR} {Ms Ms':List (Nat×Md)} {r0:HR} (hI:HX P ops s Cs i Rs Ms) (hM:∀ j,j<i->look Ms' j=look Ms j) {j:Nat} {o:Oper} {r:HR} (hj:j<i)
  (ok:OkX ops s Rs Ms Cs j o r) (st:StX P ops s Rs Ms Cs j o r):OkX ops s (Rs++[r0]) Ms' Cs j o r/\StX P ops s (Rs++[r0]) Ms' Cs j o r:=by
 have hl:=hI.len;have hg:∀ k,k<i->(Rs++[r0])[k]? = Rs[k]? := fun k hk=>List.getElem?_append_left (by omega)
 have ht:(Rs++[r0]).take j=Rs.take j:=by rw[List.take_append_of_le_length (by omega)]
 have hf:efF (Rs++[r0]) Ms' j=efF Rs Ms j:=by unfold efF;rw[hM j hj,hg j hj]
 have hh:efH (Rs++[r0]) Ms' j=efH Rs Ms j:=by unfold efH;rw[hM j hj,hg j hj]
 have hs:qyy s (Rs++[r0]) Ms' Cs j r=qyy s Rs Ms Cs j r:=by
  unfold qyy;rw[ht,quc (Rs.take j) 0 s (fun k hk=>hM k (by simp at hk;omega))]
 refine⟨⟨by rw[hg j hj];exact ok.get,ok.room,by rw[ht];exact ok.pred,by rw[ht];exact ok.fresh,by rw[ht];exact ok.reads,ok.writes,by rw[hf];exact ok.f,fun e he => ?_⟩,?_⟩
 ·rw[hh]at he;rcases ok.h e he with h|⟨h1,h2,h3,h4⟩
  ·exact .inl h
  ·refine .inr ⟨by rw[hM j hj];exact h1,h2,?_,fun k hk hkm=>h4 k hk (by rw[← hM k (by omega)];exact hkm)⟩
   rcases h3 with h3|⟨c,rc,c1,c2,c3⟩
   ·exact .inl h3
   ·have:c<i:=by have:=(List.getElem?_eq_some_iff.1 c2).1;omega
    exact .inr ⟨c,rc,c1,by rw[hg c this];exact c2,c3⟩
 ·rcases st with ⟨s1,s2,s3,s4⟩|⟨ps,d,md,s1,s2,s3,s4,s5⟩
  ·exact .inl ⟨by rw[hM j hj];exact s1,s2,s3,by rw[hs];exact s4⟩
  ·exact .inr ⟨ps,d,md,by rw[hM j hj];exact s1,s2,s3,by rw[hs];exact s4,s5⟩
theorem HX.dis {ops:Array Oper} {Cs:List (Nat×List Nat×List Nat)} {i:Nat} {Rs:List HR} {Ms:List (Nat×Md)} (hi:i<=ops.size) (hI:HX P ops s Cs i Rs Ms):∀ (k k':Nat) (r r':HR),k<k'->Rs[k]? = some r->Rs[k']? = some r'->r'.dst≠r.dst/\∀ md,look Ms k'=some md->∀ e∈md.f,e.1≠r.dst:=fun k k' r r' hk h1 h2=>by
 have hk':k'<i:=by have:=(List.getElem?_eq_some_iff.1 h2).1;have:=hI.len;omega
 obtain⟨ok',hok'⟩:∃ o,ops[k']? = some o:=⟨ops[k'],by simp[show k'<ops.size by omega]⟩
 obtain⟨r2,ok,_⟩:=hI.all k' _ hk' hok';have h3:=ok.get;rw[h2]at h3;injection h3 with h3;subst h3
 have hne:r'.dst≠r.dst:=fun e=>qig.1 ok.fresh r (List.mem_of_getElem? (i:=k) (by rw[List.getElem?_take,qX hk];exact h1)) e.symm
 refine⟨hne,fun md hmd e he => ?_⟩
 have:efF Rs Ms k'=md.f:=by unfold efF;rw[hmd]
 rw[ok.f e (by rw[this];exact he)];exact hne
theorem qzm (hT:∀ e∈tb.ents,e.Sound P) {ops:Array Oper} {Cs:List (Nat×List Nat×List Nat)} {fin:List (Nat×Md)->List HR->List (Nat×Bool)->Option R} {x:R}:∀ (l:List Oper) (i:Nat) (Rs:List HR) (kn:List (Nat×Bool)) (Ms:List (Nat×Md)),(∀ j,j<l.length->ops[i+j]? = l[j]?)->KnOk Rs kn->HX P ops s Cs i Rs Ms->i<=ops.size ->
  ze3 P tb ops s Cs fin l i Rs kn Ms=some x->∃ Ms' Rs' kn',fin Ms' Rs' kn'=some x/\KnOk Rs' kn'/\HX P ops s Cs (i+l.length) Rs' Ms'
 | [],i,Rs,kn,Ms,_,hkn,hI,_,h=>⟨Ms,Rs,kn,h,hkn,hI⟩
 | o::l,i,Rs,kn,Ms,hl,hkn,hI,his,h=>by
  have ho:ops[i]? = some o:=by have:=hl 0 (by simp);simpa using this
  have hil:i<ops.size:=(Array.getElem?_eq_some_iff.1 ho).1;have hl':∀ j,j<l.length->ops[i+1+j]? = l[j]? := fun j hj=>by have:=hl (j+1) (by simp;omega);simpa [Nat.add_assoc,Nat.add_comm 1 j] using this
  have knm:∀ (r0:HR) (kn':List (Nat×Bool)),KnOk Rs kn'->KnOk (Rs++[r0]) kn':=fun r0 kn' hk j d hj=>by
   obtain⟨r,i1,i2⟩:=hk j d hj;exact⟨r,by rw[List.getElem?_append_left (List.getElem?_eq_some_iff.1 i1).1];exact i1,i2⟩
  have htl:∀ r0:HR,(Rs++[r0]).take i=Rs:=fun r0=>by rw[← hI.len,List.take_left]
  have hge:∀ r0:HR,(Rs++[r0])[i]? = some r0:=fun r0=>by rw[← hI.len];simp
  have hMi:look Ms i=none:=by
   cases hq:look Ms i with
   | none=>rfl
   | some v=>have:=hI.lt i (by rw[hq];simp);omega
  have hdis:=hI.dis his
  -- a further operation that leaves own memory
  have normal:∀ (pred:List Nat) (tt:Nat) (v:AV) (new:List (Nat×Box)) (ps:List Prop) (c:Dec),qn4 Rs o.after.toList=some pred->o.dst=some tt->Nat.blt tt s.n=true->qah (s.nx+32*tt) s.hp=true->qmv tt Rs=true->qlr pred (qka ops o) Rs 0=true->qjc ops tt pred i=true ->
    qt4 P ops ((qdy Ms pred Rs 0 s).hide (hidK Cs pred i)) c o=some (ps,v,new)->Alls ps->HX P ops s Cs (i+1) (Rs++[⟨tt,v,new,pred⟩]) Ms:=fun pred tt v new ps c hp hd b1 b2 b3 b4 b5 hst hps=>by
   refine⟨by rw[qM,hI.len];rfl,fun j oj hj hoj => ?_,fun j hj=>by have:=hI.lt j hj;omega,fun j r md hr hm=>by
    have hji:=hI.lt j (by rw[hm];simp)
    exact hI.und j r md (by rw[List.getElem?_append_left (by have:=hI.len;omega)]at hr;exact hr) hm⟩
   by_cases hji:j<i
   ·obtain⟨r,ok,st⟩:=hI.all j oj hji hoj;exact⟨r,hI.more (fun _ _=>rfl) hji ok st⟩
   ·have:j=i:=by omega
    subst this;rw[ho]at hoj;cases hoj;have hs:qyy s (Rs++[⟨tt,v,new,pred⟩]) Ms Cs j ⟨tt,v,new,pred⟩=(qdy Ms pred Rs 0 s).hide (hidK Cs pred j):=by unfold qyy;rw[htl]
    have hef:efF (Rs++[⟨tt,v,new,pred⟩]) Ms j=[(tt,v)]:=by unfold efF;rw[hMi,hge]
    have heh:efH (Rs++[⟨tt,v,new,pred⟩]) Ms j=new:=by unfold efH;rw[hMi,hge]
    have hnm:=q00 hd hst;have hnx:((qdy Ms pred Rs 0 s).hide (hidK Cs pred j)).nx=s.nx:=by
     rw[qwz (Rs:=Rs) Rs 0 s (fun k _=>by rw[wO])];rfl
    rw[hnx]at hnm;refine⟨⟨tt,v,new,pred⟩,⟨hge _,b2,by rw[htl];exact hp,by rw[htl];exact b3,by rw[htl];exact b4,b5,fun e he => ?_,fun e he => .inl ?_⟩,.inl ⟨hMi,hd,by simpa using b1,ps,c,by rw[hs];exact hst,hps⟩⟩
    ·rw[hef]at he;rw[List.mem_singleton]at he;subst he;rfl
    ·rw[heh]at he;exact hnm e he
  simp only[ze3]at h;split at h
  ·cases h
  ·rename_i pred hp;cases hc:zsy s o.dst&&qah (s.nx+32*dstX s i o.dst) s.hp&&qmv (dstX s i o.dst) Rs&&qlr pred (qka ops o) Rs 0&&qjc ops (dstX s i o.dst) pred i<;>rw[hc]at h<;>simp only[qT,qF,reduceCtorEq]at h
   simp only[qA]at hc;obtain⟨⟨⟨⟨b1,b2⟩,b3⟩,b4⟩,b5⟩:=hc;split at h
   ·rename_i K Pm hf hg;split at h
    ·rename_i q hq;obtain⟨d,q1,q2⟩:=Rq.K_some h;split at q2
     ·rename_i ps v new tt ha hd;rw[hd]at b1 b2 b3 b5;have hps:=zcn hT hq q1 ha;have hI':=normal pred tt v new ps (false,d) hp hd b1 b2 b3 b4 b5 (by unfold qt4;rw[hg];exact ha) hps
      obtain⟨Ms',Rs',kn',e1,e2,e3⟩:=qzm hT l (i+1) _ kn Ms hl' (knm _ _ hkn) hI' (by omega) q2
      exact⟨Ms',Rs',kn',e1,e2,by rw[qL,show i+(l.length+1)=i+1+l.length by omega];exact e3⟩
     ·split at q2
      ·rename_i ps md hmo;cases hx:qym s Rs pred (dstX s i o.dst) K md.h&&qy7 (dstX s i o.dst) md.f&&subN Pm pred&&subM pred Ms<;>rw[hx]at q2<;>simp only[qT,qF,reduceCtorEq]at q2
       simp only[qA]at hx;obtain⟨⟨⟨x1,x2⟩,x3⟩,x4⟩:=hx;have hps:=zgw hT hq q1 (q9l hmo);have hM':∀ j,j<i->look ((i,md)::Ms) j=look Ms j:=fun j hj=>by
        have:Nat.beq i j=false:=by
         cases hb:Nat.beq i j
         ·rfl
         ·have:=qN hb;omega
        simp only[look,this,qF]
       have hMM:look ((i,md)::Ms) i=some md:=by simp[look]
       have hI':HX P ops s Cs (i+1) (Rs++[⟨dstX s i o.dst,.undef,[],pred⟩]) ((i,md)::Ms):=by
        refine⟨by rw[qM,hI.len];rfl,fun j oj hj hoj => ?_,fun j hj => ?_,fun j r md' hr hm => ?_⟩
        ·by_cases hji:j<i
         ·obtain⟨r,ok,st⟩:=hI.all j oj hji hoj;exact⟨r,hI.more hM' hji ok st⟩
         ·have:j=i:=by omega
          subst this;rw[ho]at hoj;cases hoj;have hs:qyy s (Rs++[⟨dstX s j o.dst,.undef,[],pred⟩]) ((j,md)::Ms) Cs j ⟨dstX s j o.dst,.undef,[],pred⟩=(qdy Ms pred Rs 0 s).hide (hidK Cs pred j):=by
           unfold qyy;rw[htl,quc (Ms':=Ms) Rs 0 s (fun k hk=>hM' k (by have:=hI.len;omega))]
          have hef:efF (Rs++[⟨dstX s j o.dst,.undef,[],pred⟩]) ((j,md)::Ms) j=md.f:=by unfold efF;rw[hMM]
          have heh:efH (Rs++[⟨dstX s j o.dst,.undef,[],pred⟩]) ((j,md)::Ms) j=md.h:=by unfold efH;rw[hMM]
          refine⟨⟨dstX s j o.dst,.undef,[],pred⟩,⟨hge _,b2,by rw[htl];exact hp,by rw[htl];exact b3,by rw[htl];exact b4,b5,fun e he => ?_,fun e he => ?_⟩,.inr ⟨ps,d,md,hMM,hg,fun t ht => ?_,by rw[hs];exact hmo,hps⟩⟩
          ·rw[hef]at he;exact q1a x2 e he
          ·rw[heh]at he;rcases q09 x1 e he with h'|⟨h1,h2⟩
           ·exact .inl h'
           ·refine .inr ⟨by rw[hMM];simp,⟨K,Pm,q8p hf,h1,zdk x3⟩,?_,fun k hk hkm=>zc9 x4 k (by rw[hM' k hk]at hkm;exact hkm)⟩
            rcases h2 with h2|⟨c,rc,c1,c2,c3⟩
            ·exact .inl h2
            ·have:c<Rs.length:=(List.getElem?_eq_some_iff.1 c2).1;exact .inr ⟨c,rc,c1,by rw[List.getElem?_append_left this];exact c2,c3⟩
          ·rw[ht]at b1 ⊢;exact⟨rfl,by simpa [zsy] using b1⟩
        ·simp only[look]at hj;cases hb:Nat.beq i j<;>rw[hb]at hj<;>simp only[qT,qF]at hj
         ·have:=hI.lt j hj;omega
         ·have:=qN hb;omega
        ·by_cases hji:j=i
         ·subst hji;rw[hge]at hr;cases hr;rfl
         ·have hr':(Rs++[⟨dstX s i o.dst,.undef,[],pred⟩])[j]? = some r:=hr;have hjl:j<i+1:=by have:=(List.getElem?_eq_some_iff.1 hr).1;simp at this;have:=hI.len;omega
          exact hI.und j r md' (by rw[List.getElem?_append_left (by have:=hI.len;omega)]at hr;exact hr) (by rw[hM' j (by omega)]at hm;exact hm)
       obtain⟨Ms',Rs',kn',e1,e2,e3⟩:=qzm hT l (i+1) _ kn _ hl' (knm _ _ hkn) hI' (by omega) q2
       exact⟨Ms',Rs',kn',e1,e2,by rw[qL,show i+(l.length+1)=i+1+l.length by omega];exact e3⟩
      ·cases q2
    ·cases h
   ·split at h
    ·rename_i d hd;rw[hd]at b1 b2 b3 b5;have hv:∀ j r,memN (q1b Ms pred) j=true->Rs[j]? = some r->look ((qdy Ms pred Rs 0 s).hide (hidK Cs pred i)).fr r.dst=some r.v:=fun j r hm hr=>by
      obtain⟨h1,h2⟩:=qw8.1 (qct.1 hm);exact q0e (k:=j) hr (by rw[wO];exact qct.2 h1) (by rw[wO];exact h2) (fun k' r' hk hr'=>by rw[wO];exact hdis j k' r r' hk hr hr')
     have hdd:∀ (j:Nat) (r:HR),memN (q1b Ms pred) j=true->Rs[j]? = some r->∃ oj:Oper,ops[j]? = some oj/\oj.dst=some r.dst:=fun j r hm hr=>by
      obtain⟨h1,h2⟩:=qw8.1 (qct.1 hm);have hj:j<i:=by have:=(List.getElem?_eq_some_iff.1 hr).1;have:=hI.len;omega
      obtain⟨oj,hoj⟩:∃ o,ops[j]? = some o:=⟨ops[j],by simp[show j<ops.size by omega]⟩
      obtain⟨r2,ok,st⟩:=hI.all j oj hj hoj;have h3:=ok.get;rw[hr]at h3;injection h3 with h3;subst h3
      rcases st with ⟨_,s2,_⟩|⟨_,_,md,s1,_⟩
      ·exact⟨oj,hoj,s2⟩
      ·rw[h2]at s1;cases s1
     obtain⟨ps,c,v,new,kn',h1,h2,h3,h4⟩:=zot hT hkn hv hdd h;have hI':=normal pred d v new ps c hp hd b1 b2 b3 b4 b5 h1 h2;obtain⟨Ms',Rs',kn2,e1,e2,e3⟩:=qzm hT l (i+1) _ kn' Ms hl' (knm _ _ h3) hI' (by omega) h4
     exact⟨Ms',Rs',kn2,e1,e2,by rw[qL,show i+(l.length+1)=i+1+l.length by omega];exact e3⟩
    ·cases h
theorem zk3 (hT:∀ e∈tb.ents,e.Sound P) (hm:P.follows .mixedOrders=true) {ops:Array Oper} {Cs:List (Nat×List Nat×List Nat)} {K:St->Option R} {x:R} (h:zqp P tb ops s Cs K=some x) {N:Act->World->Prop} (hN:∀ s',K s'=some x->∀ G' a' w',Rel vbr vbm vbo G' s' a' w'->N a' w')
  (hr:Rel vbr vbm vbo G s a w) (id:Nat) (b:Frame) (kk:List Item) (cs:List Frame) (hk:b.kind = .normal) :
  ∃ a' w',N a' w'/\Steps P (lone (b.atR a (.code (.region id ops true)::kk)) cs w) (lone (b.atR a' kk) cs w'):=by
 unfold zqp at h;generalize qjh ops=n at h;cases hb:qia ops.toList 0&&qk6 ops n&&Nat.ble n ops.toList.length<;>rw[hb]at h<;>simp only[qT,qF,reduceCtorEq]at h
 simp only[qA]at hb;obtain⟨⟨b1,b2⟩,b3⟩:=hb;have hn:n<=ops.size:=by have:=Nat.le_of_ble_eq_true b3;simpa using this
 have vbu:(ops.toList.take n).length=n:=by simp;omega
 obtain⟨Ms,Rs,kn,k1,kkn,hI⟩:=qzm hT (ops.toList.take n) 0 [] [] [] (fun j hj=>by
  rw[vbu]at hj;rw[List.getElem?_take,qX hj,wO];simp) (fun j d h=>by cases h) ⟨rfl,fun j o hj=>(by omega),fun j hj=>absurd rfl hj,fun j r md h=>by simp at h⟩ (Nat.zero_le _) h
 rw[wO,vbu]at hI;have base:∀ (G:Gh) (a:Act) (w:World),Rel vbr vbm vbo G (qdy Ms (List.range n) Rs 0 s) a w->∀ l,Rel vbr vbm vbo G (q9c Rs kn l (qdy Ms (List.range n) Rs 0 s)) a w:=by
  intro G a w hr l
  induction l with
  | nil=>exact hr
  | cons e l ih=>
   obtain⟨j,d⟩:=e;unfold q9c;split
   ·rename_i d' r h0 h1;obtain⟨r',i1,h2⟩:=kkn j d' h0;rw[h1]at i1;have:=qJ i1;subst this;have hj:j<n:=by have:=(List.getElem?_eq_some_iff.1 h1).1;rw[hI.len]at this;exact this
    refine ih.know ?_
    cases hMj:look Ms j with
    | some md=>
     have:=hI.und j r md h1 hMj;rw[h2]at this;cases this
    | none=>
     have hin:look (qdy Ms (List.range n) Rs 0 s).fr r.dst=some r.v:=q0e (k:=j) h1 (by rw[wO,qct];exact List.mem_range.2 hj) (by rw[wO];exact hMj) (fun k' r' hk hr'=>by rw[wO];exact hI.dis hn j k' r r' hk h1 hr')
     obtain⟨v,v1,v2⟩:=hr.frame r.dst _ hin;rw[h2]at v2;have v2:v = .bool d':=v2;subst v2;show a.tmps.getD r.dst undef=_;rw[Array.getD_eq_getD_getElem?,v1];rfl
   ·exact ih
 refine q2z hm ?_ b kk cs hk;refine zk7 (vbr:=vbr) (vbm:=vbm) (vbo:=vbo) (N:=N) hn b1 b2 hI.len hI.all (fun G a w listed hr' hu=>zav hT b1 b2 hN _ n (wF _) rfl hn _ G a w listed k1 (base G a w hr' kn) hu) ops.size [] _ G a _ (by simp) ?_ trivial ?_
 ·refine⟨List.nodup_nil,fun i hi=>(by cases hi),by simp,fun j hj => ?_,fun i hi=>(by cases hi)⟩
  rw[Array.getD_eq_getD_getElem?];simp[hj]
 ·exact⟨hr.defers,hr.size,hr.frame,hr.fresh,⟨⟨hr.fin.mem.agree,hr.fin.mem.one,hr.fin.mem.holds,hr.fin.mem.apart,hr.fin.mem.tab⟩,⟨hr.fin.bel.os,hr.fin.bel.tape,hr.fin.bel.output,hr.fin.bel.size,hr.fin.bel.block⟩,hr.fin.imm_le,hr.fin.imm_new,hr.fin.base,hr.fin.keep,hr.fin.keepOwn⟩⟩
theorem zmo (hT:∀ e∈tb.ents,e.Sound P) (hm:P.follows .mixedOrders=true) {ops:Array Oper} {K:St->Option R} {x:R} (h:ztv P tb ops s K=some x) {N:Act->World->Prop} (hN:∀ s',K s'=some x->∀ G' a' w',Rel vbr vbm vbo G' s' a' w'->N a' w')
  (hr:Rel vbr vbm vbo G s a w) (id:Nat) (b:Frame) (k:List Item) (cs:List Frame) (hk:b.kind = .normal) :
  ∃ a' w',N a' w'/\Steps P (lone (b.atR a (.code (.region id ops true)::k)) cs w) (lone (b.atR a' k) cs w'):=by
 unfold ztv at h;split at h
 ·exact zma hT hm h hN hr id b k cs hk
 ·exact zk3 hT hm h hN hr id b k cs hk
theorem zlz (hT:∀ e∈tb.ents,e.Sound P) (hm:P.follows .mixedOrders=true) {ops:Array Oper} {K:St->Option R} {x:R} (h:zrn P tb ops s K=some x) {N:Act->World->Prop} (hN:∀ s',K s'=some x->∀ G' a' w',Rel vbr vbm vbo G' s' a' w'->N a' w')
  (hr:Rel vbr vbm vbo G s a w) (id:Nat) (b:Frame) (k:List Item) (cs:List Frame) (hk:b.kind = .normal) :
  ∃ a' w',N a' w'/\Steps P (lone (b.atR a (.code (.region id ops true)::k)) cs w) (lone (b.atR a' k) cs w'):=by
 obtain⟨G',hr'⟩:=hr.frzL (ks:=preK s (ops.toList.take (qjh ops)) (ops.toList.take (qjh ops)));exact zmo hT hm h hN hr' id b k cs hk
end
end Go.Sym
namespace Go.Sym
open Go.RowKit
variable [LC]
def qyv (i:Nat) (c:Code):Code:=match c with
 | .seq a b=>match i with
  | 0=>a
  | _=>b
 | .cond _ a b=>match i with
  | 0=>a
  | _=>b
 | .block _ a=>a
 | .loop a=>a
 | .scope a=>a
 | .rangeFunc _ _ a b=>match i with
  | 0=>a
  | _=>b
 | c=>c
def sub (body:Code):List Nat->Code
 | []=>body
 | i::p=>qyv i (sub body p)
structure PIt where
 kd:Nat
 path:List Nat
 it:Item
def q05 (body:Code) (kd:Nat) (p:List Nat):Item:=match kd with
 | 0 => .code (sub body p)
 | 1=>match sub body p with
  | .block id _ => .inBlock id
  | c => .code c
 | 2=>match sub body p with
  | .loop x => .inLoop x
  | c => .code c
 | 3=>match sub body p with
  | .scope x => .inScope x
  | c => .code c
 | _ => .beginRound
def PIt.Ok (body:Code) (i:PIt):Prop:=i.it=q05 body i.kd i.path
abbrev PKey:=List (Nat×List Nat)
def qsk (body:Code):PKey->List PIt
 | []=>[]
 | (kd,p)::r=>⟨kd,p,q05 body kd p⟩::qsk body r
def qnh:List PIt->List Item
 | []=>[]
 | i::r=>i.it::qnh r
def zd0:PKey->List PIt->Bool
 | [],[]=>true
 | (kd,p)::r,i::k=>Nat.beq kd i.kd&&eqNs p i.path&&zd0 r k
 | _,_=>false
omit [LC] in
theorem q21 {body:Code}:∀ {key:PKey} {k:List PIt},zd0 key k=true->(∀ i∈k,i.Ok body)->qnh (qsk body key)=qnh k
 | [],[],_,_=>rfl
 | (kd,p)::r,⟨kd',p',it⟩::k,h,hk=>by
  simp only[zd0,qA]at h;obtain⟨⟨h1,h2⟩,h3⟩:=h;have h1:=qN h1;have h2:=q6k h2;subst h1 h2;have ho:it=q05 body kd p:=hk _ qH;simp only[qsk,qnh];rw[q21 h3 (fun i hi=>hk i (qE _ hi)),ho]
 | [],_::_,h,_=>by cases h
 | _::_,[],h,_=>by cases h
omit [LC] in
theorem q0f {body:Code}:∀ {key:PKey},∀ i∈qsk body key,i.Ok body
 | [],i,h=>by cases h
 | (kd,p)::r,i,h=>by
  rcases List.mem_cons.1 h with rfl|h
  ·rfl
  ·exact q0f i h
omit [LC] in
theorem zat {body:Code} {kd:Nat} {p:List Nat} {c:Code} (h:Item.code c=q05 body kd p):sub body p=c:=by
 unfold q05 at h;split at h
 ·injection h with h;exact h.symm
 ·split at h
  ·cases h
  ·injection h with h;exact h.symm
 ·split at h
  ·cases h
  ·injection h with h;exact h.symm
 ·split at h
  ·cases h
  ·injection h with h;exact h.symm
 ·cases h
omit [LC] in
theorem zac {body:Code} {kd:Nat} {p:List Nat} {c:Code} (h:Item.inLoop c=q05 body kd p):sub body p = .loop c:=by
 unfold q05 at h;split at h
 ·cases h
 ·split at h<;>cases h
 ·split at h
  ·rename_i e;injection h with h;subst h;exact e
  ·cases h
 ·split at h<;>cases h
 ·cases h
def q2e (id:Nat):List PIt->Option (List PIt)
 | []=>none
 | i::k=>match i.it with
  | .inBlock id'=>if id'==id then some k else q2e id k
  | _=>q2e id k
omit [LC] in
theorem q0c {id:Nat}:∀ {k k':List PIt},q2e id k=some k'->exitTo id (qnh k)=some (qnh k')/\∀ i∈k',i∈k
 | [],_,h=>by cases h
 | ⟨kd,p,it⟩::k,k',h=>by
  simp only[q2e]at h;split at h
  ·rename_i id';split at h
   ·rename_i he;simp only[qI]at h;subst h;exact⟨by simp only[qnh,exitTo];rw[qX he],fun i hi=>qE _ hi⟩
   ·rename_i he;obtain⟨h1,h2⟩:=q0c h;exact⟨by simp only[qnh,exitTo];rw[qW he];exact h1,fun i hi=>qE _ (h2 i hi)⟩
  ·rename_i hne;obtain⟨h1,h2⟩:=q0c h;refine⟨?_,fun i hi=>qE _ (h2 i hi)⟩
   (try simp only at hne)
   simp only[qnh];cases it<;>first
    | (exfalso;exact hne _ rfl)
    | (simp only[exitTo];exact h1)
def zaa (P:Program) (s:St):ResultVar->Option AV
 | .tmp t=>look s.fr t
 | .cell t T=>match look s.fr t with
  | some (.ptr b off)=>match look s.hp b with
   | some (.cells cs _)=>q1g P T cs off
   | _=>none
  | some (.oel k sz 0 0)=>match look s.hp k,tAgg P T,qmo P T with
   | some (.row τ l _),some true,some _=>bif τ.is1&&Nat.beq sz 1 then some (.arr τ l) else none
   | _,_,_=>none
  | _=>none
def resQ (P:Program) (s:St):ResultVar->Bool
 | .tmp _=>true
 | .cell t T=>match look s.fr t with
  | some (.oel k _ 0 0)=>match look s.hp k,qmo P T with
   | some (.row _ l _),some n=>decide (l.length=n)
   | _,_=>true
  | _=>true
def zj5 (P:Program) (s:St):List ResultVar->Bool
 | []=>true
 | x::xs=>resQ P s x&&zj5 P s xs
def qw7 (P:Program) (s:St):List ResultVar->Option (List AV)
 | []=>some []
 | x::xs=>match zaa P s x with
  | some v=>match qw7 P s xs with
   | some vs=>some (v::vs)
   | none=>none
  | none=>none
def aret (P:Program) (fn:Func) (s:St):Option AV:=
 match qw7 P s fn.results.toList with
 | some vs=>match vs with
  | [v]=>some v
  | vs=>some (.tup vs)
 | none=>none
def frzC (p:Pt) (b off:Nat) (s:St):St:=match look s.hp b with
 | some (.cells cs _)=>frzL (zlj p (.agg (cs.drop off))) s
 | _=>s
def coR (bs:List (Nat×BPt)):List ResultVar->List Pt->St->St
 | [],_,s=>s
 | x::xs,ps,s=>match ps with
  | []=>s
  | p::ps=>match x with
   | .tmp t=>coR bs xs ps (coF bs [(t,p)] s)
   | .cell t _=>match look s.fr t with
    | some (.ptr b off)=>coR bs xs ps (frzC p b off (coB1 bs b [p] off s))
    | _=>coR bs xs ps s
def zmn:Pt->List Pt
 | .tup ps=>ps
 | p=>[p]
def finV (v:AV) (ids:NM) (p:Pt) (hp:List (Nat×BPt)) (s:St):Option (p.den×bden hp):=
 match p.get v ids with
 | some (d,nm)=>match bget s.hp hp nm with
  | some (d',nm')=>bif qam nm'&&q6n nm' hp then some (d,d') else none
  | none=>none
 | none=>none
def zhy (P:Program) (fn:Func) (ids:NM) (rv:Option AV) (p:Pt) (hp:List (Nat×BPt)) (s:St):Option (p.den×bden hp):=
 match rv with
 | some v=>finV v ids p hp (coB hp ids hp s)
 | none=>match aret P fn (coR hp fn.results.toList (zmn p) (coB hp ids hp s)) with
  | some v=>finV v ids p hp (coR hp fn.results.toList (zmn p) (coB hp ids hp s))
  | none=>none
def finQ (P:Program) (fn:Func) (ids:NM) (rv:Option AV) (p:Pt) (hp:List (Nat×BPt)) (s:St):Bool:=
 match rv with
 | some _=>true
 | none=>zj5 P (coR hp fn.results.toList (zmn p) (coB hp ids hp s)) fn.results.toList
def RS.fin (P:Program) (fn:Func) (ids:NM) (rv:Option AV) (s:St):{α:Type}->RS α->Option α
 | _,.one p hp _ fro _=>bif finQ P fn ids rv p hp s then (match zhy P fn ids rv p hp s with
  | some y=>some (fro y)
  | none=>none) else none
 | _,.two l r=>match l.fin P fn ids rv s with
  | some a=>some (.inl a)
  | none=>match r.fin P fn ids rv s with
   | some b=>some (.inr b)
   | none=>none
structure Lab (R:Type) where
 key:PKey
 ls:LS
 F:ls.den->Option R
def qxz {R:Type} (ids:NM) (s:St) (k:List PIt):List (Lab R)->Option (Lab R)
 | []=>none
 | l::ls=>bif zd0 l.key k then (match qxz ids s k ls with
   | none=>some l
   | some l'=>match l.ls.get ids (l.ls.co ids s) with
    | some _=>some l
    | none=>some l') else qxz ids s k ls
structure Cx:Type 1 where
 P:Program
 tb:Tb
 fn:Func
 f:FuncId
 ids:NM
 rd:Option Nat
 tags:List (List Nat×Nat)
def St.noDf (s:St):Bool:=match s.df with
 | []=>true
 | _=>false
def q2v:List Nat->St->Option St
 | [],s=>some { s with df:=[] }
 | n::ns,s=>match look s.hp n with
  | some .dfr=>q2v ns { s with hp:=(n,.dead)::s.hp,df:=ns }
  | _=>none
def isNo:Option Jmp->Bool
 | none=>true
 | some _=>false
def endq (cx:Cx) {R:Type} (enc:RS R) (j:Option Jmp) (s:St):Option R:=
 match cx.rd with
 | none=>match q2v s.df s with
  | some s'=>enc.fin cx.P cx.fn cx.ids none s'
  | none=>none
 | some m=>bif s.noDf then
   (match look s.hp m with
   | some (.loop _ _ f n fr ps tag D)=>enc.fin cx.P cx.fn cx.ids (some (.val (.bool (isNo j)))) { s with hp:=(m,.loop (bif isNo j then .ready else .done) j f n fr ps tag D)::s.hp }
   | _=>none)
  else none
def St.enterRF (s:St) (f:FuncId) (ps:List Tmp) (tag:Nat) (around:Option Nat):Option St:=
 bif qah s.nx s.hp then
  (match around with
  | none=>some { s with hp:=(s.nx,.loop .ready none f s.n s.fr ps tag (s.nx+1))::(s.nx+1,.dfr)::s.hp,df:=(s.nx+1)::s.df,nx:=s.nx+32 }
  | some m=>match look s.hp m with
   | some (.loop _ _ _ _ _ _ _ D)=>some { s with hp:=(s.nx,.loop .ready none f s.n s.fr ps tag D)::s.hp,nx:=s.nx+32 }
   | _=>none)
 else none
def zo6 (s:St) (ys:List AV) (d:D):Option St:=match d with
 | .mem names xs hp _ hp'=>
  bif qam names&&qgs names&&qah s.nx s.hp then
   (match qm2 (rho names) s.hp names,vws false [] (AV.rens (rho names) ys) xs with
   | some hpv,some _=>match vwHp hpv hp with
    | some _=>some { s with hp:=qs2 (back names hp' s.nx) hp'++(qz7 names++s.hp),nx:=s.nx+32 }
    | none=>none
   | _,_=>none)
  else none
 | _=>none
def q4f (p:List Nat):List (List Nat×Nat)->Option Nat
 | []=>none
 | (q,t)::r=>bif eqNs q p then some t else q4f p r
def zjq:LoopState->Bool
 | .busy=>false
 | _=>true
def zm3 (cx:Cx) (p:List Nat) (g:Operand) (ps:List Tmp) (s:St):Option (Rq×St×List AV):=
 match q4f p cx.tags,s.ev g with
 | some tag,some (.fn (.func h) [] cap)=>match s.enterRF cx.f ps tag cx.rd with
  | some s1=>match q2n (q8q s1 h (.yld s.nx::cap)) cx.tb.ents with
   | some q=>some (q,s1,.yld s.nx::cap)
   | none=>none
  | none=>none
 | _,_=>none
def zul (cx:Cx) (p:List Nat) (g:Operand) (ps:List Tmp) (s:St):Option St:=
 match q4f p cx.tags,s.ev g with
 | some tag,some (.fn (.func h) [] cap)=>match s.enterRF cx.f ps tag cx.rd with
  | some s1=>match zde (fun e=>q4g h e.key) cx.tb.ents with
   | some e=>some (coB e.hp (nmH s1 e.hp (nmPs e.args (.yld s.nx::cap))) e.hp (frzL (q2o e.args (.yld s.nx::cap)) s))
   | none=>none
  | none=>none
 | _,_=>none
def rfGo {R:Type} (nl:Nat) (a:Rq×St×List AV) (K:Option Jmp->St->Option R):Option R:=
 a.1.K fun d=>match zo6 a.2.1 a.2.2 d with
  | some s3=>match look s3.hp nl with
   | some (.loop st pe _ _ _ _ _ _)=>bif zjq st then K pe { s3 with hp:=(nl,.dead)::s3.hp } else none
   | _=>none
  | none=>none
def rfR (cx:Cx) {R:Type} (p:List Nat) (g:Operand) (ps:List Tmp) (s:St) (K:Option Jmp->St->Option R):Option R:=
 match zm3 cx p g ps s with
 | some a=>rfGo s.nx a K
 | none=>match zul cx p g ps s with
  | some s'=>match zm3 cx p g ps s' with
   | some a=>rfGo s'.nx a K
   | none=>none
  | none=>none
def run (cx:Cx) {R:Type} (enc:RS R) (labs:List (Lab R)):Nat->Bool->List PIt->St->Option R
 | 0,_,_,_=>none
 | n+1,chk,k,s=>match (bif chk then qxz cx.ids s k labs else none) with
  | some lab=>match lab.ls.get cx.ids (lab.ls.co cx.ids s) with
   | some d=>lab.F d
   | none=>none
  | none=>match k with
   | []=>endq cx enc none s
   | ⟨_,p,it⟩::k'=>match it with
    | .code c=>match c with
     | .skip=>run cx enc labs n true k' s
     | .label _=>run cx enc labs n true k' s
     | .seq x y=>run cx enc labs n true (⟨0,0::p,.code x⟩::⟨0,1::p,.code y⟩::k') s
     | .cond c x y=>match s.ev c with
      | some (.bool b)=>bif b then run cx enc labs n true (⟨0,0::p,.code x⟩::k') (s.know c true) else run cx enc labs n true (⟨0,1::p,.code y⟩::k') (s.know c false)
      | some (.val (.bool b))=>bif b then run cx enc labs n true (⟨0,0::p,.code x⟩::k') s else run cx enc labs n true (⟨0,1::p,.code y⟩::k') s
      | _=>none
     | .block id x=>run cx enc labs n true (⟨0,0::p,.code x⟩::⟨1,p,.inBlock id⟩::k') s
     | .loop x=>run cx enc labs n true (⟨0,0::p,.code x⟩::⟨2,p,.inLoop x⟩::k') s
     | .scope x=>run cx enc labs n true (⟨0,0::p,.code x⟩::⟨3,p,.inScope x⟩::k') s
     | .exit id=>match q2e id k' with
      | some k''=>run cx enc labs n true k'' s
      | none=>match cx.rd with
       | some _=>endq cx enc (some (.exit id)) s
       | none=>none
     | .region _ ops d=>bif d then zrn cx.P cx.tb ops s (fun s'=>run cx enc labs n true k' s'.bump) else opsR cx.P cx.tb ops ops.toList s (fun s'=>run cx enc labs n true k' s'.bump)
     | .ret=>endq cx enc (some .ret) s
     | .rangeFunc g ps _ _=>rfR cx p g ps.toList s fun j s'=>match j with
      | none=>run cx enc labs n true k' s'
      | some .ret=>endq cx enc (some .ret) s'
      | some (.exit id)=>match q2e id k' with
       | some k''=>run cx enc labs n true k'' s'
       | none=>match cx.rd with
        | some _=>endq cx enc (some (.exit id)) s'
        | none=>none
     | _=>none
    | .inBlock _=>run cx enc labs n true k' s
    | .inScope _=>run cx enc labs n true k' s
    | .inLoop x=>run cx enc labs n true (⟨0,0::p,.code x⟩::⟨2,p,.inLoop x⟩::k') s
    | .beginRound=>match cx.rd with
     | some m=>match look s.hp m with
      | some (.loop .ready pe f n' fr ps tag D)=>run cx enc labs n true k' { s with hp:=(m,.loop .busy pe f n' fr ps tag D)::s.hp }
      | _=>none
     | none=>none
    | _=>none
end Go.Sym
namespace Go.Sym
open Go.RowKit
variable [LC]
def qx9 (P:Program) (ro:Option Nat) (f:FuncId) (x:Machine) (cs:List Frame) (Q:Value->World->Prop):Prop:=
 match ro with
 | none=>∃ v w' fr,Q v w'/\Steps P x (lone fr cs w')/\fr.fn=f/\fr.leaving P w' (.returned v)
 | some _=>∀ c cs',cs=c::cs'->∃ v w',Q v w'/\Steps P x (lone (c.finish v) cs' w')
omit [LC] in
theorem qx9.head {P:Program} {ro:Option Nat} {f:FuncId} {x y:Machine} {cs:List Frame} {Q:Value->World->Prop} (h:Steps P x y) (k:qx9 P ro f y cs Q):qx9 P ro f x cs Q:=by
 cases ro with
 | none=>obtain⟨v,w',fr,h1,h2,h3⟩:=k;exact⟨v,w',fr,h1,h.trans h2,h3⟩
 | some l=>exact fun c cs' e=>by obtain⟨v,w',h1,h2⟩:=k c cs' e;exact⟨v,w',h1,h.trans h2⟩
section
variable {P:Program} {vbr:World} {vbm:Gh} {vbo:List (Nat×Box)} {G:Gh} {s:St} {a:Act} {w:World}
def zdw (tmps:Array Value) (x:ResultVar):Sem Value:=match x with
 | .tmp t=>pure (tmps.getD t undef)
 | .cell a t=>do loadVar t (← asAddr (tmps.getD a undef))
omit [LC] in
theorem zeh (fn:Func) (tmps:Array Value):results fn tmps=(do let vs ← fn.results.mapM (zdw tmps);pure (if h:vs.size=1 then vs[0] else .tuple vs)):=rfl
theorem zek (hr:Rel vbr vbm vbo G s a w) {x:ResultVar} {v:AV} (hq:resQ P s x=true) (h:zaa P s x=some v):∃ u,(zdw a.tmps x).run P w = .ok u w/\Rep v G u:=by
 cases x with
 | tmp t=>
  obtain⟨u,h1,h2⟩:=hr.frame t v h;exact⟨u,by simp[zdw,Array.getD_eq_getD_getElem?,h1],h2⟩
 | cell t T=>
  simp only[zaa]at h;split at h
  ·rename_i b off hb;split at h
   ·rename_i cs T' hc;obtain⟨u,h1,B,hB,rfl⟩:=hr.frame _ _ hb;obtain⟨B',vs,k1,k2,k3,_⟩:=hr.fin.mem.holds _ _ hc;rw[k1]at hB;injection hB with hB;subst hB
    obtain⟨z,hz,hrz⟩:=qmd (P:=P) (w:=w) h (o:=0) k3 (fun j u hu=>by rw[wO];exact cell_of_heap k2 hu)
    rw[wO]at hz;exact⟨z,by simp[zdw,Array.getD_eq_getD_getElem?,h1,asAddr,hz],hrz⟩
   ·cases h
  ·rename_i k sz hb;split at h
   ·rename_i τ l E n hl hagg hn;simp only[resQ,hb,hl,hn,decide_eq_true_eq]at hq;cases hbb:τ.is1&&Nat.beq sz 1<;>rw[hbb]at h<;>simp only[qT,qF,reduceCtorEq,qI]at h
    subst h;simp only[qA]at hbb;have hsz:τ.sz=1:=q5k hbb.1;obtain⟨u,h1,B,n0,c0,ho,rfl⟩:=hr.frame _ _ hb;obtain⟨ad,c',q1,q2⟩:=hr.fin.mem.holds _ _ hl;rw[ho]at q1;simp only[qI,qP]at q1;obtain⟨rfl,rfl,rfl⟩:=q1;rcases q2 with ⟨q2,_⟩|⟨g,vs,fz,k1,k2,k3,k4,k5,k6,k7,k8,k9⟩
    ·cases q2
    ·simp only[qI,Addr.mk.injEq,and_true]at k1;subst k1;have hfl:(l.flatMap τ.enc).length=n:=by rw[qjv,hsz,hq,Nat.mul_one]
     have hload:q1g P T (l.flatMap τ.enc) 0=some (.agg (l.flatMap τ.enc)):=by
      unfold q1g;rw[hagg,hn];have:Nat.ble (0+n) (l.flatMap τ.enc).length=true:=by rw[hfl,wO];simp
      simp only[this,qT,List.drop_zero];rw[List.take_of_length_le (by rw[hfl];exact wF _)]
     obtain⟨u,hu,us,rfl,hru⟩:=qmd (P:=P) (w:=w) hload (B:=B) (o:=0) k7 (fun j u hu=>by
      rw[List.getElem?_take]at hu;split at hu
      ·rw[wO];exact cell_of_heap k2 hu
      ·cases hu)
     simp only[Nat.add_zero]at hu;refine⟨.agg us,by simp[zdw,Array.getD_eq_getD_getElem?,h1,asAddr,hu],?_⟩
     have:=q7i (G:=G) hbb.1 hru;simpa using this
   ·cases h
  ·cases h
theorem q3d (hr:Rel vbr vbm vbo G s a w):∀ {xs:List ResultVar} {vs:List AV},zj5 P s xs=true->qw7 P s xs=some vs ->
  ∃ us:List Value,(xs.mapM (zdw a.tmps)).run P w = .ok us w/\Reps vs G us
 | [],vs,_,h=>by simp only[qw7,qI]at h;subst h;exact⟨[],by simp,trivial⟩
 | x::xs,vs,hq,h=>by
  simp only[zj5,qA]at hq;simp only[qw7]at h;split at h
  ·rename_i v hv;split at h
   ·rename_i us hus;simp only[qI]at h;subst h;obtain⟨u,hu,hru⟩:=zek hr hq.1 hv;obtain⟨us',hu',hru'⟩:=q3d hr hq.2 hus;refine⟨u::us',?_,hru,hru'⟩;rw[List.mapM_cons];simp only[Sem.run_bind,hu,Result.andThen_ok,hu',Sem.run_pure]
   ·cases h
  ·cases h
theorem zrv (hr:Rel vbr vbm vbo G s a w) {fn:Func} {v:AV} (hq:zj5 P s fn.results.toList=true) (h:aret P fn s=some v):∃ u,(results fn a.tmps).run P w = .ok u w/\Rep v G u:=by
 unfold aret at h;have key:∀ vs,qw7 P s fn.results.toList=some vs->∃ us:List Value,(results fn a.tmps).run P w = .ok (if h:us.toArray.size=1 then us.toArray[0] else .tuple us.toArray) w/\Reps vs G us:=fun vs hv=>by
  obtain⟨us,h1,h2⟩:=q3d hr hq hv;refine⟨us,?_,h2⟩;rw[zeh,Array.mapM_eq_mapM_toList];simp only[Sem.run_bind,Sem.run_map,h1,Result.andThen_ok,Sem.run_pure]
 split at h
 ·rename_i vs hv;obtain⟨us,h1,h2⟩:=key _ hv;split at h
  ·simp only[qI]at h;subst h
   match us,h2 with
   | [u],h2=>exact⟨u,by rw[h1];rfl,h2.1⟩
   | [],h2=>exact h2.elim
   | _::_::_,h2=>exact h2.2.elim
  ·rename_i hne;simp only[qI]at h;subst h;refine⟨.tuple us.toArray,?_,us.toArray,rfl,by simpa using h2⟩
   rw[h1,dif_neg];intro he;have hl:=h2.length;simp at he;rw[he]at hl
   match vs,hl,hne with
   | [x],_,hne=>exact hne x rfl
 ·cases h
theorem Rel.frzC {p:Pt} {b off:Nat} {s:St} {G:Gh} (hr:Rel vbr vbm vbo G s a w):∃ G',Rel vbr vbm vbo G' (frzC p b off s) a w:=by
 unfold Sym.frzC;split
 ·exact hr.frzL
 ·exact⟨G,hr⟩
theorem Rel.coR {bs:List (Nat×BPt)}:∀ {xs:List ResultVar} {ps:List Pt} {s:St} {G:Gh},Rel vbr vbm vbo G s a w->∃ G',Rel vbr vbm vbo G' (coR bs xs ps s) a w
 | [],_,s,G,hr=>⟨G,hr⟩
 | x::xs,ps,s,G,hr=>by
  unfold Sym.coR;split
  ·exact⟨G,hr⟩
  ·split
   ·obtain⟨G',hr'⟩:=hr.coF (bs:=bs) (l:=[(_,_)]);exact Rel.coR hr'
   ·split
    ·obtain⟨G',hr'⟩:=hr.coB1 (bs:=bs);obtain⟨G2,hr2⟩:=hr'.frzC;exact Rel.coR hr2
    ·exact Rel.coR hr
theorem q69 (hr:Rel vbr vbm vbo G s a w) {ids:NM} (hid:∀ n bx,look vbo n=some bx->qa4 ids n=some n) {v:AV} {p:Pt} {hp:List (Nat×BPt)} {y:p.den×bden hp} (h:finV v ids p hp s=some y) :
  ∃ G',Fin vbr vbm vbo G' (bput hp y.2) w/\∀ u,Rep v G u->Rep (p.put y.1) G' u:=by
 unfold finV at h;split at h
 ·rename_i d nm h1;split at h
  ·rename_i d' nm' h2;cases hq:qam nm'&&q6n nm' hp<;>rw[hq]at h<;>simp only[qT,qF,reduceCtorEq]at h
   have h:=qJ h;subst h;simp only[qA]at hq;obtain⟨g1,g2⟩:=Pt.get_seen h1;obtain⟨b1,b2⟩:=qrx h2;obtain⟨b3,_⟩:=b2 nm' hq.1 (SubN.refl _);exact⟨G.view nm',hr.fin.fit hq.1 (fun n bx hb=>b1 _ _ (g1 _ _ (hid n bx hb))) b3,fun u hu=>(g2 nm' hq.1 b1).rep hu⟩
  ·cases h
 ·cases h
def zj6 (P:Program) (fn:Func) (rv:Option AV) (a:Act) (w:World) (Q:Value->Prop):Prop:=
 match rv with
 | none=>∃ u,(results fn a.tmps).run P w = .ok u w/\Q u
 | some x=>∀ b,x = .val (.bool b)->Q (.bool b)
theorem zg0 (hr:Rel vbr vbm vbo G s a w) {ids:NM} (hid:∀ n bx,look vbo n=some bx->qa4 ids n=some n) {fn:Func} {rv:Option AV} {p:Pt} {hp:List (Nat×BPt)} {y:p.den×bden hp} (hq:finQ P fn ids rv p hp s=true) (h:zhy P fn ids rv p hp s=some y) :
  zj6 P fn rv a w fun u=>∃ G',Fin vbr vbm vbo G' (bput hp y.2) w/\Rep (p.put y.1) G' u:=by
 unfold zhy at h;split at h
 ·rename_i x;obtain⟨G1,hr1⟩:=hr.coB (bs:=hp) (nm:=ids) (l:=hp);obtain⟨G',h1,h2⟩:=q69 hr1 hid h;exact fun b e=>⟨G',h1,h2 _ (by subst e;rfl)⟩
 ·split at h
  ·rename_i v hv;obtain⟨G1,hr1⟩:=hr.coB (bs:=hp) (nm:=ids) (l:=hp);obtain⟨G2,hr2⟩:=hr1.coR (bs:=hp) (xs:=fn.results.toList) (ps:=zmn p);obtain⟨G',h1,h2⟩:=q69 hr2 hid h;obtain⟨u,hu,hru⟩:=zrv hr2 hq hv;exact⟨u,hu,G',h1,h2 _ hru⟩
  ·cases h
omit [LC] in
theorem zj6.mono {fn:Func} {rv:Option AV} {Q Q':Value->Prop} (h:zj6 P fn rv a w Q) (k:∀ v,Q v->Q' v):zj6 P fn rv a w Q':=by
 cases rv with
 | none=>obtain⟨u,h1,h2⟩:=h;exact⟨u,h1,k _ h2⟩
 | some x=>exact fun b e=>k _ (h b e)
theorem zc3 (hr:Rel vbr vbm vbo G s a w) {ids:NM} (hid:∀ n bx,look vbo n=some bx->qa4 ids n=some n) {fn:Func} {rv:Option AV}:∀ {α:Type} {enc:RS α} {x:α},enc.fin P fn ids rv s=some x ->
  zj6 P fn rv a w fun u=>∃ G',Fin vbr vbm vbo G' (enc.res x).2 w/\Rep (enc.res x).1 G' u
 | _,.one p hp to fro ok,x,h=>by
  simp only[RS.fin]at h;cases hq:finQ P fn ids rv p hp s<;>rw[hq]at h<;>simp only[qT,qF,reduceCtorEq]at h
  split at h
  ·rename_i y hy;have h:=qJ h;subst h;have:=zg0 (P:=P) hr hid hq hy;simp only[RS.res,ok];exact this
  ·cases h
 | _,.two l r,x,h=>by
  simp only[RS.fin]at h;split at h
  ·rename_i y hy;have h:=qJ h;subst h;have:=zc3 (enc:=l) hr hid hy;exact this
  ·split at h
   ·rename_i y hy;have h:=qJ h;subst h;have:=zc3 (enc:=r) hr hid hy;exact this
   ·cases h
theorem q48:∀ {ns:List Nat} {s s':St} {G:Gh} {a:Act} {w:World},s.df=ns->q2v ns s=some s'->Rel vbr vbm vbo G s a w->∀ (fr:Frame) (cs:List Frame),fr.mode = .returning->fr.defers=a.defers ->
  ∃ w',Rel vbr vbm vbo G s' { a with defers:=[] } w'/\Steps P (lone fr cs w) (lone { fr with defers:=[] } cs w')
 | [],s,s',G,a,w,hd,h,hr,fr,cs,hm,hfd=>by
  simp only[q2v,qI]at h;subst h;obtain⟨bs,h1,h2⟩:=hr.defers;rw[hd]at h2;have:bs=[]:=by cases bs with
   | nil=>rfl
   | cons _ _=>simp at h2
  subst this;refine⟨w,⟨⟨[],rfl,rfl⟩,hr.size,hr.frame,hr.fresh,hr.fin⟩,?_⟩;have e:({ fr with defers:=[] }:Frame)=fr:=by rw[← show fr.defers=[] by rw[hfd,h1];rfl]
  rw[e];exact .refl _ _
 | n::ns,s,s',G,a,w,hd,h,hr,fr,cs,hm,hfd=>by
  simp only[q2v]at h;split at h
  ·rename_i hl;obtain⟨bs,h1,h2⟩:=hr.defers;rw[hd]at h2
   cases bs with
   | nil=>simp at h2
   | cons b bs=>
    simp only[List.map_cons,List.cons.injEq]at h2;obtain⟨B,k1,k2,k3⟩:=hr.fin.mem.holds n _ hl;rw[k1]at h2;obtain⟨e,h2⟩:=h2;injection e with e;subst e
    have hr1:=hr.setBox (bx' := .dead) (o := .deferred none) hl (show G.at n .dfr=some b from k1) (fun c hc=>by cases hc) trivial k3
    have hr2:Rel vbr vbm vbo G { s with hp:=(n,.dead)::s.hp,df:=ns } { a with defers:=bs.map (fun b=>{ target := .collected b,args:=#[] }) } (w.putObj b (.deferred none)):=
     ⟨⟨bs,rfl,h2⟩,hr1.size,hr1.frame,hr1.fresh,hr1.fin⟩
    have hs:=step_collected (P:=P) (cs:=cs) (fr:=fr) (by rw[hm];simp) (by rw[hfd,h1];rfl) rfl (run_takeDeferred k2)
    obtain⟨w',i1,i2⟩:=q48 (a:={ a with defers:=bs.map (fun b=>{ target := .collected b,args:=#[] }) }) rfl h hr2 { fr with defers:=[]++bs.map (fun b=>{ target := .collected b,args:=#[] }) } cs hm rfl
    exact⟨w',i1,(Steps.one hs).trans i2⟩
  ·cases h
end
end Go.Sym
namespace Go.Sym
open Go.RowKit
variable [LC]
structure Cx.Ok (cx:Cx) (body:Code):Prop where
 ents:∀ e∈cx.tb.ents,e.Sound cx.P
 mixed:cx.P.follows .mixedOrders=true
 func:cx.P.funcs[cx.f]? = some cx.fn
 tags:∀ p t,q4f p cx.tags=some t->∀ g ps x y,sub body p = .rangeFunc g ps x y->LC.lc t=some (x,y)
def RdOk (cx:Cx) (vbm:Gh) (vbo:List (Nat×Box)) (b:Frame):Prop:=match cx.rd with
 | none=>b.roundOf=none
 | some m=>∃ B bx,vbm.box m=some B/\look vbo m=some bx/\b.roundOf=some B
section
variable {vbr:World} {vbm:Gh} {vbo:List (Nat×Box)} {G:Gh} {s:St} {a:Act} {w:World}
omit [LC] in
theorem qxr {P:Program} (fn:FuncId) (tmps:Array Value) (ps:Array Tmp) (asn bo:Code) {l:Nat} {r:Loop} (h:w.heap[l]? = some (.loop r)) :
  (Instr.enterLoop fn tmps ps asn bo (some l)).run P w = .ok (w.heap.size,[]) (w.alloc (.loop { state := .ready,pending:=none,fn,tmps,params:=ps,assign:=asn,body:=bo,defers:=r.defers })):=by
 unfold Instr.enterLoop;simp only[Sem.run_bind,run_getLoop h,run_newObj_alloc,Result.andThen,Sem.run_pure]
theorem zkf (hr:Rel vbr vbm vbo G s a w) {k D DB:Nat} {f:FuncId} {ps:Array Tmp} {tag:Nat} {asn bo:Code} (htag:LC.lc tag=some (asn,bo)) (hk:look s.hp k=none) (hkx:s.nx<=k) (hD:G.box D=some DB) (hne:D≠k) :
  Rel vbr vbm vbo (G.addBox k w.heap.size) { s with hp:=(k,.loop .ready none f s.n s.fr ps.toList tag D)::s.hp } a (w.alloc (.loop { state := .ready,pending:=none,fn:=f,tmps:=a.tmps,params:=ps,assign:=asn,body:=bo,defers:=DB })):=by
 have hle:G.le (G.addBox k w.heap.size):=Gh.addBox_le (hr.fresh k hkx hk).1;refine hr.newBox hk hkx (fun b hb => ?_) ⟨w.heap.size,a.tmps,DB,Gh.addBox_self,by rw[Gh.addBox_ne hne];exact hD,⟨asn,bo,htag,?_⟩,hr.size,fun i x hx => ?_,fun o => ?_⟩
 ·have hb:(G.addBox k w.heap.size).box k=some b:=hb;rw[Gh.addBox_self]at hb;injection hb with hb;exact hb.symm
 ·rw[qcc];simp
 ·obtain⟨v,h1,h2⟩:=hr.frame i x hx;exact⟨v,h1,h2.le hle⟩
 ·cases hq:(G.addBox k w.heap.size).imm w.heap.size o with
  | none=>rfl
  | some v=>
   have:=World.block_lt_of_cell? _ _ (hr.fin.mem.agree _ _ _ hq);simp at this
theorem Rel.nx (hr:Rel vbr vbm vbo G s a w) {k:Nat} (h:s.nx<=k):Rel vbr vbm vbo G { s with nx:=k } a w:=⟨hr.defers,hr.size,hr.frame,fun m hm hl=>hr.fresh m (Nat.le_trans h hm) hl,hr.fin⟩
theorem zen (hr:Rel vbr vbm vbo G s a w) {cx:Cx} {ps:Array Tmp} {tag:Nat} {asn bo:Code} (htag:LC.lc tag=some (asn,bo)) {s1:St} (h:s.enterRF cx.f ps.toList tag cx.rd=some s1) {b:Frame} (hb:b.fn=cx.f) (hrd:RdOk cx vbm vbo b) :
  ∃ G1 l mark w1,(Instr.enterLoop b.fn a.tmps ps asn bo b.roundOf).run cx.P w = .ok (l,mark) w1/\G1.box s.nx=some l/\G.le G1/\Rel vbr vbm vbo G1 s1 { a with defers:=mark++a.defers } w1/\s1.nx=s.nx+32:=by
 unfold St.enterRF at h;cases hn:qah s.nx s.hp<;>rw[hn]at h<;>simp only[qT,qF,reduceCtorEq]at h
 have hk0:=qb6 hn s.nx (wF _) (by omega)
 have hk1:=qb6 hn (s.nx+1) (by omega) (by omega)
 unfold RdOk at hrd;split at h
 ·rename_i hc;rw[hc]at hrd;simp only at hrd;simp only[qI]at h;subst h;have hr1:=hr.newBox (k:=s.nx+1) (bx := .dfr) (o := .deferred (some [])) hk1 (by omega) (fun b hb=>by
   have hb:(G.addBox (s.nx+1) w.heap.size).box (s.nx+1)=some b:=hb;rw[Gh.addBox_self]at hb;injection hb with hb;exact hb.symm)
   ⟨w.heap.size,Gh.addBox_self,qcc _ _,fun o=>by
    cases hq:(G.addBox (s.nx+1) w.heap.size).imm w.heap.size o with
    | none=>rfl
    | some v=>
     have:=World.block_lt_of_cell? _ _ (hr.fin.mem.agree _ _ _ hq);simp at this⟩
  have hk0':look ((s.nx+1,Box.dfr)::s.hp) s.nx=none:=by
   simp only[look];have:Nat.beq (s.nx+1) s.nx=false:=by
    cases hq:Nat.beq (s.nx+1) s.nx
    ·rfl
    ·have:=qN hq;omega
   rw[this];exact hk0
  have hr2:=zkf hr1 (k:=s.nx) (D:=s.nx+1) (f:=cx.f) (ps:=ps) htag hk0' (wF _) Gh.addBox_self (by omega)
  have hle1:G.le (G.addBox (s.nx+1) w.heap.size):=Gh.addBox_le (hr.fresh (s.nx+1) (by omega) hk1).1
  have hle2:(G.addBox (s.nx+1) w.heap.size).le ((G.addBox (s.nx+1) w.heap.size).addBox s.nx (w.alloc (.deferred (some []))).heap.size):=Gh.addBox_le (hr1.fresh s.nx (wF _) hk0').1;refine⟨_,w.heap.size+1,[{ target := .collected w.heap.size,args:=#[] }],_,by rw[hrd,hb];exact run_enterLoop_outer _ _ _ _ _,?_,hle1.trans hle2,?_,rfl⟩
  ·rw[Gh.addBox_self,World.size_alloc]
  ·have hr3:=hr2.nx (k:=s.nx+32) (by show s.nx<=_;omega)
   refine⟨?_,hr3.size,hr3.frame,hr3.fresh,hr3.fin⟩;obtain⟨bs,h1,h2⟩:=hr3.defers;refine⟨w.heap.size::bs,by rw[h1];rfl,?_⟩
   simp only[List.map_cons,List.cons.injEq];refine⟨?_,h2⟩;rw[Gh.addBox_ne (by omega),Gh.addBox_self]
 ·rename_i m hc;rw[hc]at hrd;simp only at hrd;obtain⟨B,bx0,e1,e2,e3⟩:=hrd;split at h
  ·rename_i D hm;simp only[qI]at h;subst h;obtain⟨B',tmps,DB,k1,k2,⟨asn',bo',_,k3⟩,_⟩:=hr.fin.mem.holds _ _ hm;have:=hr.fin.keep m bx0 B e2 e1;rw[this]at k1;injection k1 with k1;subst k1
   have hne:D≠s.nx:=fun e=>by subst e;rw[(hr.fresh _ (wF _) hk0).1]at k2;cases k2
   have hr2:=zkf hr (k:=s.nx) (D:=D) (f:=cx.f) (ps:=ps) htag hk0 (wF _) k2 hne;have hle2:G.le (G.addBox s.nx w.heap.size):=Gh.addBox_le (hr.fresh s.nx (wF _) hk0).1;refine⟨_,w.heap.size,[],_,by rw[e3,hb];exact qxr _ _ _ _ _ k3,Gh.addBox_self,hle2,?_,rfl⟩
   exact hr2.nx (k:=s.nx+32) (by show s.nx<=_;omega)
  ·cases h
end
end Go.Sym
namespace Go.Sym
open Go.RowKit
variable [LC]
def zsj:Option Jmp->List Item
 | none=>[]
 | some j=>[.code j.code]
section
variable {vbr:World} {vbm:Gh} {vbo:List (Nat×Box)} {G:Gh} {s:St} {a:Act} {w:World} {cx:Cx} {body:Code} {R:Type}
theorem zjw (ok:cx.Ok body) (hr:Rel vbr vbm vbo G s a w) {p:List Nat} {g:Operand} {ps:Array Tmp} {asn bo:Code} (hsub:sub body p = .rangeFunc g ps asn bo) {q:Rq×St×List AV} (hq:zm3 cx p g ps.toList s=some q)
  {K:Option Jmp->St->Option R} {x:R} (h:rfGo s.nx q K=some x) {b:Frame} (cs:List Frame) (hb:b.fn=cx.f) (_hkind:b.kind = .normal) (hrd:RdOk cx vbm vbo b) (k:List Item) :
  ∃ j s' G' a' w',K j s'=some x/\Rel vbr vbm vbo G' s' a' w'/\Steps cx.P (lone (b.atR a (.code (.rangeFunc g ps asn bo)::k)) cs w) (lone (b.atR a' (zsj j++k)) cs w'):=by
 unfold zm3 at hq;split at hq
 ·rename_i tag h0 cap ht hg;split at hq
  ·rename_i s1 hs1;split at hq
   ·rename_i q1 hq1;have hq:=qJ hq;subst hq;obtain⟨G1,l,mark,w1,he,hl,hle,hr1,hnx⟩:=zen hr (ok.tags p tag ht g ps asn bo hsub) hs1 hb hrd;unfold rfGo at h;obtain⟨d,hd,h⟩:=Rq.K_some h;simp only at h hd;obtain⟨e,hemem,hc⟩:=qn7 hq1;unfold q8q at hc;cases hkk:q4g h0 e.key<;>rw[hkk]at hc<;>simp only[qT,qF,reduceCtorEq]at hc
    obtain⟨N,x1,x1',y,k1,k2,k3,k4,k5,k6⟩:=q5z hc hd;subst k2;have hs:=ok.ents e hemem x1 x1' y k1;rw[q5y hkk]at hs;obtain⟨hpl,hct⟩:=hs;unfold zo6 at h;simp only at h;cases hbb:qam N&&qgs N&&qah s1.nx s1.hp<;>rw[hbb]at h<;>simp only[qT,qF,reduceCtorEq]at h
    simp only[qA]at hbb;obtain⟨⟨hb1,_⟩,hb2⟩:=hbb
    cases hv:qm2 (rho N) s1.hp N with
    | none=>rw[hv]at h;simp only[reduceCtorEq]at h
    | some hpv=>
    cases hvs:vws false [] (AV.rens (rho N) (.yld s.nx::cap)) (Pts.put e.args x1) with
    | none=>rw[hv,hvs]at h;simp only[reduceCtorEq]at h
    | some ps1=>
    rw[hv,hvs]at h;simp only at h
    cases hvw:vwHp hpv (bput e.hp x1') with
    | none=>rw[hvw]at h;simp only[reduceCtorEq]at h
    | some ps2=>
    rw[hvw]at h;simp only at h;have p1:=k5 _ hvs;have p2:=k6 _ _ hv hvw;obtain⟨fs,cps,hge,hfs,hcs⟩:=qcj hr hg;have hfs0:fs=#[]:=Array.eq_empty_of_size_eq_zero (by simpa using hfs.length.symm)
    subst hfs0;have hge':({ a with defers:=mark++a.defers }:Act).eval g = .func (.func h0) #[] cps:=hge
    have hres:(resolve a.eval (rangeCall g l) 0).run cx.P w1 = .ok { target := .fn (.func h0) cps,args:=#[.func (.yield l) #[] #[]] } w1:=by
     have hy:a.eval (.const (.func (.yield l) #[] #[])) = .func (.yield l) #[] #[]:=rfl;simp[resolve,hge,Deferred.ofValue,hy]
    have hinv:(invoke (.fn (.func h0) cps) #[.func (.yield l) #[] #[]]).run cx.P w1 = .ok (.enter h0 (#[.func (.yield l) #[] #[]]++cps)) w1:=by
     simp[invoke,hpl _ w1]
    have henter:=stepR_rangeFunc (P:=cx.P) (b:=b) (a:=a) (k:=k) (cs:=cs) he hres hinv;have hreps:Reps (.yld s.nx::cap) G1 (.func (.yield l) #[] #[]::cps.toList):=⟨⟨l,hl,rfl⟩,hcs.le hle⟩;have hm:Mem (G1.view N) (bput e.hp x1') w1:=(hr1.fin.mem.view hv (qfx hb1)).vw hvw p2;have hreps2:=qsh (Gh.le.refl _) (fun e=>by cases e) hvs p1 (Reps.ren (G:=G1) (G':=G1.view N) (fun _ _ _ h=>h) (qo6 N) (qrl N) hreps)
    have hcalls:=hct w1 (G1.view N) _ hm hreps2;have e1:(Value.func (.yield l) #[] #[]::cps.toList).toArray=#[.func (.yield l) #[] #[]]++cps:=by simp
    rw[e1]at hcalls;obtain⟨en,w2,fr,hpost,hcomes,hfrfn,hleave⟩:=hcalls (b.atR { a with defers:=mark++a.defers } (.inRangeFunc l::k)::cs)
    obtain⟨G2,v,rfl,_,hle2,hr2⟩:=zih hr1 hb1 hb2 (wF _) hv hvw p2 hpost;have hsteps:Steps cx.P (lone (b.atR a (.code (.rangeFunc g ps asn bo)::k)) cs w) (lone (b.atR { a with defers:=mark++a.defers } (.endRangeFunc l::k)) cs w2):=by
     refine (Steps.one henter).trans (Steps.trans hcomes (.one ?_));rw[← finish_atR_inRangeFunc l v];exact step_leave_returned hleave
    split at h
    ·rename_i st pe f' n' fr' ps' tag' D' hlk;cases hnb:zjq st<;>rw[hnb]at h<;>simp only[qT,qF,reduceCtorEq]at h
     obtain⟨B,tmps,DB,i1,i2,⟨asn',bo',_,i3⟩,i4,i5,i6⟩:=hr2.fin.mem.holds _ _ hlk;have:=hle2.box _ _ hl;rw[this]at i1;injection i1 with i1;subst i1
     have hend:=run_endLoop (P:=cx.P) i3 (by intro e;simp only at e;subst e;cases hnb)
     have hst:=stepR_endRangeFunc (b:=b) (a:={ a with defers:=mark++a.defers }) (k:=k) (cs:=cs) hend
     have e2:(Option.map Item.code (Option.map Jmp.code pe)).toList=zsj pe:=by cases pe<;>rfl
     rw[e2]at hst;exact⟨pe,_,G2,{ a with defers:=mark++a.defers },_,h,(hr2.nx (k:=s1.nx+32) (Nat.le_add_right _ _)).setBox (bx' := .dead) hlk (show G2.at s.nx (.loop st pe f' n' fr' ps' tag' D')=some l from this) (fun c hc=>by cases hc) trivial i6,hsteps.trans (.one hst)⟩
    ·cases h
   ·cases hq
  ·cases hq
 ·cases hq
theorem zwo (ok:cx.Ok body) (hr:Rel vbr vbm vbo G s a w) {p:List Nat} {g:Operand} {ps:Array Tmp} {asn bo:Code} (hsub:sub body p = .rangeFunc g ps asn bo)
  {K:Option Jmp->St->Option R} {x:R} (h:rfR cx p g ps.toList s K=some x) {b:Frame} (cs:List Frame) (hb:b.fn=cx.f) (hkind:b.kind = .normal) (hrd:RdOk cx vbm vbo b) (k:List Item) :
  ∃ j s' G' a' w',K j s'=some x/\Rel vbr vbm vbo G' s' a' w'/\Steps cx.P (lone (b.atR a (.code (.rangeFunc g ps asn bo)::k)) cs w) (lone (b.atR a' (zsj j++k)) cs w'):=by
 unfold rfR at h;split at h
 ·rename_i q hq;exact zjw ok hr hsub hq h cs hb hkind hrd k
 ·split at h
  ·rename_i s' hs';have:∃ G',Rel vbr vbm vbo G' s' a w:=by
    unfold zul at hs';split at hs'
    ·split at hs'
     ·split at hs'
      ·have hs':=qJ hs';subst hs';obtain⟨G1,hr1⟩:=hr.frzL;exact hr1.coB
      ·cases hs'
     ·cases hs'
    ·cases hs'
   obtain⟨G',hr'⟩:=this;split at h
   ·rename_i q hq;exact zjw ok hr' hsub hq h cs hb hkind hrd k
   ·cases h
  ·cases h
def Goes (cx:Cx) (vbo:List (Nat×Box)) {R:Type} (enc:RS R) (k:List Item) (s:St) (r:R):Prop:=
 ∀ (vbr:World) (vbm G:Gh) (a:Act) (w:World),Rel vbr vbm vbo G s a w->∀ (b:Frame) (cs:List Frame),b.fn=cx.f->b.kind = .normal->RdOk cx vbm vbo b ->
  qx9 cx.P b.roundOf cx.f (lone (b.atR a k) cs w) cs fun v w'=>∃ G',Fin vbr vbm vbo G' (enc.res r).2 w'/\Rep (enc.res r).1 G' v
def zrx (cx:Cx) (j:Option Jmp) (k:List Item):Prop:=match j with
 | none=>k=[]
 | some .ret=>∃ k',k = .code .ret::k'
 | some (.exit id)=>cx.rd≠none/\∃ k',k = .code (.exit id)::k'/\exitTo id k'=none
theorem q6f (ok:cx.Ok body) (hid:∀ n bx,look vbo n=some bx->qa4 cx.ids n=some n) {enc:RS R} {j:Option Jmp} {r:R} {k:List Item} (hk:zrx cx j k) (h:endq cx enc j s=some r):Goes cx vbo enc k s r:=by
 intro vbr vbm G a w hr b cs hb hkind hrd;unfold endq at h;unfold RdOk at hrd;split at h
 ·rename_i hrdn;rw[hrdn]at hrd;simp only at hrd;split at h
  ·rename_i s' hs';have h1:Steps cx.P (lone (b.atR a k) cs w) (lone { b.atR a k with mode := .returning } cs w):=by
    cases j with
    | none=>simp only[zrx]at hk;subst hk;exact .one (stepR_end hrd)
    | some j=>cases j with
     | ret=>obtain⟨k',rfl⟩:=hk;exact .one (stepR_ret hrd)
     | exit id=>exact absurd hrdn hk.1
   obtain⟨w',i1,i2⟩:=q48 (P:=cx.P) rfl hs' hr { b.atR a k with mode := .returning } cs rfl rfl
   obtain⟨u,u1,u2⟩:=zc3 (P:=cx.P) i1 hid h;rw[hrd];exact⟨u,w',_,u2,h1.trans i2,hb,rfl,rfl,hkind,cx.fn,by rw[← ok.func,← hb];rfl,u1⟩
  ·cases h
 ·rename_i m hrdm;rw[hrdm]at hrd;simp only at hrd;obtain⟨B,bx0,e1,e2,e3⟩:=hrd;cases hd:s.noDf<;>rw[hd]at h<;>simp only[qT,qF,reduceCtorEq]at h
  split at h
  ·rename_i st pe f n fr ps tag D hl;obtain⟨B',tmps,DB,i1,i2,⟨asn,bo,i3,i4⟩,i5,i6,i7⟩:=hr.fin.mem.holds _ _ hl;have:=hr.fin.keep m bx0 B e2 e1;rw[this]at i1;injection i1 with i1;subst i1
   have hend:=run_endRound (P:=cx.P) (j.map Jmp.code) i4;have hiso:(j.map Jmp.code).isNone=isNo j:=by cases j<;>rfl
   rw[hiso]at hend;have hst:(if isNo j=true then LoopState.ready else LoopState.done)=(bif isNo j then LoopState.ready else LoopState.done):=by cases isNo j<;>rfl
   rw[hst]at hend;have hr2:=hr.setBox (bx' := .loop (bif isNo j then .ready else .done) j f n fr ps tag D) (o := .loop { state:=bif isNo j then .ready else .done,pending:=j.map Jmp.code,fn:=f,tmps:=tmps,params:=ps.toArray,assign:=asn,body:=bo,defers:=DB }) hl (show G.box m=some B from this)
    (fun c hc=>by have hc:G.box m=some c:=hc;rw[this]at hc;injection hc with hc;exact hc.symm)
    ⟨B,tmps,DB,this,i2,⟨asn,bo,i3,by rw[World.putObj_heap_same (Array.getElem?_eq_some_iff.1 i4).1]⟩,i5,i6,i7⟩ i7
   have hfin:=zc3 (P:=cx.P) hr2 hid h;rw[e3];intro c cs' hcs;subst hcs;refine⟨.bool (isNo j),_,hfin _ rfl,.one ?_⟩
   cases j with
   | none=>simp only[zrx]at hk;subst hk;exact stepR_round_end e3 hkind hend
   | some j=>cases j with
    | ret=>obtain⟨k',rfl⟩:=hk;exact stepR_round_ret e3 hkind hend
    | exit id=>obtain⟨_,k',rfl,hx⟩:=hk;exact stepR_round_exit e3 hkind hx hend
  ·cases h
end
end Go.Sym
namespace Go.Sym
open Go.RowKit
variable [LC]
section
variable {vbo:List (Nat×Box)} {s:St} {cx:Cx} {body:Code} {R:Type} {enc:RS R}
theorem Goes.via {k k':List Item} {s':St} {r:R} (h:Goes cx vbo enc k' s' r) (hs:∀ vbr vbm G a w,Rel vbr vbm vbo G s a w->∀ (b:Frame) (cs:List Frame),b.fn=cx.f->b.kind = .normal->RdOk cx vbm vbo b ->
  ∃ G' a' w',Rel vbr vbm vbo G' s' a' w'/\Steps cx.P (lone (b.atR a k) cs w) (lone (b.atR a' k') cs w')):Goes cx vbo enc k s r:=by
 intro vbr vbm G a w hr b cs hb hk hrd;obtain⟨G',a',w',h1,h2⟩:=hs vbr vbm G a w hr b cs hb hk hrd;exact (h vbr vbm G' a' w' h1 b cs hb hk hrd).head h2
theorem Goes.one {k k':List Item} {r:R} (h:Goes cx vbo enc k' s r) (hs:∀ (a:Act) (w:World) (b:Frame) (cs:List Frame),step cx.P (lone (b.atR a k) cs w) = .next (lone (b.atR a k') cs w)):Goes cx vbo enc k s r:=
 h.via fun _ _ G a w hr b cs _ _ _=>⟨G,a,w,hr,.one (hs a w b cs)⟩
def q4i (cx:Cx) (vbo:List (Nat×Box)) {R:Type} (enc:RS R) (body:Code) (l:Lab R):Prop:=∀ d r,l.F d=some r->Goes cx vbo enc (qnh (qsk body l.key)) (l.ls.st d) r
omit [LC] in
theorem qxt {ids:NM} {s:St} {k:List PIt}:∀ {ls:List (Lab R)} {l:Lab R},qxz ids s k ls=some l->l∈ls/\zd0 l.key k=true
 | [],_,h=>by cases h
 | x::xs,l,h=>by
  simp only[qxz]at h;cases hb:zd0 x.key k<;>rw[hb]at h<;>simp only[qT,qF]at h
  ·obtain⟨h1,h2⟩:=qxt h;exact⟨qE _ h1,h2⟩
  ·split at h
   ·simp only[qI]at h;subst h;exact⟨qH,hb⟩
   ·rename_i l' hl;split at h
    ·simp only[qI]at h;subst h;exact⟨qH,hb⟩
    ·simp only[qI]at h;subst h;obtain⟨h1,h2⟩:=qxt hl;exact⟨qE _ h1,h2⟩
omit [LC] in
theorem ziw {i:PIt} {k:List PIt} (h:∀ x∈i::k,x.Ok body):i.Ok body/\∀ x∈k,x.Ok body:=⟨h _ qH,fun x hx=>h x (qE _ hx)⟩
omit [LC] in
theorem qno {i:PIt} {k:List PIt} (h:i.Ok body) (k':∀ x∈k,x.Ok body):∀ x∈i::k,x.Ok body:=fun x hx=>by
 rcases List.mem_cons.1 hx with rfl|hx
 ·exact h
 ·exact k' x hx
omit [LC] in
theorem zkq {kd:Nat} {p:List Nat} {c:Code} (h:(PIt.mk kd p (.code c)).Ok body):sub body p=c:=zat h
omit [LC] in
theorem qo8 {p:List Nat} {c:Code} (i:Nat) {x:Code} (h:sub body p=c) (hc:qyv i c=x):(PIt.mk 0 (i::p) (.code x)).Ok body:=by
 show Item.code x = .code (qyv i (sub body p));rw[h,hc]
omit [LC] in
theorem zn4 {p:List Nat} {id:Nat} {x:Code} (h:sub body p = .block id x):(PIt.mk 1 p (.inBlock id)).Ok body:=by
 show Item.inBlock id=(match sub body p with | .block id _ => .inBlock id|c => .code c)
 rw[h]
omit [LC] in
theorem q0r {p:List Nat} {x:Code} (h:sub body p = .loop x):(PIt.mk 2 p (.inLoop x)).Ok body:=by
 show Item.inLoop x=(match sub body p with | .loop x => .inLoop x|c => .code c)
 rw[h]
omit [LC] in
theorem q67 {P:Program} {b:Frame} {a:Act} {k:List Item} {cs:List Frame} {w:World} {x:Code}:step P (lone (b.atR a (.inScope x::k)) cs w) = .next (lone (b.atR a k) cs w):=
 step_lone_go (by simp[stepG,stepG.exec,Frame.atR])
omit [LC] in
theorem zaw {P:Program} {b:Frame} {a:Act} {k:List Item} {cs:List Frame} {w:World} {c:Code} :
  step P (lone (b.atR a (.code (.scope c)::k)) cs w) = .next (lone (b.atR a (.code c :: .inScope c::k)) cs w):=
 step_lone_go (by simp[stepG,stepG.exec,Frame.atR])
omit [LC] in
theorem q7f {p:List Nat} {x:Code} (h:sub body p = .scope x):(PIt.mk 3 p (.inScope x)).Ok body:=by
 show Item.inScope x=(match sub body p with | .scope x => .inScope x|c => .code c)
 rw[h]
omit [LC] in
theorem q0j {id:Nat}:∀ {k:List PIt},q2e id k=none->(∀ i∈k,i.Ok body)->exitTo id (qnh k)=none
 | [],_,_=>rfl
 | ⟨kd,p,it⟩::k,h,hk=>by
  simp only[q2e]at h;have hk':=(ziw hk).2;split at h
  ·rename_i id';split at h
   ·cases h
   ·rename_i he;simp only[qnh,exitTo];rw[qW he];exact q0j h hk'
  ·rename_i hne;have:=q0j h hk';simp only[qnh];cases it<;>first
    | (exfalso;exact hne _ rfl)
    | (simp only[exitTo];exact this)
abbrev IH (cx:Cx) (vbo:List (Nat×Box)) {R:Type} (enc:RS R) (body:Code) (labs:List (Lab R)) (n:Nat):Prop:=
 ∀ (chk:Bool) (k:List PIt) (s:St) (r:R),(∀ i∈k,i.Ok body)->run cx enc labs n chk k s=some r->Goes cx vbo enc (qnh k) s r
def qxq (cx:Cx) {R:Type} (enc:RS R) (labs:List (Lab R)) (n:Nat) (p:List Nat) (k':List PIt) (s:St) (c:Code):Option R:=match c with
 | .skip=>run cx enc labs n true k' s
 | .label _=>run cx enc labs n true k' s
 | .seq x y=>run cx enc labs n true (⟨0,0::p,.code x⟩::⟨0,1::p,.code y⟩::k') s
 | .cond c x y=>match s.ev c with
  | some (.bool b)=>bif b then run cx enc labs n true (⟨0,0::p,.code x⟩::k') (s.know c true) else run cx enc labs n true (⟨0,1::p,.code y⟩::k') (s.know c false)
  | some (.val (.bool b))=>bif b then run cx enc labs n true (⟨0,0::p,.code x⟩::k') s else run cx enc labs n true (⟨0,1::p,.code y⟩::k') s
  | _=>none
 | .block id x=>run cx enc labs n true (⟨0,0::p,.code x⟩::⟨1,p,.inBlock id⟩::k') s
 | .loop x=>run cx enc labs n true (⟨0,0::p,.code x⟩::⟨2,p,.inLoop x⟩::k') s
 | .scope x=>run cx enc labs n true (⟨0,0::p,.code x⟩::⟨3,p,.inScope x⟩::k') s
 | .exit id=>match q2e id k' with
  | some k''=>run cx enc labs n true k'' s
  | none=>match cx.rd with
   | some _=>endq cx enc (some (.exit id)) s
   | none=>none
 | .region _ ops d=>bif d then zrn cx.P cx.tb ops s (fun s'=>run cx enc labs n true k' s'.bump) else opsR cx.P cx.tb ops ops.toList s (fun s'=>run cx enc labs n true k' s'.bump)
 | .ret=>endq cx enc (some .ret) s
 | .rangeFunc g ps _ _=>rfR cx p g ps.toList s fun j s'=>match j with
  | none=>run cx enc labs n true k' s'
  | some .ret=>endq cx enc (some .ret) s'
  | some (.exit id)=>match q2e id k' with
   | some k''=>run cx enc labs n true k'' s'
   | none=>match cx.rd with
    | some _=>endq cx enc (some (.exit id)) s'
    | none=>none
 | _=>none
theorem zno {labs:List (Lab R)} {n:Nat} (ih:IH cx vbo enc body labs n) {p:List Nat} {k':List PIt} {c:Operand} {x y:Code} {r:R} (hsub:sub body p = .cond c x y) (hk':∀ i∈k',i.Ok body) (h:qxq cx enc labs n p k' s (.cond c x y)=some r):Goes cx vbo enc (.code (.cond c x y)::qnh k') s r:=by
 unfold qxq at h;simp only at h;split at h
 ·rename_i t ht;cases t<;>simp only[qT,qF]at h
  ·refine (ih true _ _ r (qno (qo8 1 hsub rfl) hk') h).via fun vbr vbm G a w hr b cs _ _ _ => ?_
   have he:a.eval c = .bool false:=qcj hr ht;exact⟨G,a,w,hr.know he,.one (stepR_cond he)⟩
  ·refine (ih true _ _ r (qno (qo8 0 hsub rfl) hk') h).via fun vbr vbm G a w hr b cs _ _ _ => ?_
   have he:a.eval c = .bool true:=qcj hr ht;exact⟨G,a,w,hr.know he,.one (stepR_cond he)⟩
 ·rename_i t ht;cases t<;>simp only[qT,qF]at h
  ·refine (ih true _ _ r (qno (qo8 1 hsub rfl) hk') h).via fun vbr vbm G a w hr b cs _ _ _ => ?_
   have he:a.eval c = .bool false:=qcj hr ht;exact⟨G,a,w,hr,.one (stepR_cond he)⟩
  ·refine (ih true _ _ r (qno (qo8 0 hsub rfl) hk') h).via fun vbr vbm G a w hr b cs _ _ _ => ?_
   have he:a.eval c = .bool true:=qcj hr ht;exact⟨G,a,w,hr,.one (stepR_cond he)⟩
 ·cases h
theorem ze8 (ok:cx.Ok body) {labs:List (Lab R)} {n:Nat} (ih:IH cx vbo enc body labs n) {p:List Nat} {k':List PIt} {id:Nat} {ops:Array Oper} {d:Bool} {r:R} (hk':∀ i∈k',i.Ok body) (h:qxq cx enc labs n p k' s (.region id ops d)=some r):Goes cx vbo enc (.code (.region id ops d)::qnh k') s r:=by
 unfold qxq at h;simp only at h;cases d<;>simp only[qT,qF]at h
 ·intro vbr vbm G a w hr b cs hb hkd hrd;have hops:=zfv (P:=cx.P) (ops:=ops) ok.ents (N:=fun a' w'=>qx9 cx.P b.roundOf cx.f (lone (b.atR a' (qnh k')) cs w') cs fun v w'=>∃ G',Fin vbr vbm vbo G' (enc.res r).2 w'/\Rep (enc.res r).1 G' v)
   (fun s' h' G' a' w' hr'=>ih true k' s'.bump r hk' h' vbr vbm G' a' w' hr'.bump b cs hb hkd hrd) ops.toList 0 s G a w (fun j hj=>by simp) h hr
  have e:List.range' 0 ops.toList.length=List.range ops.size:=by simp[List.range_eq_range']
  rw[e]at hops;obtain⟨a',w',h1,h2⟩:=zrl (id:=id) hops b (qnh k') cs hkd;exact h1.head h2
 ·intro vbr vbm G a w hr b cs hb hkd hrd;obtain⟨a',w',h1,h2⟩:=zlz (P:=cx.P) ok.ents ok.mixed h (N:=fun a' w'=>qx9 cx.P b.roundOf cx.f (lone (b.atR a' (qnh k')) cs w') cs fun v w'=>∃ G',Fin vbr vbm vbo G' (enc.res r).2 w'/\Rep (enc.res r).1 G' v)
   (fun s' h' G' a' w' hr'=>ih true k' s'.bump r hk' h' vbr vbm G' a' w' hr'.bump b cs hb hkd hrd) hr id b (qnh k') cs hkd
  exact h1.head h2
theorem zck (ok:cx.Ok body) (hid:∀ n bx,look vbo n=some bx->qa4 cx.ids n=some n) {labs:List (Lab R)} {n:Nat} (ih:IH cx vbo enc body labs n) {k':List PIt} {id:Nat} {r:R} (hk':∀ i∈k',i.Ok body)
  (h:(match q2e id k' with
   | some k''=>run cx enc labs n true k'' s
   | none=>match cx.rd with
    | some _=>endq cx enc (some (.exit id)) s
    | none=>none)=some r):Goes cx vbo enc (.code (.exit id)::qnh k') s r:=by
 split at h
 ·rename_i k'' hx;obtain⟨h1,h2⟩:=q0c hx;exact (ih true k'' s r (fun i hi=>hk' i (h2 i hi)) h).one fun a w b cs=>stepR_exit h1
 ·rename_i hx;split at h
  ·rename_i m hm;exact q6f ok hid (j:=some (.exit id)) ⟨by rw[hm];simp,_,rfl,q0j hx hk'⟩ h
  ·cases h
theorem zid (ok:cx.Ok body) (hid:∀ n bx,look vbo n=some bx->qa4 cx.ids n=some n) {labs:List (Lab R)} {n:Nat} (ih:IH cx vbo enc body labs n) {p:List Nat} {k':List PIt} {g:Operand} {ps:Array Tmp} {asn bo:Code} {r:R} (hsub:sub body p = .rangeFunc g ps asn bo) (hk':∀ i∈k',i.Ok body)
  (h:qxq cx enc labs n p k' s (.rangeFunc g ps asn bo)=some r):Goes cx vbo enc (.code (.rangeFunc g ps asn bo)::qnh k') s r:=by
 unfold qxq at h;simp only at h;intro vbr vbm G a w hr b cs hb hkd hrd;obtain⟨j,s',G',a',w',h1,h2,h3⟩:=zwo ok hr hsub h cs hb hkd hrd (qnh k');refine qx9.head h3 ?_
 cases j with
 | none=>exact ih true k' s' r hk' h1 vbr vbm G' a' w' h2 b cs hb hkd hrd
 | some j=>cases j with
  | ret=>exact q6f ok hid (j:=some .ret) (k := .code .ret::qnh k') ⟨_,rfl⟩ h1 vbr vbm G' a' w' h2 b cs hb hkd hrd
  | exit id=>exact zck ok hid ih hk' h1 vbr vbm G' a' w' h2 b cs hb hkd hrd
theorem zli (ok:cx.Ok body) (hid:∀ n bx,look vbo n=some bx->qa4 cx.ids n=some n) {labs:List (Lab R)} {n:Nat} (ih:IH cx vbo enc body labs n) {kd:Nat} {p:List Nat} {k':List PIt} {c:Code} {r:R} (hi:(PIt.mk kd p (.code c)).Ok body) (hk':∀ i∈k',i.Ok body)
  (h:qxq cx enc labs n p k' s c=some r):Goes cx vbo enc (.code c::qnh k') s r:=by
 have hsub:=zkq hi
 cases c with
 | skip=>exact (ih true k' s r hk' h).one fun a w b cs=>stepR_skip
 | label l=>exact (ih true k' s r hk' h).one fun a w b cs=>stepR_label
 | seq x y=>exact (ih true _ s r (qno (qo8 0 hsub rfl) (qno (qo8 1 hsub rfl) hk')) h).one fun a w b cs=>stepR_seq
 | cond c x y=>exact zno ih hsub hk' h
 | block id x=>exact (ih true _ s r (qno (qo8 0 hsub rfl) (qno (zn4 hsub) hk')) h).one fun a w b cs=>stepR_block
 | loop x=>exact (ih true _ s r (qno (qo8 0 hsub rfl) (qno (q0r hsub) hk')) h).one fun a w b cs=>stepR_loop
 | scope x=>exact (ih true _ s r (qno (qo8 0 hsub rfl) (qno (q7f hsub) hk')) h).one fun a w b cs=>zaw
 | exit id=>exact zck ok hid ih hk' h
 | region id ops d=>exact ze8 ok ih hk' h
 | ret=>exact q6f ok hid (j:=some .ret) ⟨_,rfl⟩ h
 | rangeFunc g ps asn bo=>exact zid ok hid ih hsub hk' h
 | _=>cases h
theorem zgm {labs:List (Lab R)} {n:Nat} (ih:IH cx vbo enc body labs n) {k':List PIt} {r:R} (hk':∀ i∈k',i.Ok body)
  (h:(match cx.rd with
   | some m=>match look s.hp m with
    | some (.loop .ready pe f n' fr ps tag D)=>run cx enc labs n true k' { s with hp:=(m,.loop .busy pe f n' fr ps tag D)::s.hp }
    | _=>none
   | none=>none)=some r):Goes cx vbo enc (.beginRound::qnh k') s r:=by
 split at h
 ·rename_i m hm;split at h
  ·rename_i pe f n' fr ps tag D hl;refine (ih true k' _ r hk' h).via fun vbr vbm G a w hr b cs _ _ hrd => ?_
   unfold RdOk at hrd;rw[hm]at hrd;simp only at hrd;obtain⟨B,bx0,e1,e2,e3⟩:=hrd;obtain⟨B',tmps,DB,i1,i2,⟨asn,bo,i3,i4⟩,i5,i6,i7⟩:=hr.fin.mem.holds _ _ hl;have:=hr.fin.keep m bx0 B e2 e1;rw[this]at i1;injection i1 with i1;subst i1
   have hbr:=run_beginRound (P:=cx.P) i4 rfl;exact⟨G,a,_,hr.setBox (bx' := .loop .busy pe f n' fr ps tag D) hl (show G.box m=some B from this)
    (fun c hc=>by have hc:G.box m=some c:=hc;rw[this]at hc;injection hc with hc;exact hc.symm)
    ⟨B,tmps,DB,this,i2,⟨asn,bo,i3,by rw[World.putObj_heap_same (Array.getElem?_eq_some_iff.1 i4).1]⟩,i5,i6,i7⟩ i7,.one (stepR_beginRound e3 hbr)⟩
  ·cases h
 ·cases h
theorem zix (ok:cx.Ok body) (hid:∀ n bx,look vbo n=some bx->qa4 cx.ids n=some n) {labs:List (Lab R)} (hlab:∀ l∈labs,q4i cx vbo enc body l) :
  ∀ (n:Nat) (chk:Bool) (k:List PIt) (s:St) (r:R),(∀ i∈k,i.Ok body)->run cx enc labs n chk k s=some r->Goes cx vbo enc (qnh k) s r:=by
 intro n
 induction n with
 | zero=>intro chk k s r _ h;cases h
 | succ n ih=>
  intro chk k s r hk h;unfold run at h
  cases hl:(bif chk then qxz cx.ids s k labs else none) with
  | some lab=>
   rw[hl]at h;have hl:qxz cx.ids s k labs=some lab:=by cases chk<;>simp only[qT,qF,reduceCtorEq]at hl;exact hl
   obtain⟨hm,hkey⟩:=qxt hl;simp only at h;split at h
   ·rename_i d hd;have hg:=hlab lab hm d r h;rw[q21 hkey hk]at hg;refine hg.via fun vbr vbm G a w hr b cs _ _ _ => ?_
    obtain⟨G1,hr1⟩:=hr.co lab.ls cx.ids;obtain⟨G2,hr2⟩:=hr1.fit hid hd;exact⟨G2,a,w,hr2,.refl _ _⟩
   ·cases h
  | none=>
   rw[hl]at h;simp only at h;clear hl
   cases k with
   | nil=>exact q6f ok hid (by rfl) h
   | cons i k'=>
    obtain⟨kd,p,it⟩:=i;obtain⟨hi,hk'⟩:=ziw hk;clear hk
    cases it with
    | code c=>exact zli ok hid ih hi hk' h
    | inBlock id=>exact (ih true k' s r hk' h).one fun a w b cs=>stepR_inBlock
    | inScope id=>exact (ih true k' s r hk' h).one fun a w b cs=>q67
    | inLoop x=>
     have hsub:sub body p = .loop x:=zac hi;exact (ih true _ s r (qno (qo8 0 hsub rfl) (qno (q0r hsub) hk')) h).one fun a w b cs=>stepR_inLoop
    | beginRound=>exact zgm ih hk' h
    | _=>cases h
end
end Go.Sym
namespace Go.Sym
open Go.RowKit
variable [LC]
def St.reCell (s:St) (b off:Nat):St:=
 match look s.hp b with
 | some (.cells cs T)=>match cs[off]? with
  | some (.own k)=>match look s.hp k with
   | some (.row τ l E)=>bif qah s.nx s.hp then { s with hp:=(b,.cells (cs.set off (.own s.nx)) T)::(s.nx,.row τ l E)::(k,.dead)::s.hp,nx:=s.nx+32 } else s
   | _=>s
  | _=>s
 | _=>s
def zc2:Pt->Bool
 | .own _=>true
 | _=>false
def reB1 (b:Nat):List Pt->Nat->St->St
 | [],_,s=>s
 | p::ps,off,s=>reB1 b ps (off+1) (bif zc2 p then s.reCell b off else s)
def reB:List (Nat×BPt)->St->St
 | [],s=>s
 | (n,p)::r,s=>match p with
  | .cells ps _=>reB r (reB1 n ps 0 s)
  | _=>reB r s
def St.reSlot (s:St) (i:Nat):St:=
 match look s.fr i with
 | some (.own k)=>match look s.hp k with
  | some (.row τ l E)=>bif qah s.nx s.hp&&Nat.blt i s.n then { s with fr:=(i,.own s.nx)::s.fr,hp:=(s.nx,.row τ l E)::(k,.dead)::s.hp,nx:=s.nx+32 } else s
  | _=>s
 | _=>s
def reA:List Pt->Nat->St->St
 | [],_,s=>s
 | p::ps,i,s=>reA ps (i+1) (bif zc2 p then s.reSlot i else s)
section
variable {vbr:World} {vbm:Gh} {vbo:List (Nat×Box)} {G:Gh} {s:St} {a:Act} {w:World}
theorem Fin.rename {hp:List (Nat×Box)} (hf:Fin vbr vbm vbo G hp w) {k k':Nat} {τ:Ty} {l:List τ.den} {E:TypeId} {v:Option Addr×Nat×Nat} (hk:look hp k=some (.row τ l E)) (hk':look hp k'=none) (hfr:G.own k'=none) (ho:G.own k=some v) :
  Fin vbr vbm vbo (G.addOwn k' v) ((k',.row τ l E)::(k,.dead)::hp) w:=by
 have hle:G.le (G.addOwn k' v):=Gh.addOwn_le hfr;have hlk:∀ m b,look ((k',Box.row τ l E)::(k,.dead)::hp) m=some b->(m=k'/\b = .row τ l E)\/b = .dead\/(m≠k/\look hp m=some b):=fun m b h=>by
  simp only[look]at h;cases hb:Nat.beq k' m
  ·rw[hb]at h;cases hb2:Nat.beq k m
   ·rw[hb2]at h;exact .inr (.inr ⟨fun e=>by subst e;simp at hb2,h⟩)
   ·rw[hb2]at h;simp only[qT,qF,qI]at h;exact .inr (.inl h.symm)
  ·rw[hb]at h;simp only[qT,qI]at h;exact .inl ⟨(qN hb).symm,h.symm⟩
 have hat:(G.addOwn k' v).at k' (.row τ l E)=G.at k (.row τ l E):=by simp only[Gh.at,Gh.addOwn_self,ho]
 refine⟨⟨hf.mem.agree,hf.mem.one,?_,?_,hf.mem.tab⟩,hf.bel,hf.imm_le,hf.imm_new,?_,fun n bx B h1 h2=>hle.box _ _ (hf.keep n bx B h1 h2),fun n bx B h1 h2=>hle.own _ _ (hf.keepOwn n bx B h1 h2)⟩
 ·intro m b h;rcases hlk m b h with ⟨rfl,rfl⟩|rfl|⟨_,h⟩
  ·obtain⟨ad,c,i1,i2⟩:=hf.mem.holds k _ hk;rw[ho]at i1;injection i1 with i1;subst i1
   exact⟨ad,c,Gh.addOwn_self,i2⟩
  ·trivial
  ·exact (hf.mem.holds m b h).mono hle (fun _ _=>rfl) (fun _ _ _ h => .inl h)
 ·intro m m' b b' c h1 h2 h3 h4;rcases hlk m b h1 with ⟨rfl,rfl⟩|rfl|⟨n1,g1⟩<;>rcases hlk m' b' h2 with ⟨e2,rfl⟩|rfl|⟨n2,g2⟩
  ·exact e2.symm
  ·cases h4
  ·rw[hat]at h3;rw[(hf.mem.holds m' b' g2).at_le hle]at h4;exact absurd (hf.mem.apart m' k b' _ c g2 hk h4 h3) n2
  ·cases h3
  ·cases h3
  ·cases h3
  ·subst e2;rw[hat]at h4;rw[(hf.mem.holds m b g1).at_le hle]at h3;exact absurd (hf.mem.apart m k b _ c g1 hk h3 h4) n1
  ·cases h4
  ·rw[(hf.mem.holds m b g1).at_le hle]at h3;rw[(hf.mem.holds m' b' g2).at_le hle]at h4;exact hf.mem.apart m m' b b' c g1 g2 h3 h4
 ·intro m b c h1 h2;rcases hlk m b h1 with ⟨rfl,rfl⟩|rfl|⟨n1,h1⟩
  ·rw[hat]at h2;exact hf.base k _ c hk h2
  ·cases h2
  ·rw[(hf.mem.holds m b h1).at_le hle]at h2;exact hf.base m b c h1 h2
theorem Rel.reCell (hr:Rel vbr vbm vbo G s a w) (b off:Nat):∃ G',Rel vbr vbm vbo G' (s.reCell b off) a w:=by
 unfold St.reCell;split
 ·rename_i cs T hb0;split
  ·rename_i k hx0;split
   ·rename_i τ l E hk0;cases hn:qah s.nx s.hp
    ·exact⟨G,hr⟩
    ·simp only[qT];have hk:=qb6 hn s.nx (wF _) (by omega)
     obtain⟨ad,c,i1,_⟩:=hr.fin.mem.holds k _ hk0;have hfresh:=hr.fresh s.nx (wF _) hk;have hle:G.le (G.addOwn s.nx (ad,l.length,c)):=Gh.addOwn_le hfresh.2;have hf:=hr.fin.rename hk0 hk hfresh.2 i1;have hne:s.nx≠b:=fun e=>by rw[e,hb0]at hk;cases hk
     have hne2:k≠b:=fun e=>by rw[e,hb0]at hk0;cases hk0
     have hb1:look ((s.nx,Box.row τ l E)::(k,.dead)::s.hp) b=some (.cells cs T):=by
      simp only[look];cases hq:Nat.beq s.nx b
      ·cases hq2:Nat.beq k b
       ·exact hb0
       ·exact absurd (qN hq2) hne2
      ·exact absurd (qN hq) hne
     obtain⟨B,vs,k1,k2,k3,k4,k5⟩:=hf.mem.holds _ _ hb1;have hv:vs.toList[off]? = some (.slice ad l.length c):=by
      obtain⟨v,h1,h2⟩:=qiq k3 hx0;obtain⟨a',n',c',q1,q2⟩:=h2;rw[hle.own _ _ i1]at q1;simp only[qI,qP]at q1;obtain⟨rfl,rfl,rfl⟩:=q1;subst q2;exact h1
     have hset:vs.toList.set off (.slice ad l.length c)=vs.toList:=by
      obtain⟨hlt,he⟩:=List.getElem?_eq_some_iff.1 hv;rw[← he,List.set_getElem_self]
     refine⟨G.addOwn s.nx (ad,l.length,c),⟨by obtain⟨bs,q1,q2⟩:=hr.defers;exact⟨bs,q1,qls hle.box q2⟩,hr.size,fun j x hx=>by obtain⟨v,h1,h2⟩:=hr.frame j x hx;exact⟨v,h1,h2.le hle⟩,fun m hm hl => ?_,?_⟩⟩
     ·simp only at hm;have hmn:s.nx≠m:=by omega
      simp only[look]at hl;cases hq:Nat.beq b m<;>rw[hq]at hl<;>simp only[qT,qF,reduceCtorEq]at hl
      cases hq1:Nat.beq s.nx m<;>rw[hq1]at hl<;>simp only[qT,qF,reduceCtorEq]at hl
      cases hq2:Nat.beq k m<;>rw[hq2]at hl<;>simp only[qT,qF,reduceCtorEq]at hl
      obtain⟨h1,h2⟩:=hr.fresh m (by omega) hl
      refine⟨h1,?_⟩;show (bif Nat.beq m s.nx then some _ else G.own m)=none
      cases hbm:Nat.beq m s.nx
      ·exact h2
      ·exact absurd (qN hbm).symm hmn
     ·refine hf.update (bx := .cells cs T) (bx' := .cells (cs.set off (.own s.nx)) T) hb1 (B:=B) k1 k1 ⟨rfl,rfl,rfl,wF _,fun _ _ _=>rfl⟩ ⟨B,vs,k1,k2,?_,k4,k5⟩ k5
      have:=qyf off k3 (x := .own s.nx) (v := .slice ad l.length c) ⟨ad,l.length,c,Gh.addOwn_self,rfl⟩
      rwa [hset]at this
   ·exact⟨G,hr⟩
  ·exact⟨G,hr⟩
 ·exact⟨G,hr⟩
theorem Rel.reSlot (hr:Rel vbr vbm vbo G s a w) (i:Nat):∃ G',Rel vbr vbm vbo G' (s.reSlot i) a w:=by
 unfold St.reSlot;split
 ·rename_i k hx0;split
  ·rename_i τ l E hk0;cases hn:qah s.nx s.hp&&Nat.blt i s.n
   ·exact⟨G,hr⟩
   ·simp only[qT];simp only[qA]at hn;have hk:=qb6 hn.1 s.nx (wF _) (by omega)
    obtain⟨ad,c,i1,_⟩:=hr.fin.mem.holds k _ hk0;have hfresh:=hr.fresh s.nx (wF _) hk;have hle:G.le (G.addOwn s.nx (ad,l.length,c)):=Gh.addOwn_le hfresh.2;refine⟨G.addOwn s.nx (ad,l.length,c),⟨by obtain⟨bs,q1,q2⟩:=hr.defers;exact⟨bs,q1,qls hle.box q2⟩,hr.size,fun j x hx => ?_,fun m hm hl => ?_,hr.fin.rename hk0 hk hfresh.2 i1⟩⟩
    ·simp only[look]at hx;cases hq:Nat.beq i j
     ·rw[hq]at hx;obtain⟨v,h1,h2⟩:=hr.frame j x hx;exact⟨v,h1,h2.le hle⟩
     ·rw[hq]at hx;simp only[qT,qI]at hx;subst hx;have:=qN hq;subst this;obtain⟨v,h1,a',n',c',q1,q2⟩:=hr.frame i _ hx0;rw[i1]at q1;simp only[qI,qP]at q1;obtain⟨rfl,rfl,rfl⟩:=q1;exact⟨v,h1,ad,l.length,c,Gh.addOwn_self,q2⟩
    ·simp only at hm;have hmn:s.nx≠m:=by omega
     simp only[look]at hl;cases hq1:Nat.beq s.nx m<;>rw[hq1]at hl<;>simp only[qT,qF,reduceCtorEq]at hl
     cases hq2:Nat.beq k m<;>rw[hq2]at hl<;>simp only[qT,qF,reduceCtorEq]at hl
     obtain⟨h1,h2⟩:=hr.fresh m (by omega) hl
     refine⟨h1,?_⟩;show (bif Nat.beq m s.nx then some _ else G.own m)=none
     cases hbm:Nat.beq m s.nx
     ·exact h2
     ·exact absurd (qN hbm).symm hmn
  ·exact⟨G,hr⟩
 ·exact⟨G,hr⟩
theorem Rel.reA:∀ {ps:List Pt} {i:Nat} {s:St} {G:Gh},Rel vbr vbm vbo G s a w->∃ G',Rel vbr vbm vbo G' (reA ps i s) a w
 | [],_,s,G,hr=>⟨G,hr⟩
 | p::ps,i,s,G,hr=>by
  unfold Sym.reA;cases zc2 p
  ·exact Rel.reA hr
  ·obtain⟨G',hr'⟩:=hr.reSlot i;exact Rel.reA hr'
theorem Rel.reB1 {b:Nat}:∀ {ps:List Pt} {off:Nat} {s:St} {G:Gh},Rel vbr vbm vbo G s a w->∃ G',Rel vbr vbm vbo G' (reB1 b ps off s) a w
 | [],_,s,G,hr=>⟨G,hr⟩
 | p::ps,off,s,G,hr=>by
  unfold Sym.reB1;cases zc2 p
  ·exact Rel.reB1 hr
  ·obtain⟨G',hr'⟩:=hr.reCell b off;exact Rel.reB1 hr'
theorem Rel.reB:∀ {l:List (Nat×BPt)} {s:St} {G:Gh},Rel vbr vbm vbo G s a w->∃ G',Rel vbr vbm vbo G' (reB l s) a w
 | [],s,G,hr=>⟨G,hr⟩
 | (n,p)::r,s,G,hr=>by
  unfold Sym.reB;split
  ·obtain⟨G',hr'⟩:=hr.reB1;exact Rel.reB hr'
  ·exact Rel.reB hr
end
end Go.Sym
namespace Go.Sym
open Go.RowKit
variable [LC]
def idsB:List (Nat×BPt)->NM
 | []=>[]
 | (n,_)::r=>(n,n)::idsB r
def inN (N:NM) (n:Nat):Bool:=match rho N n with
 | some m=>Nat.beq m n
 | none=>false
omit [LC] in
theorem q0z {N:NM} {n:Nat} (h:inN N n=true):rho N n=some n:=by
 unfold inN at h;split at h
 ·rename_i m hm;have:=qN h;subst this;exact hm
 ·cases h
mutual
def ptIn (N:NM):Pt->Bool
 | .agg ps=>q4a N ps
 | .tup ps=>q4a N ps
 | .ptr b _=>inN N b
 | .own k=>inN N k
 | .el k _=>inN N k
 | .iel _ k _=>inN N k
 | .yld k=>inN N k
 | .pn k=>inN N k
 | .fn _ ps=>q4a N ps
 | _=>true
def q4a (N:NM):List Pt->Bool
 | []=>true
 | p::ps=>ptIn N p&&q4a N ps
end
omit [LC] in
theorem z1v {ρ:Nat->Option Nat}:∀ {τ:Ty} {d:τ.den},(τ.av d).ren ρ=τ.av d
 | .int _,_=>rfl
 | .byte,_=>rfl
 | .bool,_=>rfl
 | .str,_=>rfl
 | .unit,_=>rfl
 | .list _,_=>rfl
 | .prod a b,d=>by show AV.agg (AV.rens ρ ((Ty.prod a b).enc d))=_;rw[Ty.enc_ren];rfl
 | .tree a,d=>by show AV.agg (AV.rens ρ ((Ty.tree a).enc d))=_;rw[Ty.enc_ren];rfl
omit [LC] in
mutual
theorem zgz {N:NM}:∀ {p:Pt} {d:p.den},ptIn N p=true->(p.put d).ren (rho N)=p.put d
 | .h τ,d,_=>z1v
 | .c _,_,_=>rfl
 | .agg ps,d,h=>congrArg AV.agg (quf (ps:=ps) (d:=d) h)
 | .tup ps,d,h=>congrArg AV.tup (quf (ps:=ps) (d:=d) h)
 | .ptr b off,_,h=>by show AV.ren (rho N) (.ptr b off)=_;simp only[AV.ren,q0z (show inN N b=true from h)];rfl
 | .own k,_,h=>by show AV.ren (rho N) (.own k)=_;simp only[AV.ren,q0z (show inN N k=true from h)];rfl
 | .arr _,_,_=>rfl
 | .el k sz,_,h=>by show AV.ren (rho N) (.oel k sz 0 0)=_;simp only[AV.ren,q0z (show inN N k=true from h)];rfl
 | .iel t k sz,_,h=>by show AV.ren (rho N) (.iface t (.oel k sz 0 0))=_;simp only[AV.ren,q0z (show inN N k=true from h)];rfl
 | .yld k,_,h=>by show AV.ren (rho N) (.yld k)=_;simp only[AV.ren,q0z (show inN N k=true from h)];rfl
 | .pn k,_,h=>by show AV.ren (rho N) (.pn k)=_;simp only[AV.ren,q0z (show inN N k=true from h)];rfl
 | .fn f ps,d,h=>congrArg (AV.fn (.func f) []) (quf (ps:=ps) (d:=d) h)
 | .u,_,_=>rfl
theorem quf {N:NM}:∀ {ps:List Pt} {d:Pts.den ps},q4a N ps=true->AV.rens (rho N) (Pts.put ps d)=Pts.put ps d
 | [],_,_=>rfl
 | p::ps,d,h=>by
  simp only[q4a,qA]at h;have h1:=zgz (p:=p) (d:=d.1) h.1;have h2:=quf (ps:=ps) (d:=d.2) h.2;show AV.ren (rho N) (p.put d.1)::AV.rens (rho N) (Pts.put ps d.2)=p.put d.1::Pts.put ps d.2;rw[h1,h2]
end
def fIn (N:NM):List (Nat×Pt)->Bool
 | []=>true
 | (_,p)::r=>ptIn N p&&fIn N r
omit [LC] in
theorem zbx {N:NM}:∀ {l:List (Nat×Pt)} {d:fden l},fIn N l=true->q1j (rho N) (fput l d)=fput l d
 | [],_,_=>rfl
 | (i,p)::r,d,h=>by
  simp only[fIn,qA]at h;have h1:=zgz (p:=p) (d:=d.1) h.1;have h2:=zbx (l:=r) (d:=d.2) h.2;show (i,AV.ren (rho N) (p.put d.1))::q1j (rho N) (fput r d.2)=(i,p.put d.1)::fput r d.2;rw[h1,h2]
def zs5 (N:NM):BPt->Bool
 | .cells ps _=>q4a N ps
 | .loop _ _ _ _ fr _ _ D=>inN N D&&fIn N fr
 | _=>true
def bIn (N:NM):List (Nat×BPt)->Bool
 | []=>true
 | (n,p)::r=>inN N n&&zs5 N p&&bIn N r
omit [LC] in
theorem zkj {N:NM}:∀ {p:BPt} {d:p.den},zs5 N p=true->renB (rho N) (p.put d)=p.put d
 | .cells ps T,d,h=>congrArg (fun l=>Box.cells l T) (quf (ps:=ps) (d:=d) h)
 | .row _ _,_,_=>rfl
 | .loop st pe f n fr ps tag D,d,h=>by
  simp only[zs5,qA]at h;have h2:=zbx (l:=fr) (d:=d) h.2;have h3:renB (rho N) (.loop st pe f n (fput fr d) ps tag D) = .loop st pe f n (q1j (rho N) (fput fr d)) ps tag D:=by simp only[renB,q0z h.1]
  exact h3.trans (congrArg (fun l=>Box.loop st pe f n l ps tag D) h2)
 | .dfr,_,_=>rfl
 | .it,_,_=>rfl
 | .dead,_,_=>rfl
 | .dat τ T,d,_=>congrArg (fun l=>Box.cells l T) (Ty.enc_ren (rho N) τ d)
omit [LC] in
theorem q50 {N:NM}:∀ {l:List (Nat×BPt)} {d:bden l},bIn N l=true->∀ n b,look (bput l d) n=some b->rho N n=some n/\renB (rho N) b=b
 | [],_,_,_,_,h=>by cases h
 | (m,p)::r,d,h,n,b,hl=>by
  simp only[bIn,qA]at h;have hl:(bif Nat.beq m n then some (p.put d.1) else look (bput r d.2) n)=some b:=hl
  cases hb:Nat.beq m n
  ·rw[hb]at hl;exact q50 (d:=d.2) h.2 n b hl
  ·rw[hb]at hl;have:=qN hb;subst this;simp only[qT,qI]at hl;subst hl;exact⟨q0z h.1.1,zkj h.1.2⟩
theorem Mem.only {G:Gh} {hp:List (Nat×Box)} {w:World} {N:NM} (hm:Mem G hp w) (h:∀ n b,look hp n=some b->rho N n=some n/\renB (rho N) b=b):Mem (G.view N) hp w:=by
 have hb:∀ n b,look hp n=some b->(G.view N).box n=G.box n/\(G.view N).own n=G.own n:=fun n b hl=>by
  have:=qpb (h n b hl).1;exact⟨by simp[Gh.view,this],by simp[Gh.view,this]⟩
 have hat:∀ n b c,look hp n=some b->(G.view N).at n b=some c->G.at n b=some c:=fun n b c hl hc=>by
  have:=(h n b hl).2;exact qxf (G:=G) (G':=G.view N) (ρ:=rho N) (hb n b hl).1 (hb n b hl).2 (by rw[this];exact hc)
 refine⟨hm.agree,hm.one,fun n b hl => ?_,fun n m b b' c h1 h2 h3 h4=>hm.apart n m b b' c h1 h2 (hat _ _ _ h1 h3) (hat _ _ _ h2 h4),hm.tab⟩
 have:=qj5.ren (G:=G) (G':=G.view N) (ρ:=rho N) (n:=n) (m:=n) (fun _ _ _ h=>h) (fun _ _ _ h=>h) (qo6 N) (qrl N) (fun B hB=>by rw[(hb n b hl).1];exact hB) (fun B hB=>by rw[(hb n b hl).2];exact hB) (hm.holds n b hl)
 rw[(h n b hl).2]at this;exact this
theorem Fin.only {G G':Gh} {hp hp':List (Nat×Box)} {w w':World} {N:NM} (h:∀ n b,look hp n=some b->rho N n=some n/\renB (rho N) b=b) (hf:Fin w (G.view N) hp G' hp' w'):Fin w G hp G' hp' w':=by
 have hb:∀ n b,look hp n=some b->(G.view N).box n=G.box n/\(G.view N).own n=G.own n:=fun n b hl=>by
  have:=qpb (h n b hl).1;exact⟨by simp[Gh.view,this],by simp[Gh.view,this]⟩
 have hblk:∀ c,qwn (G.view N) hp c->qwn G hp c:=fun c ⟨n,b,h1,h2⟩=>⟨n,b,h1,qxf (G:=G) (G':=G.view N) (ρ:=rho N) (hb n b h1).1 (hb n b h1).2 (by rw[(h n b h1).2];exact h2)⟩
 refine⟨hf.mem,⟨hf.bel.os,hf.bel.tape,hf.bel.output,hf.bel.size,fun k hk hS=>hf.bel.block k hk fun hx=>hS (hblk k hx)⟩,hf.imm_le,fun b o v hv => ?_,fun n b c h1 h2 => ?_,fun n b B h1 h2=>hf.keep n b B h1 (by rw[(hb n b h1).1];exact h2),fun n b B h1 h2=>hf.keepOwn n b B h1 (by rw[(hb n b h1).2];exact h2)⟩
 ·rcases hf.imm_new b o v hv with h|h|h
  ·exact .inl h
  ·exact .inr (.inl h)
  ·exact .inr (.inr (hblk _ h))
 ·rcases hf.base n b c h1 h2 with h|h
  ·exact .inl h
  ·exact .inr (hblk _ h)
def q94:List AV->Nat->List (Nat×AV)
 | [],_=>[]
 | x::xs,i=>(i,x)::q94 xs (i+1)
omit [LC] in
theorem q3i:∀ {xs:List AV} {G:Gh} {vs:List Value} (i:Nat),Reps xs G vs->∀ j x,look (q94 xs i) j=some x->i<=j/\∃ v,vs[j-i]? = some v/\Rep x G v
 | [],_,[],_,_,j,x,h=>by cases h
 | x::xs,G,v::vs,i,hr,j,y,h=>by
  simp only[q94,look]at h;cases hb:Nat.beq i j
  ·rw[hb]at h;obtain⟨h1,u,h2,h3⟩:=q3i (i+1) hr.2 j y h;refine⟨by omega,u,?_,h3⟩
   rw[show j-i=(j-(i+1))+1 by omega];simpa using h2
  ·rw[hb]at h;have:=qN hb;subst this;simp only[qT,qI]at h;subst h;exact⟨wF _,v,by simp,hr.1⟩
 | [],_,_::_,_,h,_,_,_=>h.elim
 | _::_,_,[],_,h,_,_,_=>h.elim
theorem qoc {G:Gh} {w:World} {hp:List (Nat×Box)} (hm:Mem G hp w):Fin w G hp G hp w:=
 ⟨hm,⟨rfl,rfl,rfl,wF _,fun _ _ _=>rfl⟩,fun _ _ _ h=>h,fun _ _ _ h => .inl h,fun n bx _b h1 h2 => .inr ⟨n,bx,h1,h2⟩,fun _ _ _ _ h=>h,fun _ _ _ _ h=>h⟩
def NX:Nat:=64
def zt9 (cx:Cx) (body:Code) {R:Type} (enc:RS R) (labs:List (Lab R)) (asn:List Pt) (pts:List (Nat×BPt)) (xs:List AV) (hp:List (Nat×Box)):Option R:=
 run cx enc labs 1000000 true [⟨0,[],.code body⟩] (reB pts (reA (bif cx.tb.sub then asn else []) 0 { n:=cx.fn.ntmps,fr:=q94 xs 0,hp:=hp,nx:=NX,df:=[] }))
def zjv (cx:Cx) (args:List Pt) (hp:List (Nat×BPt)):Bool:=q4a (idsB hp) args&&bIn (idsB hp) hp&&Nat.ble args.length cx.fn.ntmps
omit [LC] in
theorem qyw:∀ {l:List (Nat×BPt)} {d:bden l} {n:Nat} {b:Box},look (bput l d) n=some b->qa4 (idsB l) n=some n
 | [],_,_,_,h=>by cases h
 | (m,p)::r,d,n,b,h=>by
  have h:(bif Nat.beq m n then some (p.put d.1) else look (bput r d.2) n)=some b:=h
  simp only[idsB,qa4];cases hb:Nat.beq m n
  ·rw[hb]at h;exact qyw (d:=d.2) h
  ·have:=qN hb;subst this;rfl
omit [LC] in
theorem zji {m:Nat}:∀ {l:List (Nat×BPt)} {d:bden l},look (bput l d) m=none->qa4 (idsB l) m=none
 | [],_,_=>rfl
 | (n,p)::r,d,h=>by
  have h:(bif Nat.beq n m then some (p.put d.1) else look (bput r d.2) m)=none:=h
  simp only[idsB,qa4];cases hb:Nat.beq n m
  ·rw[hb]at h;exact zji (d:=d.2) h
  ·rw[hb]at h;cases h
omit [LC] in
theorem q3e:∀ {ps:List Pt} {d:Pts.den ps},(Pts.put ps d).length=ps.length
 | [],_=>rfl
 | p::ps,d=>by show (p.put d.1::Pts.put ps d.2).length=_;simp[q3e]
theorem Ent.sound_fn {e:Ent} {cx:Cx} {body:Code} {labs:List (Lab e.R)} (ok:cx.Ok body) (hkey:e.key = .fn cx.f) (hbody:cx.fn.body=some body) (hrd:cx.rd=none) (hids:cx.ids=idsB e.hp) (hpl:q8k cx.P cx.f)
  (hfine:zjv cx e.args e.hp=true) (hlab:∀ d',∀ l∈labs,q4i cx (bput e.hp d') e.out body l) (hF:∀ d d',zt9 cx body e.out labs e.args e.hp (Pts.put e.args d) (bput e.hp d')=e.F d d'):e.Sound cx.P:=by
 intro d d' r hr;rw[hkey];refine⟨hpl,fun w G vs hm hreps => ?_⟩
 simp only[zjv,qA]at hfine;obtain⟨⟨f1,f2⟩,f3⟩:=hfine;have f3:=Nat.le_of_ble_eq_true f3;have hin:=q50 (d:=d') f2;have hm':=hm.only hin;have hreps':Reps (Pts.put e.args d) (G.view (idsB e.hp)) vs:=by
  have:=Reps.ren (ρ:=rho (idsB e.hp)) (G:=G) (G':=G.view (idsB e.hp)) (fun _ _ _ h=>h) (qo6 _) (qrl _) hreps
  rwa [quf f1]at this
 have hlv:=hreps.length;rw[q3e]at hlv;have hrun:=hF d d';rw[hr]at hrun;have hg:=zix (enc:=e.out) ok (vbo:=bput e.hp d') (fun n bx h=>by rw[hids];exact qyw h) (hlab d') _ _ _ _ _ (fun i hi=>by
  rcases List.mem_cons.1 hi with rfl|hi
  ·rfl
  ·cases hi) hrun
 have hr0:Rel w (G.view (idsB e.hp)) (bput e.hp d') (G.view (idsB e.hp)) { n:=cx.fn.ntmps,fr:=q94 (Pts.put e.args d) 0,hp:=bput e.hp d',nx:=NX,df:=[] } { tmps:=vs.toArray++Array.replicate (cx.fn.ntmps-vs.toArray.size) undef,defers:=[] } w:=by
  refine⟨⟨[],rfl,rfl⟩,by simp;omega,fun i x hx => ?_,fun m _ hl => ?_,qoc hm'⟩
  ·obtain⟨_,v,h2,h3⟩:=q3i 0 hreps' i x hx;refine⟨v,?_,h3⟩;have hlt:i<vs.length:=by have:=(List.getElem?_eq_some_iff.1 h2).1;simpa using this
   rw[Array.getElem?_append_left (by simpa using hlt)]
   simpa using h2
  ·have:qa4 (idsB e.hp) m=none:=zji hl;simp[Gh.view,this]
 obtain⟨G0,hr0'⟩:=hr0.reA (ps:=bif cx.tb.sub then e.args else []) (i:=0)
 obtain⟨G1,hr1⟩:=hr0'.reB (l:=e.hp);intro cs
 let b:Frame:={ (default:Frame) with fn:=cx.f,kind := .normal }
 have henter:Frame.enter cx.P cx.f vs.toArray .normal=b.atR { tmps:=vs.toArray++Array.replicate (cx.fn.ntmps-vs.toArray.size) undef,defers:=[] } [.code body]:=by
  simp[Frame.enter,Frame.atR,ok.func,hbody,b];rfl
 have:=hg w _ _ _ w hr1 b cs rfl rfl (by unfold RdOk;rw[hrd];rfl)
 obtain⟨v,w',fr,⟨G',h1,h2⟩,h3,h4,h5⟩:=this;exact⟨.returned v,w',fr,⟨v,G',rfl,h1.only hin,h2⟩,by rw[henter];exact h3,h4,h5⟩
omit [LC] in
def rdFr:List Tmp->List AV->List (Nat×AV)->List (Nat×AV)
 | p::ps,x::xs,fr=>rdFr ps xs ((p,x)::fr)
 | _,_,fr=>fr
def zis (n:Nat):List Nat->Bool
 | []=>true
 | p::ps=>Nat.blt p n&&zis n ps
omit [LC] in
theorem zfw {G:Gh} {n:Nat}:∀ {ps:List Tmp} {xs:List AV} {vs:List Value} {fr:List (Nat×AV)} {tmps:Array Value},zis n ps=true->tmps.size=n->ps.length=xs.length->Reps xs G vs->(∀ i x,look fr i=some x->∃ v,tmps[i]? = some v/\Rep x G v) ->
  ((ps.zip vs).foldl (fun (tmps:Array Value) (q:Tmp×Value)=>tmps.setIfInBounds q.1 q.2) tmps).size=n/\∀ i x,look (rdFr ps xs fr) i=some x->∃ v,((ps.zip vs).foldl (fun (tmps:Array Value) (q:Tmp×Value)=>tmps.setIfInBounds q.1 q.2) tmps)[i]? = some v/\Rep x G v
 | [],[],[],fr,tmps,_,hn,_,_,hfr=>⟨hn,hfr⟩
 | p::ps,x::xs,v::vs,fr,tmps,hlt,hn,hl,hr,hfr=>by
  simp only[zis,qA]at hlt;have hp:p<n:=by have:=hlt.1;simpa using this
  simp only[List.zip_cons_cons,List.foldl_cons,rdFr];refine zfw hlt.2 (by simp[hn]) (by simpa using hl) hr.2 (fun i y hy => ?_)
  simp only[look]at hy;cases he:Nat.beq p i
  ·rw[he]at hy;simp only[qF]at hy;have hne:p≠i:=fun e=>by subst e;simp at he
   obtain⟨u,h1,h2⟩:=hfr i y hy;exact⟨u,by simp[hne,h1],h2⟩
  ·rw[he]at hy;simp only[qT,qI]at hy;subst hy;have:=qN he;subst this;exact⟨v,by simp[hn,hp],hr.1⟩
 | [],_::_,_,_,_,_,_,h,_,_=>by simp at h
 | _::_,[],_,_,_,_,_,h,_,_=>by simp at h
 | [],[],_::_,_,_,_,_,_,h,_=>h.elim
 | _::_,_::_,[],_,_,_,_,_,h,_=>h.elim
def za1 (cx:Cx) (body:Code) (p:List Nat) (m:Nat) {R:Type} (enc:RS R) (labs:List (Lab R)) (pts:List (Nat×BPt)) (xs:List AV) (hp:List (Nat×Box)):Option R:=
 match look hp m with
 | some (.loop .ready none f n fr ps tag _)=>bif Nat.beq f cx.f&&zis n ps&&eqLen ps xs&&tagIs tag p cx.tags then
   run cx enc labs 1000000 true (qsk body [(0,0::p),(4,[]),(0,1::p)]) (reB pts { n:=n,fr:=rdFr ps xs fr,hp:=hp,nx:=NX,df:=[] })
  else none
 | _=>none
where
 eqLen:List Tmp->List AV->Bool
  | [],[]=>true
  | _::ps,_::xs=>eqLen ps xs
  | _,_=>false
 tagIs (tag:Nat) (p:List Nat) (tags:List (List Nat×Nat)):Bool:=match q4f p tags with
  | some t=>Nat.beq t tag
  | none=>false
omit [LC] in
theorem zcw:∀ {ps:List Tmp} {xs:List AV},za1.eqLen ps xs=true->ps.length=xs.length
 | [],[],_=>rfl
 | _::ps,_::xs,h=>by simp[zcw (ps:=ps) (xs:=xs) h]
 | [],_::_,h=>by cases h
 | _::_,[],h=>by cases h
def isRF:Code->Bool
 | .rangeFunc _ _ _ _=>true
 | _=>false
theorem Ent.sound_yld {e:Ent} {cx:Cx} {body:Code} {p:List Nat} {m:Nat} {labs:List (Lab e.R)} (ok:cx.Ok body) (hkey:e.key = .yld m) (hrd:cx.rd=some m) (hids:cx.ids=idsB e.hp) (hrf:isRF (sub body p)=true)
  (hfine:(q4a (idsB e.hp) e.args&&bIn (idsB e.hp) e.hp)=true) (hlab:∀ d',∀ l∈labs,q4i cx (bput e.hp d') e.out body l) (hF:∀ d d',za1 cx body p m e.out labs e.hp (Pts.put e.args d) (bput e.hp d')=e.F d d'):e.Sound cx.P:=by
 intro d d' r hr;rw[hkey];intro w G vs B hm hreps hB;simp only[qA]at hfine;obtain⟨f1,f2⟩:=hfine;have hin:=q50 (d:=d') f2;have hm':=hm.only hin;have hreps':Reps (Pts.put e.args d) (G.view (idsB e.hp)) vs:=by
  have:=Reps.ren (ρ:=rho (idsB e.hp)) (G:=G) (G':=G.view (idsB e.hp)) (fun _ _ _ h=>h) (qo6 _) (qrl _) hreps
  rwa [quf f1]at this
 have hrun:=hF d d';rw[hr]at hrun;unfold za1 at hrun;split at hrun
 ·rename_i f n fr ps tag D hl;cases hb:Nat.beq f cx.f&&zis n ps&&za1.eqLen ps (Pts.put e.args d)&&za1.tagIs tag p cx.tags<;>rw[hb]at hrun<;>simp only[qT,qF,reduceCtorEq]at hrun
  simp only[qA]at hb;obtain⟨⟨⟨b1,b2⟩,b3⟩,b4⟩:=hb;have b1:=qN b1;subst b1;have b3:=zcw b3;unfold za1.tagIs at b4;split at b4
  rotate_left
  ·cases b4
  rename_i t ht;have b4:=qN b4;subst b4;obtain⟨B',tmps,DB,i1,i2,⟨asn,bo,i3,i4⟩,i5,i6,i7⟩:=hm'.holds m _ hl;have hBv:(G.view (idsB e.hp)).box m=some B:=by
   have:=qpb (hin m _ hl).1;simp[Gh.view,this,hB]
  rw[hBv]at i1;injection i1 with i1;subst i1
  obtain⟨g,ps0,x,y,hs⟩:∃ g ps x y,sub body p = .rangeFunc g ps x y:=by
   cases hc:sub body p<;>rw[hc]at hrf<;>first|exact⟨_,_,_,_,rfl⟩|cases hrf
  have hcode:=ok.tags p t ht g ps0 x y hs;rw[i3]at hcode;simp only[qI,qP]at hcode;obtain⟨rfl,rfl⟩:=hcode;have hg:=zix (enc:=e.out) ok (vbo:=bput e.hp d') (fun n bx h=>by rw[hids];exact qyw h) (hlab d') _ _ _ _ _ q0f hrun
  have hlv:=hreps.length;obtain⟨j1,j2⟩:=zfw (n:=n) b2 i5 b3 hreps' i6;have hr0:Rel w (G.view (idsB e.hp)) (bput e.hp d') (G.view (idsB e.hp)) { n:=n,fr:=rdFr ps (Pts.put e.args d) fr,hp:=bput e.hp d',nx:=NX,df:=[] } { tmps:=(ps.zip vs).foldl (fun (tmps:Array Value) (q:Tmp×Value)=>tmps.setIfInBounds q.1 q.2) tmps,defers:=[] } w:=
   ⟨⟨[],rfl,rfl⟩,j1,j2,fun k _ hk=>by simp[Gh.view,zji hk],qoc hm'⟩
  obtain⟨G1,hr1⟩:=hr0.reB (l:=e.hp);refine⟨_,i4,fun c cs=>⟨by simp;omega,?_⟩⟩
  let b:Frame:={ (default:Frame) with fn:=cx.f,kind := .normal,roundOf:=some B }
  have:=hg w _ _ _ w hr1 b (c::cs) rfl rfl (by unfold RdOk;rw[hrd];exact⟨B,_,hBv,hl,rfl⟩)
  obtain⟨v,w',⟨G',h1,h2⟩,h3⟩:=this c cs rfl;refine⟨v,w',⟨v,G',rfl,h1.only hin,h2⟩,?_⟩;have e1:Frame.round B cx.f ((ps.toArray.zip vs.toArray).foldl (fun tmps (t,a)=>tmps.setIfInBounds t a) tmps) asn bo .normal=b.atR { tmps:=(ps.zip vs).foldl (fun (tmps:Array Value) (q:Tmp×Value)=>tmps.setIfInBounds q.1 q.2) tmps,defers:=[] } (qnh (qsk body [(0,0::p),(4,[]),(0,1::p)])):=by
   simp[Frame.round,Frame.atR,b,qnh,qsk,q05,sub,hs,qyv,List.zip_toArray]
  simp only at e1 ⊢;rw[e1];exact h3
 ·cases hrun
theorem q4i.of_run {cx:Cx} {body:Code} {vbo:List (Nat×Box)} {R:Type} {enc:RS R} {labs:List (Lab R)} (ok:cx.Ok body) (hid:∀ n bx,look vbo n=some bx->qa4 cx.ids n=some n) (hlab:∀ l∈labs,q4i cx vbo enc body l) {l:Lab R}
  (h:∀ d,run cx enc labs 1000000 false (qsk body l.key) (l.ls.st d)=l.F d):q4i cx vbo enc body l:=fun d r hr=>by
 have:=h d;rw[hr]at this;exact zix ok hid hlab _ _ _ _ _ q0f this
end Go.Sym
namespace Go.Sym
open Go.RowKit
def qxj (f:Func):Code:=match f.body with
 | some c=>c
 | none => .skip
def w64 (n:Int):Int:=IntKind.i64.wrap n
section
variable [LC] {cx:Cx} {vbo:List (Nat×Box)} {R:Type} {enc:RS R} {body:Code} {P:Program}
theorem qaf:∀ p t,q4f p []=some t->∀ g ps x y,sub body p = .rangeFunc g ps x y->LC.lc t=some (x,y):=fun _ _ h=>by cases h
theorem q8u {p:List Nat} {t:Nat} {tags:List (List Nat×Nat)} (h:LC.lc t=some (qyv 0 (sub body p),qyv 1 (sub body p))) (k:∀ p t,q4f p tags=some t->∀ g ps x y,sub body p = .rangeFunc g ps x y->LC.lc t=some (x,y)) :
  ∀ q u,q4f q ((p,t)::tags)=some u->∀ g ps x y,sub body q = .rangeFunc g ps x y->LC.lc u=some (x,y):=fun q u hq g ps x y hs=>by
 simp only[q4f]at hq;cases hb:eqNs p q
 ·rw[hb]at hq;exact k q u hq g ps x y hs
 ·rw[hb]at hq;simp only[qT,qI]at hq;subst hq;have:=q6k hb;subst this;rw[h,hs];rfl
end
end Go.Sym
namespace Go.Sym
open Go.RowKit
abbrev Bs:Type:=List UInt8
def zux:Nat->Nat->List Nat
 | 0,_=>[]
 | f+1,n=>bif Nat.ble n 1 then [] else Nat.mod n 2::zux f (Nat.div n 2)
def pkey:List (Nat×Nat)->PKey
 | []=>[]
 | (k,n)::r=>(k,zux 200 n)::pkey r
mutual
def Pt.ts:Pt->List Type->List Type
 | .h τ,a=>τ.den::a
 | .agg ps,a=>Pts.ts ps a
 | .tup ps,a=>Pts.ts ps a
 | .fn _ ps,a=>Pts.ts ps a
 | .arr τ,a=>List τ.den::a
 | _,a=>a
def Pts.ts:List Pt->List Type->List Type
 | [],a=>a
 | p::ps,a=>p.ts (Pts.ts ps a)
end
def HL:List Type->Type
 | []=>Unit
 | t::l=>t×HL l
abbrev hl0:HL []:=()
mutual
def Pt.pk:(p:Pt)->{a:List Type}->p.den->HL a->HL (p.ts a)
 | .h _,_,d,x=>(d,x)
 | .agg ps,_,d,x=>Pts.pk ps d x
 | .tup ps,_,d,x=>Pts.pk ps d x
 | .fn _ ps,_,d,x=>Pts.pk ps d x
 | .arr _,_,d,x=>(d,x)
 | .c _,_,_,x=>x
 | .ptr _ _,_,_,x=>x
 | .own _,_,_,x=>x
 | .el _ _,_,_,x=>x
 | .iel _ _ _,_,_,x=>x
 | .yld _,_,_,x=>x
 | .pn _,_,_,x=>x
 | .u,_,_,x=>x
def Pts.pk:(ps:List Pt)->{a:List Type}->Pts.den ps->HL a->HL (Pts.ts ps a)
 | [],_,_,x=>x
 | p::ps,_,d,x=>p.pk d.1 (Pts.pk ps d.2 x)
end
mutual
def Pt.un:(p:Pt)->{a:List Type}->HL (p.ts a)->p.den×HL a
 | .h _,_,x=>x
 | .agg ps,_,x=>Pts.un ps x
 | .tup ps,_,x=>Pts.un ps x
 | .fn _ ps,_,x=>Pts.un ps x
 | .arr _,_,x=>x
 | .c _,_,x=>((),x)
 | .ptr _ _,_,x=>((),x)
 | .own _,_,x=>((),x)
 | .el _ _,_,x=>((),x)
 | .iel _ _ _,_,x=>((),x)
 | .yld _,_,x=>((),x)
 | .pn _,_,x=>((),x)
 | .u,_,x=>((),x)
def Pts.un:(ps:List Pt)->{a:List Type}->HL (Pts.ts ps a)->Pts.den ps×HL a
 | [],_,x=>((),x)
 | p::ps,_,x=>(((p.un x).1,(Pts.un ps (p.un x).2).1),(Pts.un ps (p.un x).2).2)
end
mutual
theorem Pt.un_pk:∀ (p:Pt) {a:List Type} (d:p.den) (x:HL a),p.un (p.pk d x)=(d,x)
 | .h _,_,_,_=>rfl
 | .agg ps,_,d,x=>Pts.un_pk ps d x
 | .tup ps,_,d,x=>Pts.un_pk ps d x
 | .fn _ ps,_,d,x=>Pts.un_pk ps d x
 | .arr _,_,_,_=>rfl
 | .c _,_,_,_=>rfl
 | .ptr _ _,_,_,_=>rfl
 | .own _,_,_,_=>rfl
 | .el _ _,_,_,_=>rfl
 | .iel _ _ _,_,_,_=>rfl
 | .yld _,_,_,_=>rfl
 | .pn _,_,_,_=>rfl
 | .u,_,_,_=>rfl
theorem Pts.un_pk:∀ (ps:List Pt) {a:List Type} (d:Pts.den ps) (x:HL a),Pts.un ps (Pts.pk ps d x)=(d,x)
 | [],_,_,_=>rfl
 | p::ps,_,d,x=>by
  show (((p.un (p.pk d.1 (Pts.pk ps d.2 x))).1,(Pts.un ps (p.un (p.pk d.1 (Pts.pk ps d.2 x))).2).1),(Pts.un ps (p.un (p.pk d.1 (Pts.pk ps d.2 x))).2).2)=(d,x);rw[Pt.un_pk p,Pts.un_pk ps];rfl
end
def fts:List (Nat×Pt)->List Type->List Type
 | [],a=>a
 | (_,p)::r,a=>p.ts (fts r a)
def fpk:(l:List (Nat×Pt))->{a:List Type}->fden l->HL a->HL (fts l a)
 | [],_,_,x=>x
 | (_,p)::r,_,d,x=>p.pk d.1 (fpk r d.2 x)
def fun_:(l:List (Nat×Pt))->{a:List Type}->HL (fts l a)->fden l×HL a
 | [],_,x=>((),x)
 | (_,p)::r,_,x=>(((p.un x).1,(fun_ r (p.un x).2).1),(fun_ r (p.un x).2).2)
theorem zow:∀ (l:List (Nat×Pt)) {a:List Type} (d:fden l) (x:HL a),fun_ l (fpk l d x)=(d,x)
 | [],_,_,_=>rfl
 | (_,p)::r,_,d,x=>by
  show (((p.un (p.pk d.1 (fpk r d.2 x))).1,(fun_ r (p.un (p.pk d.1 (fpk r d.2 x))).2).1),(fun_ r (p.un (p.pk d.1 (fpk r d.2 x))).2).2)=(d,x);rw[Pt.un_pk p,zow r];rfl
def BPt.ts:BPt->List Type->List Type
 | .cells ps _,a=>Pts.ts ps a
 | .row τ _,a=>List τ.den::a
 | .loop _ _ _ _ fr _ _ _,a=>fts fr a
 | .dfr,a=>a
 | .it,a=>List UInt8::Nat::a
 | .dead,a=>a
 | .dat τ _,a=>τ.den::a
def BPt.pk:(p:BPt)->{a:List Type}->p.den->HL a->HL (p.ts a)
 | .cells ps _,_,d,x=>Pts.pk ps d x
 | .row _ _,_,d,x=>(d,x)
 | .loop _ _ _ _ fr _ _ _,_,d,x=>fpk fr d x
 | .dfr,_,_,x=>x
 | .it,_,d,x=>(d.1,(d.2,x))
 | .dead,_,_,x=>x
 | .dat _ _,_,d,x=>(d,x)
def BPt.un:(p:BPt)->{a:List Type}->HL (p.ts a)->p.den×HL a
 | .cells ps _,_,x=>Pts.un ps x
 | .row _ _,_,x=>x
 | .loop _ _ _ _ fr _ _ _,_,x=>fun_ fr x
 | .dfr,_,x=>((),x)
 | .it,_,x=>((x.1,x.2.1),x.2.2)
 | .dead,_,x=>((),x)
 | .dat _ _,_,x=>x
theorem BPt.un_pk:∀ (p:BPt) {a:List Type} (d:p.den) (x:HL a),p.un (p.pk d x)=(d,x)
 | .cells ps _,_,d,x=>Pts.un_pk ps d x
 | .row _ _,_,_,_=>rfl
 | .loop _ _ _ _ fr _ _ _,_,d,x=>zow fr d x
 | .dfr,_,_,_=>rfl
 | .it,_,_,_=>rfl
 | .dead,_,_,_=>rfl
 | .dat _ _,_,_,_=>rfl
def bts:List (Nat×BPt)->List Type->List Type
 | [],a=>a
 | (_,p)::r,a=>p.ts (bts r a)
def bpk:(l:List (Nat×BPt))->{a:List Type}->bden l->HL a->HL (bts l a)
 | [],_,_,x=>x
 | (_,p)::r,_,d,x=>p.pk d.1 (bpk r d.2 x)
def bun:(l:List (Nat×BPt))->{a:List Type}->HL (bts l a)->bden l×HL a
 | [],_,x=>((),x)
 | (_,p)::r,_,x=>(((p.un x).1,(bun r (p.un x).2).1),(bun r (p.un x).2).2)
theorem zoo:∀ (l:List (Nat×BPt)) {a:List Type} (d:bden l) (x:HL a),bun l (bpk l d x)=(d,x)
 | [],_,_,_=>rfl
 | (_,p)::r,_,d,x=>by
  show (((p.un (p.pk d.1 (bpk r d.2 x))).1,(bun r (p.un (p.pk d.1 (bpk r d.2 x))).2).1),(bun r (p.un (p.pk d.1 (bpk r d.2 x))).2).2)=(d,x);rw[BPt.un_pk p,zoo r];rfl
abbrev Cur:List Type->Type->Type
 | [],R=>R
 | t::l,R=>t->Cur l R
def app {R:Type}:{l:List Type}->Cur l R->HL l->R
 | [],f,_=>f
 | _::_,f,x=>app (f x.1) x.2
abbrev Nc:List Type->Type
 | []=>Unit
 | [t]=>t
 | t::u::l=>t×Nc (u::l)
def Nc.fro:(l:List Type)->HL l->Nc l
 | [],_=>()
 | [_],x=>x.1
 | _::u::l,x=>(x.1,Nc.fro (u::l) x.2)
def Nc.to:(l:List Type)->Nc l->HL l
 | [],_=>()
 | [_],x=>(x,())
 | _::u::l,x=>(x.1,Nc.to (u::l) x.2)
theorem Nc.to_fro:∀ (l:List Type) (x:HL l),Nc.to l (Nc.fro l x)=x
 | [],_=>rfl
 | [_],_=>rfl
 | _::u::l,x=>by
  show (x.1,Nc.to (u::l) (Nc.fro (u::l) x.2))=x;rw[Nc.to_fro];rfl
def RS.mk (p:Pt) (hp:List (Nat×BPt)):RS (Nc (p.ts (bts hp []))):=
 .one p hp (fun x=>((p.un (Nc.to _ x)).1,(bun hp (p.un (Nc.to _ x)).2).1)) (fun y=>Nc.fro _ (p.pk y.1 (bpk hp y.2 hl0))) fun y=>by
  obtain⟨d,d'⟩:=y;show ((p.un (Nc.to _ (Nc.fro _ (p.pk d (bpk hp d' hl0))))).1,(bun hp (p.un (Nc.to _ (Nc.fro _ (p.pk d (bpk hp d' hl0))))).2).1)=(d,d');rw[Nc.to_fro,Pt.un_pk,zoo]
structure IF:Type 1 where
 key:Key
 args:List Pt
 hp:List (Nat×BPt)
 R:Type
 out:RS R
abbrev IF.T (i:IF):Type:=Cur (Pts.ts i.args (bts i.hp [])) (Option i.R)
def IF.e (i:IF) (r:i.T):Ent:=⟨i.key,i.args,i.hp,i.R,fun d d'=>app r (Pts.pk i.args d (bpk i.hp d' hl0)),i.out⟩
abbrev KL:Type:=PKey×LS
abbrev KL.T (l:KL) (R:Type):Type:=Cur (fts l.2.fr (bts l.2.hp [])) (Option R)
def KL.lab {R:Type} (l:KL) (r:l.T R):Lab R:=⟨l.1,l.2,fun d=>app r (fpk l.2.fr d.1 (bpk l.2.hp d.2 hl0))⟩
def kl:Nat->List KL->KL
 | _,[]=>([],⟨0,[],[],0,[]⟩)
 | 0,l::_=>l
 | n+1,_::r=>kl n r
def rdOf:Key->Option Nat
 | .yld m=>some m
 | _=>none
section
variable [LC] {P:Program} {i:IF}
structure EP (P:Program):Type 1 where
 e:Ent
 h:e.Sound P
structure EI (P:Program) (i:IF) where
 f:i.T
 h:(i.e f).Sound P
def EI.p (s:EI P i):EP P:=⟨i.e s.f,s.h⟩
def EP.es {P:Program}:List (EP P)->List Ent
 | []=>[]
 | x::l=>x.e::EP.es l
theorem EP.es_ok {P:Program}:∀ {l:List (EP P)},∀ e∈EP.es l,e.Sound P
 | [],_,h=>by cases h
 | x::_,e,h=>by
  rcases List.mem_cons.1 h with rfl|h
  ·exact x.h
  ·exact EP.es_ok e h
structure Fx (P:Program) (i:IF):Type 1 where
 etys:List (Nat×Ty)
 hm:P.follows .mixedOrders=true
 fn:Func
 f:FuncId
 hf:P.funcs[f]? = some fn
 calls:List (EP P)
 sub:Bool
 tags:List (List Nat×Nat)
 ht:∀ p t,q4f p tags=some t->∀ g ps x y,Sym.sub (qxj fn) p = .rangeFunc g ps x y->LC.lc t=some (x,y)
 ls:List KL
def Fx.body (x:Fx P i):Code:=qxj x.fn
def Fx.cx (x:Fx P i):Cx:={ P,tb:=⟨EP.es x.calls,x.etys,x.sub⟩,fn:=x.fn,f:=x.f,ids:=idsB i.hp,rd:=rdOf i.key,tags:=x.tags }
theorem Fx.ok (x:Fx P i):x.cx.Ok x.body:=⟨EP.es_ok,x.hm,x.hf,x.ht⟩
structure PL (x:Fx P i) (k:Nat) where
 f:(kl k x.ls).T i.R
 h:∀ d',q4i x.cx (bput i.hp d') i.out x.body ((kl k x.ls).lab f)
abbrev Fx.L (x:Fx P i) (k:Nat):=PL x k
structure SL (x:Fx P i) where
 q:Lab i.R
 h:∀ d',q4i x.cx (bput i.hp d') i.out x.body q
def PL.s {x:Fx P i} {k:Nat} (p:PL x k):SL x:=⟨(kl k x.ls).lab p.f,p.h⟩
def SL.qs {x:Fx P i}:List (SL x)->List (Lab i.R)
 | []=>[]
 | s::l=>s.q::SL.qs l
theorem SL.qs_ok {x:Fx P i} {d':bden i.hp}:∀ {l:List (SL x)},∀ q∈SL.qs l,q4i x.cx (bput i.hp d') i.out x.body q
 | [],_,h=>by cases h
 | s::_,q,h=>by
  rcases List.mem_cons.1 h with rfl|h
  ·exact s.h d'
  ·exact SL.qs_ok q h
def Fx.jn {x:Fx P i} {k:Nat} (f:(kl k x.ls).T i.R) (l:List (SL x))
  (h:∀ d,run x.cx i.out (SL.qs l) 1000000 false (qsk x.body (kl k x.ls).1) ((kl k x.ls).2.st d)=app f (fpk (kl k x.ls).2.fr d.1 (bpk (kl k x.ls).2.hp d.2 ()))):PL x k:=
 ⟨f,fun _=>q4i.of_run x.ok (fun _ _ h=>qyw h) (SL.qs_ok) h⟩
def Fx.lp {x:Fx P i} {k:Nat} (g:Nat->(kl k x.ls).T i.R) (b:(kl k x.ls).T i.R->(kl k x.ls).T i.R) (h0:∀ d:(kl k x.ls).2.den,app (g 0) (fpk (kl k x.ls).2.fr d.1 (bpk (kl k x.ls).2.hp d.2 ()))=none) (hg:∀ n,g (n+1)=b (g n)) (l:PL x k->List (SL x))
  (h:∀ r d,run x.cx i.out (SL.qs (l r)) 1000000 false (qsk x.body (kl k x.ls).1) ((kl k x.ls).2.st d)=app (b r.f) (fpk (kl k x.ls).2.fr d.1 (bpk (kl k x.ls).2.hp d.2 ()))) (n:Nat):PL x k:=
 ⟨g n,by
  induction n with
  | zero=>intro d' d r hr;have:=h0 d;rw[show ((kl k x.ls).lab (g 0)).F d=none from this]at hr;cases hr
  | succ n ih=>rw[hg];exact (Fx.jn (b (g n)) (l ⟨g n,ih⟩) (h ⟨g n,ih⟩)).h⟩
def Fx.fin (x:Fx P i) (f:i.T) (l:List (SL x)) (hp:q8k P x.f) (hk:i.key = .fn x.f) (hb:x.fn.body=some x.body) (hfine:zjv x.cx i.args i.hp=true)
  (h:∀ d d',zt9 x.cx x.body i.out (SL.qs l) i.args i.hp (Pts.put i.args d) (bput i.hp d')=app f (Pts.pk i.args d (bpk i.hp d' hl0))):EI P i:=
 ⟨f,Ent.sound_fn (e:=i.e f) (cx:=x.cx) (labs:=SL.qs l) x.ok hk hb (show rdOf i.key=none by rw[hk];rfl) rfl hp hfine (fun _=>SL.qs_ok) h⟩
def Fx.fiy (x:Fx P i) (f:i.T) (l:List (SL x)) (m:Nat) (hk:i.key = .yld m) (p:List Nat) (hb:isRF (Sym.sub x.body p)=true) (hfine:(q4a (idsB i.hp) i.args&&bIn (idsB i.hp) i.hp)=true)
  (h:∀ d d',za1 x.cx x.body p m i.out (SL.qs l) i.hp (Pts.put i.args d) (bput i.hp d')=app f (Pts.pk i.args d (bpk i.hp d' hl0))):EI P i:=
 ⟨f,Ent.sound_yld (e:=i.e f) (cx:=x.cx) (labs:=SL.qs l) (p:=p) (m:=m) x.ok hk (show rdOf i.key=some m by rw[hk];rfl) rfl hb hfine (fun _=>SL.qs_ok) h⟩
def EI.rc (g:Nat->i.T) (b:i.T->i.T) (h0:∀ d d',app (g 0) (Pts.pk i.args d (bpk i.hp d' hl0))=none) (hg:∀ n,g (n+1)=b (g n)) (s:EI P i->EI P i) (hs:∀ r,(s r).f=b r.f) (n:Nat):EI P i:=
 ⟨g n,by
  induction n with
  | zero=>intro d d' r hr;have:=h0 d d';rw[show (i.e (g 0)).F d d'=none from this]at hr;cases hr
  | succ n ih=>rw[hg,← hs ⟨g n,ih⟩];exact (s ⟨g n,ih⟩).h⟩
end
end Go.Sym
namespace Go.Sym
def qdw (n:Int):Option Bs:=bif decide (-9223372036854775808<=n/\n<=9223372036854775807) then some (Lib.itoa n) else none
def qer (s sep:Bs):Option Int:=bif decide (2<=List.length sep/\List.length s<4294967281/\List.length sep<=maxLen) then some (Lib.index s sep) else none
def qag {α:Type} (l:List α):Option (List α):=bif decide (List.length l<=qaq) then some l else none
end Go.Sym
namespace Go.Sym
def numS (s:Bs) (most:Int):Int×Bool:=match Lib.atoiAll s with
 | .ok v=>if Lib.itoa v=s/\0<=v/\v<=most then (v,true) else (0,false)
 | _=>(0,false)
def qgw (s:Bs) (most:Int):Option (Int×Bool):=bif decide (List.length s<=281474976710656) then some (numS s most) else none
abbrev Pc:Type:=Bs×Int×Bool×Bs
abbrev Pq:Type:={ x:Pc // -1125899906842624<=x.2.1/\x.2.1<=1125899906842624 }
instance:Inhabited Pq:=⟨⟨([],0,false,[]),by decide⟩⟩
def cfQ (x y:Pq):Int:=w64 (x.1.2.1-y.1.2.1)
def qud (l:List Pq):List Pq:=(Go.Sort.pdq (Go.Proofs.ltOf cfQ) l.toArray 0 l.length (Lib.bitLen l.length) true true).toList
def toQ:List Pc->Option (List Pq)
 | []=>some []
 | x::l=>if h : -1125899906842624<=x.2.1/\x.2.1<=1125899906842624 then (match toQ l with|some r=>some (⟨x,h⟩::r)|none=>none) else none
def qx2 (l:List Pc):Option (List Pc):=bif decide (List.length l<=qaq) then (match toQ l with|some q=>some ((qud q).map (·.1))|none=>none) else none
end Go.Sym
namespace Go.Sym
end Go.Sym
namespace Go.Sym
def vu (rep:Bs):Nat->Bool->Bs->Bs
 | 0,_,_=>[]
 | _+1,_,[]=>[]
 | n+1,inv,c::l=>if (Lib.decodeL (c::l)).1=65533/\(Lib.decodeL (c::l)).2=1 then (if inv then [] else rep)++vu rep n true l
  else (c::l).take (Lib.decodeL (c::l)).2++vu rep n false ((c::l).drop (Lib.decodeL (c::l)).2)
def qby (s rep:Bs):Option Bs:=bif decide (List.length s<=1000000/\List.length rep<=1000) then some (vu rep s.length false s) else none
def qa2 (s:Bs):Option Bool:=bif decide (List.length s<=9223372036854775807) then some (Lib.validD s) else none
end Go.Sym
namespace Go.Sym
def esc (a b:UInt8) (na nb:Bs) (c:UInt8):Bs:=if c=a then na else if c=b then nb else [c]
def escs (a b:UInt8) (na nb:Bs) (s:Bs):Bs:=s.flatMap (esc a b na nb)
def cntP (a b:UInt8) (l:Bs):Nat:=l.count a+l.count b
theorem qur (a b:UInt8) (na nb s t:Bs):escs a b na nb (s++t)=escs a b na nb s++escs a b na nb t:=List.flatMap_append
theorem qx5 (a b:UInt8) (s t:Bs):cntP a b (s++t)=cntP a b s+cntP a b t:=by unfold cntP;rw[List.count_append,List.count_append];omega
theorem q7g {a b:UInt8} (hab:a≠b) (c:UInt8):cntP a b [c]=if c=a then 1 else if c=b then 1 else 0:=by
 unfold cntP;simp only[List.count_cons,List.count_nil,beq_iff_eq];by_cases h:c=a
 ·subst h;simp[hab]
 ·by_cases h2:c=b
  ·subst h2;simp[h]
  ·simp[h,h2]
theorem q1o {a b:UInt8} (hab:a≠b) (a1 a2 b1 b2:UInt8):∀ l:Bs,(escs a b [a1,a2] [b1,b2] l).length=l.length+cntP a b l
 | []=>rfl
 | c::l=>by
  have h:=q1o hab a1 a2 b1 b2 l;rw[show c::l=[c]++l from rfl,qur,qM,qM,qx5,h,q7g hab]
  have:(escs a b [a1,a2] [b1,b2] [c]).length=1+(if c=a then 1 else if c=b then 1 else 0):=by
   show (esc a b [a1,a2] [b1,b2] c++[]).length=_;unfold esc;split
   ·rfl
   ·split<;>rfl
  rw[this];simp only[qL,qZ];omega
theorem zg9 {a b:UInt8} (hab:a≠b) (na nb:Bs):∀ l:Bs,cntP a b l=0->escs a b na nb l=l
 | [],_=>rfl
 | c::l,h=>by
  rw[show c::l=[c]++l from rfl,qx5,q7g hab]at h
  rw[show c::l=[c]++l from rfl,qur,zg9 hab na nb l (by omega)]
  congr 1;show esc a b na nb c++[]=[c];unfold esc;by_cases h1:c=a
  ·rw[qX h1]at h;omega
  ·by_cases h2:c=b
   ·rw[qW h1,qX h2]at h;omega
   ·rw[qW h1,qW h2];rfl
theorem q9v {α:Type} (l:List α) (i:Nat) (h:i<l.length):l.take (i+1)=l.take i++[l[i]]:=by
 rw[List.take_add_one,List.getElem?_eq_getElem h];rfl
def qif (s:Bs) (p0 p1 _p2:Int) (on:List Bs):Option Bs:=
 match on with
 | [[a],[a1,a2],[b],[b1,b2]]=>bif decide (p0=0/\p1=0/\a≠b/\List.length s<=1000000) then some (escs a b [a1,a2] [b1,b2] s) else none
 | _=>none
theorem q4c {s r:Bs} {p0 p1 p2:Int} {on:List Bs} (h:qif s p0 p1 p2 on=some r) :
  ∃ a a1 a2 b b1 b2,on=[[a],[a1,a2],[b],[b1,b2]]/\p0=0/\p1=0/\a≠b/\List.length s<=1000000/\r=escs a b [a1,a2] [b1,b2] s:=by
 unfold qif at h;split at h
 ·rename_i a a1 a2 b b1 b2;cases hd:decide (p0=0/\p1=0/\a≠b/\List.length s<=1000000)<;>rw[hd]at h<;>simp only[qT,qF,reduceCtorEq]at h
  obtain⟨h1,h2,h3,h4⟩:=of_decide_eq_true hd;exact⟨a,a1,a2,b,b1,b2,rfl,h1,h2,h3,h4,(qJ h).symm⟩
 ·cases h
end Go.Sym
namespace Go.Sym
open Go.RowKit
variable [LC]
def qbv (b:List UInt8) (c:UInt8):Option Int:=some (Lib.indexByte b c)
def qit (f:FuncId) (r:List UInt8->UInt8->Option Int):Ent:={ key := .ext f,args:=[.h (.list .byte),.h .byte],hp:=[],R:=Int,F:=fun d _=>r d.1 d.2.1,out := .one (α:=Int) (.h (.int .i64)) [] (fun r=>(r,())) (fun y=>y.1) (fun _=>rfl) }
def qeg (f:FuncId) (r:List UInt8->UInt8->Option Int):Ent:={ key := .ext f,args:=[.h .str,.h .byte],hp:=[],R:=Int,F:=fun d _=>r d.1 d.2.1,out := .one (α:=Int) (.h (.int .i64)) [] (fun r=>(r,())) (fun y=>y.1) (fun _=>rfl) }
omit [LC] in
theorem q7r (c:UInt8):((c.toNat:Int)).toNat.toUInt8=c:=by simp
theorem qx1 {P : Program} {f : FuncId} {fn : Func} (hf : P.funcs[f]? = some fn) (hname : (fn.name == "runtime.NumGoroutine") = false) (hb : fn.body.isNone = true) (hn : Extern.findNext fn = none) (he : Extern.find fn = some Extern.BytealgIndexByte.indexByte) (b : List UInt8) (c : UInt8) :
  zml P f [.str b,.byte c] (.int .i64 (Lib.indexByte b c)):=fun w G vs _ hr=>by
 match vs,hr with
 | [v1,v2],⟨h1,h2,_⟩=>
  have h1:v1 = .string ⟨b.toArray⟩:=h1;have h2:v2 = .int .u8 c.toNat:=h2;subst h1 h2;refine⟨.int .i64 (Lib.indexByte b c),?_,rfl⟩;rw[run_callFunc_extern hf hname hb hn he,show ([Value.string ⟨b.toArray⟩,.int .u8 c.toNat]:List Value).toArray=#[.string ⟨b.toArray⟩,.int .u8 c.toNat] from rfl,Lib.run_indexByteString,q7r]
  rfl
theorem q64 {P : Program} {f : FuncId} {fn : Func} (hf : P.funcs[f]? = some fn) (hname : (fn.name == "runtime.NumGoroutine") = false) (hb : fn.body.isNone = true) (hn : Extern.findNext fn = none) (he : Extern.find fn = some Extern.BytealgIndexByte.indexByte) (b : List UInt8) (c : UInt8) :
  zml P f [.sl .byte b,.byte c] (.int .i64 (Lib.indexByte b c)):=fun w G vs hm hr=>by
 match vs,hr with
 | [v1,v2],⟨h1,h2,_⟩=>
  have h2:v2 = .int .u8 c.toNat:=h2;subst h2;obtain⟨a,cp,rfl,hc,hl⟩:SlAt 1 (Ty.byte.At G.imm) b v1:=h1;refine⟨.int .i64 (Lib.indexByte b c),?_,rfl⟩;rw[run_callFunc_extern hf hname hb hn he];have key:∀ k:Int,(Extern.BytealgIndexByte.indexByte #[.slice a b.length cp,.int .u8 c.toNat]).run P w = .ok (.int .i64 k) w->((Extern.BytealgIndexByte.indexByte ([Value.slice a b.length cp,.int .u8 c.toNat]:List Value).toArray).run P w).andThen (fun v w'=>Result.ok (Next.value v) w') = .ok (.value (.int .i64 k)) w:=by
   intro k hk;have e:([Value.slice a b.length cp,.int .u8 c.toNat]:List Value).toArray=#[.slice a b.length cp,.int .u8 c.toNat]:=rfl;rw[e,hk];rfl
  refine key _ ?_;have bb:Lib.bytesOf (b.map fun x=>(x.toNat:Int))=b:=by
   unfold Lib.bytesOf;rw[List.map_map];have:((fun n:Int=>UInt8.ofNat n.toNat) ∘ fun x:UInt8=>(x.toNat:Int))=id:=by funext x;simp
   rw[this,List.map_id]
  rcases hl with rfl|⟨g,o,rfl,hcells⟩
  ·have hs:=Lib.run_indexByteString (P:=P) .empty (c.toNat:Int) w
   cases a with
   | none=>exact hs
   | some ad=>exact hs
  ·have:=Lib.run_indexByteSlice (P:=P) (w:=w) g o b.length cp (b.map fun x=>(x.toNat:Int)) (by simp) (fun i hi=>by
    have hk:G.imm g (o+i*1)=some (.int .u8 b[i].toNat):=hcells i _ (List.getElem?_eq_getElem hi);have:=hm.agree _ _ _ hk;rw[Nat.mul_one]at this;rw[this];simp[List.getD_eq_getElem?_getD,hi]) (c.toNat:Int)
   rw[bb,q7r]at this;exact this
theorem qrc {P : Program} {f : FuncId} {fn : Func} (hf : P.funcs[f]? = some fn) (hname : (fn.name == "runtime.NumGoroutine") = false) (hb : fn.body.isNone = true) (hn : Extern.findNext fn = none) (he : Extern.find fn = some Extern.BytealgIndexByte.indexByte) :
  (qeg f qbv).Sound P:=fun d d' r h=>by
 have h:some (Lib.indexByte (show List UInt8 from d.1) (show UInt8 from d.2.1))=some r:=h
 have h:=qJ h;subst h;exact qx1 hf hname hb hn he _ _
theorem qvm {P : Program} {f : FuncId} {fn : Func} (hf : P.funcs[f]? = some fn) (hname : (fn.name == "runtime.NumGoroutine") = false) (hb : fn.body.isNone = true) (hn : Extern.findNext fn = none) (he : Extern.find fn = some Extern.BytealgIndexByte.indexByte) :
  (qit f qbv).Sound P:=fun d d' r h=>by
 have h:some (Lib.indexByte (show List UInt8 from d.1) (show UInt8 from d.2.1))=some r:=h
 have h:=qJ h;subst h;exact q64 hf hname hb hn he _ _
end Go.Sym
