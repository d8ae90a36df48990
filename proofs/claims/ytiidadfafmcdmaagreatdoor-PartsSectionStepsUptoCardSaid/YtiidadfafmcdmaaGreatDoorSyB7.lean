/- What the claim rests on, part 7: gathered texts. -/
import Derived.Handed
import Derived.Deep.DeepHandedRow
import Derived.LaidMore
import Derived.Lay
import Derived.LaidHandle
import Derived.MakeChecks
import Derived.LaidLaws
import Derived.Test.YtiidadfafmcdmaaGreatDoorSyB6
namespace Go.Sym
open Go.ChangeShapes Go.WideShapes Go.ChangeAt Go.RowKit
variable [LC]
def zaf (P:Program) (n:Nat):List Ty->List TypeId->Bool
 | [],[]=>true
 | τ::τs,t::ts=>tyOk P n τ t&&zaf P n τs ts
 | _,_=>false
def bds:(τs:List Ty)->Pts.den (τs.map .h)->Prop
 | [],_=>True
 | τ::τs,x=>τ.bd x.1/\bds τs x.2
mutual
def cnt {H:Type}:DataW H->Nat
 | .lit (.string s)=>s.length+1
 | .slice e r=>cntL e+cntL r+1
 | .agg l=>cntL l+1
 | _=>1
def cntL {H:Type}:List (DataW H)->Nat
 | []=>0
 | d::l=>cnt d+cntL l
end
section
variable {H:Type} {enc:TypeId×Value->H} {P:Program} {w:World} {base:Nat} {spare:Nat->Bool} {held:Bool}
def bks:(τs:List Ty)->Pts.den (τs.map .h)->Nat
 | [],_=>0
 | τ::τs,x=>τ.bk x.1+bks τs x.2
omit [LC] in
theorem q5n (B:Bulk H) {r:Reach} {bb n:Nat}:∀ (τs:List Ty) (ts:List TypeId) (vs:List Value) (ds:List (DataW H)) (ps:List MemPlace),zaf P n τs ts=true ->
  (∀ (j:Nat) t v,ts[j]? = some t->vs[j]? = some v->Value.okWide P w r bb t v)->DataW.TrodAll enc P w base spare held ts vs ds ps ->
  ∃ x:Pts.den (τs.map .h),bds τs x/\Reps (Pts.put (τs.map .h) x) (Gw w) vs/\bks τs x<=B.ba ds
 | [],[],vs,ds,ps,_,_,h=>by
  obtain⟨rfl,rfl,_⟩:=trodAll_nil h;exact⟨(),trivial,trivial,Nat.zero_le _⟩
 | τ::τs,t::ts,vs,ds,ps,h1,h2,h=>by
  obtain⟨v,vs',d,ds',p,q,rfl,rfl,rfl,hd,hr⟩:=trodAll_cons h;simp only[zaf,qA]at h1;obtain⟨x,xb,xr,xk⟩:=zjm B h1.1 (h2 0 t v rfl rfl) hd;obtain⟨y,yb,yr,yk⟩:=q5n B τs ts vs' ds' q h1.2 (fun j t v ht hv=>h2 (j+1) t v ht hv) hr
  exact⟨(x,y),⟨xb,yb⟩,⟨xr,yr⟩,by rw[B.cons];show τ.bk x+bks τs y<=_;omega⟩
 | [],_::_,_,_,_,h,_,_=>by simp[zaf]at h
 | _::_,[],_,_,_,h,_,_=>by simp[zaf]at h
omit [LC] in
theorem q72 {W W':World} (laid:laidOutB P=true) (hb:Below W.heap.size W W'):∀ (ts:List TypeId) (vs:List Value) (ds:List (DataW H)) (ps:List MemPlace),
  ts.all (fun t=>P.readableRec t&&decide (t<P.types.size))=true->DataW.TrodAll enc P W 0 (fun _=>true) true ts vs ds ps->DataW.TrodAll enc P W' 0 (fun b=>decide (b<W.heap.size)) true ts vs ds ps
 | [],vs,ds,ps,_,h=>by
  obtain⟨rfl,rfl,rfl⟩:=trodAll_nil h;exact trodAll_mk0
 | t::ts,vs,ds,ps,h1,h=>by
  obtain⟨v,vs',d,ds',p,q,rfl,rfl,rfl,hd,hr⟩:=trodAll_cons h;simp only[List.all_cons,qA,decide_eq_true_eq]at h1;have lt:∀ x∈p,x.block<W.heap.size:=by obtain⟨m,hm⟩:=hd;exact DataW.trod_lt m _ _ _ hm
  exact trodAll_cons_mk (Below.trod laid h1.1.1 h1.1.2 hd hb lt) (q72 laid hb ts vs' ds' q h1.2 hr)
end
theorem zqm {P:Program} {f:FuncId} {xs:List AV} (h:qbm P f xs [] (.bool true) []) (vs:List Value) (w:World) (ht:LC.tab (Gw w).imm w) (hr:Reps xs (Gw w) vs) :
  Calls P f vs.toArray w fun e w'=>e = .returned (.bool true)/\Below w.heap.size w w':=by
 refine (h w (Gw w) vs (zyx w ht) hr).mono ?_;rintro e w' ⟨v,G,rfl,hfin,hrep⟩
 have hv:v = .bool true:=hrep;subst hv;refine⟨rfl,hfin.bel.os,hfin.bel.tape,hfin.bel.output,hfin.bel.size,fun k hk=>hfin.bel.block k hk ?_⟩
 rintro⟨n,bx,hl,_⟩
 cases hl
end Go.Sym
namespace Go.Sym
open Go.ChangeShapes Go.WideShapes Go.ChangeAt Go.RowKit
variable [LC]
theorem zt0 {H:Type} {enc:TypeId×Value->H} {C:Checked} {os:Os} {f:FuncId} {fn:Func} {s:ChangeSpec} {so:OpenSpec} {F:Stop.Interp} {conds:List PathCond} {t:TypeId} {n:Nat} (τs:List Ty) (l:List (String×DataW Unit)) (B:Bulk H) (M:Nat)
  (qxe:(H:Type)->List (DataW H)->Bool) (hso:so={ OpenSpec.ofChange s with cond:=some qxe }) (hsm:∀ ds:List (DataW H),qxe H ds=true->B.ba ds<=M)
  (own:ownKnob C.prog.godebug=none) (laid:laidOutB C.prog=true) (started:os.Started) (noInit:C.prog.inits.idxOf? f=none) (hfn:C.prog.funcs[f]? = some fn)
  (witness:∃ (w:World) (tape:Tape) (i:Input),w.os=os/\(w.forCall tape i).Shaped C.prog/\i.vars=[]/\Input.okWide C.prog (w.forCall tape i) .any w.heap.size f i /\
   so.preRow enc C.prog fn conds false l (w.forCall tape i).memory i.args/\({}:Assume).holds C.prog (lone (Frame.enter C.prog f i.args .normal) [] (w.forCall tape i)))
  (hvars:s.vars=[]) (hspec:∀ ds:List (DataW H),ds.length=fn.params.size->s.fn H ds={ results:=[.lit (.bool true)],args:=ds })
  (htys:zaf C.prog n τs fn.params.toList=true) (hread:fn.params.toList.all (fun t=>C.prog.readableRec t&&decide (t<C.prog.types.size))=true)
  (hres:fn.resultTypes=#[t]) (hbool:C.prog.underlying t=some .bool)
  (htab:∀ W:World,laidMetH C.prog l W->W.ShapedOpen C.prog->LC.tab (Gw W).imm W)
  (hcall:∀ x:Pts.den (τs.map .h),bds τs x->bks τs x<=M->qbm C.prog f (Pts.put (τs.map .h) x) [] (.bool true) []) :
  ReturnsInHanded {} C os f .any (so.preRow enc C.prog fn conds false l) ((so.at F).post enc C.prog fn false true false false):=by
 subst hso;refine returnsInHanded_of_row own started noInit hfn witness ?_;intro W base args ds gs before hval hW _ hcond _ hlaid hsh _;have hW':=hW;obtain⟨p,q,hA,hV,rfl,_,_⟩:=hW;rw[show ({ OpenSpec.ofChange s with cond:=some qxe }:OpenSpec).vars=[] from hvars]at hV
 obtain⟨rfl,rfl⟩:=trodVars_none hV;have hk:=hsm _ (hcond qxe rfl);rw[List.append_nil]at hk;have hl:ds.length=fn.params.size:=by
  have key:∀ (ts:List TypeId) (vs:List Value) (ds:List (DataW H)) (ps:List MemPlace),DataW.TrodAll enc C.prog W 0 (fun _=>true) true ts vs ds ps->ds.length=ts.length:=by
   intro ts
   induction ts with
   | nil=>intro vs ds ps h;obtain⟨_,rfl,_⟩:=trodAll_nil h;rfl
   | cons t ts ih=>
    intro vs ds ps h;obtain⟨v,vs',d,ds',p,q,_,rfl,_,_,hr⟩:=trodAll_cons h;rw[qL,qL,ih _ _ _ hr]
  rw[key _ _ _ _ hA,Array.length_toList]
 obtain⟨x,xb,xr,xk⟩:=q5n B τs fn.params.toList args.toList ds p htys (fun j t v ht hv=>hval j t v (by rw[← Array.getElem?_toList];exact ht) (by rw[← Array.getElem?_toList];exact hv)) hA
 have hc:=zqm (hcall x xb (Nat.le_trans xk hk)) args.toList W (htab W hlaid hsh) xr;rw[Array.toArray_toList]at hc;refine hc.mono fun e W' ⟨he,bel⟩ => ?_
 subst he;refine⟨_,rfl,ds,[],p++[],[],p,[],hW',?_⟩;show DataW.TrodAll _ _ _ _ _ _ _ _ _ _/\_;rw[List.append_nil,show ((OpenSpec.at { OpenSpec.ofChange s with cond:=some qxe } F).fn H ds)=s.fn H ds from rfl,hspec ds hl,hres]
 exact⟨trodAll_mk1 (shut_bool hbool _),q72 laid bel _ _ _ _ hread hA,(by rw[show ((OpenSpec.at { OpenSpec.ofChange s with cond:=some qxe } F).vars)=[] from hvars];rfl),bel.frame _,fun h=>by cases h⟩
end Go.Sym
namespace Go.Sym
theorem zo0 (l:List Fld) (f:Fld->Nat) (hf:∀ x,x.1.length+x.2.length+1<=f x):l.length<=(l.map f).sum/\∀ x∈l,x.1.length+x.2.length<=(l.map f).sum:=by
 induction l with
 | nil=>exact⟨wF _,fun x h=>by cases h⟩
 | cons y l ih=>
  have hy:=hf y;refine⟨by simp only[qL,List.map_cons,List.sum_cons];omega,fun x hx => ?_⟩
  rw[List.map_cons,List.sum_cons];rcases List.mem_cons.1 hx with rfl|hx
  ·omega
  ·have:=ih.2 x hx;omega
theorem q56:∀ b:List UInt8,(List.map (Ty.byte.bk:Ty.byte.den->Nat) b).sum=b.length
 | []=>rfl
 | c::b=>by
  show 1+(List.map (Ty.byte.bk:Ty.byte.den->Nat) b).sum=b.length+1;rw[q56 b];omega
def zbh (x:Fld):Nat:=(x.1.length+1)+(x.2.length+1)
end Go.Sym
namespace Go.Sym
theorem z1c (l:List Fld) (b:List UInt8) (h:((l.map zbh).sum+1)+(b.length+1)<=1048576):SmM (l,b):=by
 obtain⟨h1,h2⟩:=zo0 l zbh (fun x=>by unfold zbh;omega)
 refine⟨⟨by simp only;omega,fun x hx => ?_⟩,by simp only;omega⟩
 have:=h2 x hx;omega
theorem z3d (m:List Fld×List UInt8) (h:(Ty.prod (.list (.prod .str .str)) (.list .byte)).bk m<=1048576):SmM m:=by
 obtain⟨l,b⟩:=m;have h:((l.map zbh).sum+1)+((List.map (Ty.byte.bk:Ty.byte.den->Nat) b).sum+1)<=1048576:=h;rw[q56]at h;exact z1c l b h
end Go.Sym
namespace Go.Sym
abbrev TP:Type:=Tree (List (Bs×Bs)×Bs)
abbrev τP:Ty := .prod (.list (.prod .str .str)) (.list .byte)
def tsz (t:TP):Nat:=(Ty.tree τP).bk t
theorem qsz (x:List (Bs×Bs)×Bs) (l:List TP):tsz (.node x l)=τP.bk x+(l.map tsz).sum+2:=q15 τP.bk x l
theorem qku (t:TP):Tree.node t.val t.kids=t:=by cases t;rfl
theorem zsg (l:List TP) (k:TP) (h:k∈l):tsz k<=(l.map tsz).sum:=by
 obtain⟨a,b,rfl⟩:=List.append_of_mem h;simp;omega
theorem qth {t k:TP} (h:k∈t.kids):tsz k+2<=tsz t:=by
 cases t with
 | node x l=>
  rw[qsz];have:=zsg l k h;omega
theorem zrd (l:List TP):l.length<=(l.map tsz).sum:=by
 induction l with
 | nil=>simp
 | cons k l ih=>
  have:2<=tsz k:=by cases k;rw[qsz];omega
  simp only[qL,List.map_cons,List.sum_cons];omega
theorem qsm (t:TP):t.kids.length+2<=tsz t:=by
 cases t with
 | node x l=>rw[qsz];have:=zrd l;show l.length+2<=_;omega
theorem q0n (t:TP):2<=tsz t:=by cases t;rw[qsz];omega
theorem zpi (t:TP):τP.bk t.val<=tsz t:=by cases t;rw[qsz];show τP.bk _<=_;simp only[Tree.val];omega
def SmT (x:List (Bs×Bs)×Bs):Prop:=SmM x/\x.1.length<=4000000/\(∀ y∈x.1,y.1.length<=4000000/\y.2.length<=4000000)/\x.2.length<=4000000
theorem z0h (x:List (Bs×Bs)×Bs) (h:τP.bk x<=1048576):SmT x:=by
 refine⟨z3d x h,?_⟩;obtain⟨l,b⟩:=x;have h:((l.map zbh).sum+1)+((List.map (Ty.byte.bk:Ty.byte.den->Nat) b).sum+1)<=1048576:=h;rw[q56]at h;obtain⟨h1,h2⟩:=zo0 l zbh (fun x=>by unfold zbh;omega)
 exact⟨by simp only;omega,fun y hy=>by have:=h2 y hy;omega,by simp only;omega⟩
def q74 (l:List Fld) (b:Bs):Int:=match typV l with
 | none=>5
 | some m=>if 0<b.length\/lk m.1 mpN=false\/(parB m.2.2 bdN).2=true\/60<=m.2.2.length\/vals l ctN≠[q1k m]\/2000<(q1k m).length then 5 else 0
theorem znc (fu:Nat) (hfu:90000000<=fu) (t:TP) (hs:SmT t.val):qrm fu t=some (q74 t.val.1 t.val.2):=by
 obtain⟨_,h1,h2,h3⟩:=hs;obtain⟨R,g1,g2⟩:=ziq fu hfu t.val.1 h2 h1;unfold qrm q74;rw[g1,qB];simp only[qku]
 cases ht:typV t.val.1 with
 | none=>
  rw[ht]at g2;obtain⟨k,rfl⟩:=g2;simp only[sumK];by_cases hb:0<t.val.2.length
  ·rw[qaa (by omega),qbi,qau rfl]
  ·rw[qac (by omega),qek,qbi,qau rfl]
 | some m=>
  rw[ht]at g2;obtain⟨vbt,x,vbs,e1,e2,e3,e4,e5,rfl⟩:=g2;have h0:=q52 ht;have hv:=qze h0;simp only[sumK];by_cases hb:0<t.val.2.length
  ·rw[qaa (by omega),qbi,qau rfl,qX (.inl hb)]
  rw[qac (by omega),qb0,quu fu hfu _ _ (by have:=hv.1;omega) (by simp),qB,qbi,qku]
  cases hk:lk m.1 mpN
  ·rw[qek,qX (.inr (.inl rfl))]
  rw[qb0,qqq,q9u fu hfu (m.1,(m.2.1,m.2.2)) bdN (by simp) hv.smD,qB,qW (by simpa using h0),zm6 fu hfu (m.1,(m.2.1,m.2.2)) hv.smD,qB,qW (by simpa using h0)]
  rw[show ((m.1,(m.2.1,m.2.2)):Med)=m from rfl]
  simp only;cases hp:(parB m.2.2 bdN).2
  ·rw[qax rfl];by_cases h60:60<=m.2.2.length
   ·rw[qaa (by omega),qX (.inr (.inr (.inr (.inl h60))))]
   rw[qac (by omega)]
   by_cases h4:4000<(q1k m).length
   ·rw[qX h4,qX (by omega)];rfl
   ·have hx:idx t.val.1 (vbt.length:Int)=some x:=by rw[e1];exact qan vbt x vbs
    rw[qW h4];simp only[qmu,qB];rw[qax (by rfl),hx,qB,zop,e2]
    by_cases he:q1k m=x.2
    ·rw[qW (by rw[he];simp),qhq]
     by_cases h2k:2000<(q1k m).length
     ·rw[qX (by omega),qX (by omega)]
     ·rw[qW (by omega),qW (by
       rintro (q|q|q|q|q|q)
       ·exact hb q
       ·simp at q
       ·simp at q
       ·exact h60 q
       ·exact q (by rw[he])
       ·exact h2k q)]
    ·rw[qX (by simpa using he),qX (.inr (.inr (.inr (.inr (.inl (by simpa using fun q=>he q.symm))))))]
  ·rw[qau rfl,qX (.inr (.inr (.inl rfl)))]
def q0a (t:TP) (d:Int):Int:=if (qux t.val.1).1≠0 then (qux t.val.1).1 else if 0<t.kids.length then q74 t.val.1 t.val.2 else if 12000<t.val.2.length then 1
 else if bs 0 t.val.2≠0 then bs 0 t.val.2 else match bnd t.val.1 with
  | none=>0
  | some b=>if d<8/\0<(za2 t.val.2 b).length then 5 else 0
theorem q7w (fu:Nat) (s:Bs) (h:s.length<fu) (hb:s.length<100000000):qp7 fu s=some (bs 0 s):=by
 unfold qp7;have:=zru fu fu [] s 0 h (by simpa using hb) (by omega)
 exact this
theorem zl0 (fu:Nat) (hfu:90000000<=fu) (l:List Fld) (b:Bs) (d:Int) (hs:SmT (l,b)):qk2 fu l b d=some (match bnd l with|none=>[]|some bb=>if d<8 then za2 b bb else []):=by
 obtain⟨_,h1,h2,h3⟩:=hs;obtain⟨R,g1,g2⟩:=zbn fu hfu l h2 h1;unfold qk2;rw[g1,qB]
 cases hb:bnd l with
 | none=>rw[hb]at g2;simp only at g2;rw[g2,qek]
 | some bb=>
  rw[hb]at g2;simp only at g2;subst g2;rw[qb0,qhq];have:=zfi hb;by_cases hd:d<8
  ·rw[qW (by omega)];simp only[qX hd];rw[q91 fu hfu b bb h3 (by omega)];rfl
  ·rw[qX (by omega)];simp only[qW hd]
theorem zkn (fu:Nat) (hfu:90000000<=fu) (t:TP) (d:Int) (hs:SmT t.val):qra fu (t,d)=some (q0a t d):=by
 unfold qra q0a;rw[zsm fu hfu _ hs.1.1,qB,qmu,qB,qlh];simp only[qku];by_cases h0:(qux t.val.1).1≠0
 ·rw[qX h0,qX h0]
 rw[qW h0,qW h0,qhq];by_cases h1:0<t.kids.length
 ·rw[qX (by omega),qX h1,znc fu hfu t hs];rfl
 rw[qW (by omega),qW h1,qhq]
 by_cases h2:12000<t.val.2.length
 ·rw[qX (by omega),qX h2]
 rw[qW (by omega),qW h2,q7w fu _ (by omega) (by omega),qB,qlh]
 by_cases h3:bs 0 t.val.2≠0
 ·rw[qX h3,qX h3]
 rw[qW h3,qW h3,zl0 fu hfu t.val.1 t.val.2 d hs,qB]
 cases bnd t.val.1 with
 | none=>rfl
 | some b=>
  simp only;by_cases hd:d<8
  ·simp only[qX hd];rw[qhq];by_cases hc:0<(za2 t.val.2 b).length
   ·rw[qX (by omega),qX ⟨hd,hc⟩]
   ·rw[qW (by omega),qW (fun q=>hc q.2)]
  ·simp only[qW hd];rw[qW (fun q=>hd q.1)];rfl
theorem za8 (fu:Nat) (hfu:90000000<=fu) (t:TP) (d:Int) (hs:SmT t.val):qrn fu t d=some (q0a t d):=by
 unfold qrn q0a;rw[zvi fu hfu _ hs.1.1,qB,qlh];simp only[qku];by_cases h0:(qux t.val.1).1≠0
 ·rw[qX h0,qX h0]
 rw[qW h0,qW h0,qhq];by_cases h1:0<t.kids.length
 ·rw[qX (by omega),qX h1,q7y fu hfu _ hs.1.1,qB]
  unfold q74
  cases ht:typV t.val.1 with
  | none=>
   simp only;rw[q1z fu hfu ([],([],[])) bdN (by simp) ⟨by simp,by simp⟩,qB,qek,qbj,qau rfl]
  | some m=>
   have h0:=q52 ht;have hv:=qze h0;simp only;rw[q1z fu hfu m bdN (by simp) hv.smD.2.2,qB,qb0]
   cases hp:(parB m.2.2 bdN).2
   ·rw[qax rfl,qul fu hfu _ _ (by have:=hv.1;omega) (by simp),qB]
    cases hk:lk m.1 mpN
    ·rw[qek,qbj,qau rfl,qX (.inr (.inl rfl))]
    rw[qb0,qhq];by_cases hb:0<t.val.2.length
    ·rw[qX (by omega),qbj,qau rfl,qX (.inl hb)]
    rw[qW (by omega),qbj,qhq]
    by_cases h60:60<=m.2.2.length
    ·rw[qX (by omega),qX (.inr (.inr (.inr (.inl h60))))]
    rw[qW (by omega),qku,qqj,zkh fu hfu m hv,qB,qhq]
    by_cases h2k:2000<(q1k m).length
    ·rw[qX (by omega),qiv,qau rfl,qX (by omega)]
    rw[qW (by omega),q3j fu hfu _ ctn (by simp) hs.1.1,qB,zi2]
    have hv1:∃ v,vals t.val.1 ctN=[v]:=by
     unfold typV at ht;split at ht
     ·rename_i v hv2;exact⟨v,hv2⟩
     ·cases ht
    obtain⟨v,hv1⟩:=hv1;rw[hv1,qaa (by simp),show ([v]:List Bs)[(0:Int).toNat]? = some v from rfl,qB,qiv,zop]
    by_cases he:v=q1k m
    ·rw[qW (by rw[he];simp),qW (by
      rintro (q|q|q|q|q|q)
      ·exact hb q
      ·simp at q
      ·simp at q
      ·exact h60 q
      ·exact q (by rw[he])
      ·exact h2k q)];rfl
    ·rw[qX (by simpa using he),qX (.inr (.inr (.inr (.inr (.inl (by simpa using he))))))]
   ·rw[qau rfl,qbj,qau rfl,qX (.inr (.inr (.inl rfl)))]
 rw[qW (by omega),qW h1,qhq]
 have hbl:=hs.2.2.2;by_cases h2:12000<t.val.2.length
 ·rw[qX (by omega),qX h2]
 rw[qW (by omega),qW h2,zln fu _ (by omega) (by omega),qB,qlh]
 have hbv:(zqh (bs 0 t.val.2)).1=bs 0 t.val.2:=by
  rcases zoq t.val.2.length t.val.2 0 (wF _) with h|h|h<;>rw[h]<;>rfl
 rw[hbv];by_cases h3:bs 0 t.val.2≠0
 ·rw[qX h3,qX h3]
 rw[qW h3,qW h3];obtain⟨R,g1,g2⟩:=z1r fu hfu t.val.1 hs.1.1;rw[g1,qB]
 cases hb:bnd t.val.1 with
 | none=>rw[hb]at g2;simp only at g2;rw[g2];rfl
 | some b=>
  rw[hb]at g2;simp only at g2 ⊢;subst g2;have:=zfi hb;rw[qau rfl,qhq];by_cases hd:d<8
  ·rw[qX hd,q5r fu hfu t.val.2 b hbl (by omega),qB,qhq]
   by_cases hc:0<(za2 t.val.2 b).length
   ·rw[qX (by omega),qX ⟨hd,hc⟩]
   ·rw[qW (by omega),qW (fun q=>hc q.2)]
  ·rw[qW hd,qW (fun q=>hd q.1)]
def qiz:Nat->TP->Int->List (TP×Int)
 | 0,_,_=>[]
 | n+1,t,d=>(t,d)::t.kids.flatMap fun k=>qiz n k (d+1)
theorem q9s:∀ (n:Nat) (t:TP) (d:Int),(qiz n t d).length<=tsz t:=by
 intro n
 induction n with
 | zero=>intro t d;simp[qiz]
 | succ n ih=>
  intro t d;have key:∀ l:List TP,(l.flatMap fun k=>qiz n k (d+1)).length<=(l.map tsz).sum:=by
   intro l
   induction l with
   | nil=>simp
   | cons k l ih2=>
    have:=ih k (d+1);rw[List.flatMap_cons,qM,List.map_cons,List.sum_cons];omega
  cases t with
  | node x l=>
   have:=key l;rw[qiz,qL,qsz];show (l.flatMap _).length+1<=_;omega
theorem znq:∀ (n:Nat) (t:TP) (d:Int),∀ x∈qiz n t d,tsz x.1<=tsz t:=by
 intro n
 induction n with
 | zero=>intro t d x hx;cases hx
 | succ n ih=>
  intro t d x hx;rw[qiz]at hx;rcases List.mem_cons.1 hx with e|e
  ·rw[e];exact wF _
  ·obtain⟨k,hk,hx2⟩:=List.mem_flatMap.1 e;have:=ih k (d+1) x hx2;have:=qth hk;omega
def gd (t:TP):Prop:=tsz t<=60000000/\∀ n d,∀ x∈qiz n t d,SmT x.1.val
theorem zf0 {t:TP} (h:gd t):SmT t.val:=h.2 1 0 (t,0) (by rw[qiz];exact qH)
theorem q16 {t k:TP} (h:gd t) (hk:k∈t.kids):gd k:=⟨by have:=qth hk;have:=h.1;omega,fun n d x hx=>h.2 (n+1) (d-1) x (by
 rw[qiz];refine qE _ (List.mem_flatMap.2 ⟨k,hk,?_⟩);rw[show d-1+1=d by omega];exact hx)⟩
theorem z1o {t:TP} (h:tsz t<=1048576):gd t:=⟨by omega,fun n d x hx=>z0h _ (by have:=znq n t d x hx;have:=zpi x.1;omega)⟩
def run1:List (TP×Int)->Nat->Bool->Option (Nat×Bool)
 | [],i,fl=>some (i,fl)
 | x::L,i,fl=>if 40<=i then none else run1 L (i+1) (fl||decide (8<x.2))
theorem zbp:∀ (L M:List (TP×Int)) (i:Nat) (fl:Bool),run1 (L++M) i fl=(run1 L i fl).bind fun x=>run1 M x.1 x.2
 | [],_,_,_=>rfl
 | x::L,M,i,fl=>by
  rw[wK,run1,run1];by_cases h:40<=i
  ·rw[qX h,qX h];rfl
  ·rw[qW h,qW h,zbp L M]
theorem zfs:∀ (L:List (TP×Int)) (i:Nat) (fl:Bool) (x:Nat×Bool),i<=40->run1 L i fl=some x->x.1<=40
 | [],_,_,_,h,e=>by cases e;exact h
 | y::L,i,fl,x,h,e=>by
  rw[run1]at e;by_cases h4:40<=i
  ·rw[qX h4]at e;cases e
  ·rw[qW h4]at e;exact zfs L _ _ x (by omega) e
theorem zcs:∀ (L:List (TP×Int)) (i:Nat) (fl:Bool),i<=40->run1 L i fl=if 40<i+L.length then none else some (i+L.length,fl||L.any fun x=>decide (8<x.2))
 | [],i,fl,h=>by rw[run1,qW (by simp;omega)];simp
 | x::L,i,fl,h=>by
  rw[run1];by_cases h4:40<=i
  ·rw[qX h4,qX (by simp only[qL];omega)]
  ·rw[qW h4,zcs L _ _ (by omega)]
   by_cases h5:40<i+1+L.length
   ·rw[qX h5,qX (by simp only[qL];omega)]
   ·rw[qW h5,qW (by simp only[qL];omega),List.any_cons,Bool.or_assoc,qL,Nat.add_assoc,Nat.add_comm 1]
theorem zmh (fu:Nat) (hfu:90000000<=fu) (z:Int×Int):∀ (n:Nat) (t:TP) (d i:Nat) (fl:Bool),tsz t<=n->tsz t+d<=70000000->i<=40 ->
  ∃ R,qec fu n t (d:Int) (i:Int) z fl=some R/\match run1 (qiz n t (d:Int)) i fl with
   | none=>∃ a b,R = .inl (a,(((2:Int),(-1:Int)),b))
   | some x=>R = .inr ((x.1:Int),(z,x.2)):=by
 intro n
 induction n with
 | zero=>intro t d i fl h;have:=q0n t;omega
 | succ n ih=>
  intro t d i fl hz hd hi;rw[qec,qj4,ql5,qiz,run1];by_cases h4:40<=i
  ·rw[qaa (by omega),qX h4,qhk];exact⟨_,rfl,_,_,rfl⟩
  rw[qac (by omega),qW h4]
  have hr0:(bif fl then some (.inr (z,true)) else some (.inr (z,decide ((8:Int)<(d:Int)))):Option qsc)=some (.inr (z,fl||decide ((8:Int)<(d:Int)))):=by cases fl<;>rfl
  rw[hr0,qB];simp only[sumK];rw[qai i (by omega)]
  have loop:∀ (m:Nat) (vbt vbs:List TP) (i:Nat) (fl:Bool),t.kids=vbt++vbs->vbs.length<m->i<=40 ->
    ∃ R,qff (qec fu n) fu m (d:Int) t.kids (t.kids.length:Int) (vbt.length:Int) (i:Int) z fl=some R/\match run1 (vbs.flatMap fun k=>qiz n k ((d:Int)+1)) i fl with
     | none=>∃ a b,R = .inl (a,(((2:Int),(-1:Int)),b))
     | some x=>R = .inr ((x.1:Int),(z,x.2)):=by
   intro m
   induction m with
   | zero=>intro vbt vbs i fl _ h;exact absurd h (by omega)
   | succ m ihm=>
    intro vbt vbs i fl hk h hi;have vbu:t.kids.length=vbt.length+vbs.length:=by rw[hk];simp
    have hks:=qsm t;rw[qff,ql6]
    cases vbs with
    | nil=>rw[qac (by simp only[qZ]at vbu;omega)];exact⟨_,rfl,rfl⟩
    | cons k vbs=>
     simp only[qL]at h vbu;have hkm:k∈t.kids:=by rw[hk];simp
     have hx:idx t.kids (vbt.length:Int)=some k:=by rw[hk];exact qan vbt k vbs
     have hkz:=qth hkm;rw[qaa (by omega),hx,qB,qku,qai d (by omega),List.flatMap_cons,zbp]
     obtain⟨R,g1,g2⟩:=ih k (d+1) i fl (by omega) (by omega) hi
     rw[g1,qB];rw[show ((d+1:Nat):Int)=(d:Int)+1 by omega]at g2
     cases hr:run1 (qiz n k ((d:Int)+1)) i fl with
     | none=>
      rw[hr]at g2;obtain⟨a,b,rfl⟩:=g2;exact⟨_,rfl,a,b,rfl⟩
     | some x=>
      rw[hr]at g2;simp only at g2;subst g2;simp only[sumK,qB];rw[qai _ (by omega)]
      have:=ihm (vbt++[k]) vbs x.1 x.2 (by rw[hk];simp) (by omega) (zfs _ _ _ _ hi hr)
      rw[qM,wD]at this;exact this
  have hks:=qsm t;exact loop fu [] t.kids (i+1) _ rfl (by omega) (by omega)
def run2:List (TP×Int)->Nat->Option (Int×Int)
 | [],_=>none
 | x::L,i=>if q0a x.1 x.2≠0 then some (q0a x.1 x.2,(i:Int)) else run2 L (i+1)
theorem zbt:∀ (L M:List (TP×Int)) (i:Nat),run2 (L++M) i=match run2 L i with|some f=>some f|none=>run2 M (i+L.length)
 | [],_,_=>rfl
 | x::L,M,i=>by
  rw[wK,run2,run2];by_cases h:q0a x.1 x.2≠0
  ·rw[qX h,qX h]
  ·rw[qW h,qW h,zbt L M,qL,Nat.add_assoc,Nat.add_comm 1]
theorem zne (fu:Nat) (hfu:90000000<=fu) (z:Int×Int):∀ (n:Nat) (t:TP) (d i:Nat),tsz t<=n->tsz t+d<=70000000->gd t->i+tsz t<=70000000 ->
  ∃ R,qcq fu n t (d:Int) (i:Int) z=some R/\match run2 (qiz n t (d:Int)) i with
   | some f=>∃ a,R = .inl (a,f)
   | none=>R = .inr (((i+(qiz n t (d:Int)).length:Nat):Int),z):=by
 intro n
 induction n with
 | zero=>intro t d i h;have:=q0n t;omega
 | succ n ih=>
  intro t d i hz hd hs hi;have htp:=q0n t;rw[qcq,qgk,ql3];rw[show ((t.val.1,t.val.2):List (Bs×Bs)×Bs)=t.val from rfl,qku,zkn fu hfu t _ (zf0 hs),qB,qiz,run2,qlh]
  by_cases hc:q0a t (d:Int)≠0
  ·rw[qX hc,qX hc,qhk];exact⟨_,rfl,_,rfl⟩
  rw[qW hc,qW hc,qB];simp only[sumK];rw[qai i (by omega)]
  have loop:∀ (m:Nat) (vbt vbs:List TP) (i:Nat),t.kids=vbt++vbs->vbs.length<m->i+(vbs.map tsz).sum<=70000000 ->
    ∃ R,qdj (qcq fu n) fu m (d:Int) t.kids (t.kids.length:Int) (vbt.length:Int) (i:Int) z=some R/\match run2 (vbs.flatMap fun k=>qiz n k ((d:Int)+1)) i with
     | some f=>∃ a,R = .inl (a,f)
     | none=>R = .inr (((i+(vbs.flatMap fun k=>qiz n k ((d:Int)+1)).length:Nat):Int),z):=by
   intro m
   induction m with
   | zero=>intro vbt vbs i _ h;exact absurd h (by omega)
   | succ m ihm=>
    intro vbt vbs i hk h hi;have vbu:t.kids.length=vbt.length+vbs.length:=by rw[hk];simp
    have hks:=qsm t;rw[qdj,qji]
    cases vbs with
    | nil=>rw[qac (by simp only[qZ]at vbu;omega)];exact⟨_,rfl,rfl⟩
    | cons k vbs=>
     simp only[qL]at h vbu;simp only[List.map_cons,List.sum_cons]at hi;have hkm:k∈t.kids:=by rw[hk];simp
     have hx:idx t.kids (vbt.length:Int)=some k:=by rw[hk];exact qan vbt k vbs
     have hkz:=qth hkm;have hfl:=q9s n k ((d:Int)+1);rw[qaa (by omega),hx,qB,qku,qai d (by omega),List.flatMap_cons,zbt]
     obtain⟨R,g1,g2⟩:=ih k (d+1) i (by omega) (by omega) (q16 hs hkm) (by omega)
     rw[g1,qB];rw[show ((d+1:Nat):Int)=(d:Int)+1 by omega]at g2
     cases hr:run2 (qiz n k ((d:Int)+1)) i with
     | some f=>
      rw[hr]at g2;obtain⟨a,rfl⟩:=g2;exact⟨_,rfl,a,rfl⟩
     | none=>
      rw[hr]at g2;simp only at g2;subst g2;simp only[sumK];rw[qai _ (by omega)]
      have:=ihm (vbt++[k]) vbs (i+(qiz n k ((d:Int)+1)).length) (by rw[hk];simp) (by omega) (by omega)
      rw[qM,wD]at this;rw[qM,← Nat.add_assoc];exact this
  have hks:=qsm t;have hsum:(t.kids.map tsz).sum+2<=tsz t:=by cases t;rw[qsz];show (List.map tsz _).sum+2<=_;simp only[Tree.kids];omega
  obtain⟨R,g1,g2⟩:=loop fu [] t.kids (i+1) rfl (by omega) (by omega)
  refine⟨R,g1,?_⟩;rw[qL,show i+((t.kids.flatMap fun k=>qiz n k ((d:Int)+1)).length+1)=i+1+(t.kids.flatMap fun k=>qiz n k ((d:Int)+1)).length by omega]
  exact g2
def qlc (n:Nat) (t:TP):Int×Int:=if 40<(qiz n t 0).length then (2,-1) else if (qiz n t 0).any (fun x=>decide (8<x.2))=true then (2,-2) else (run2 (qiz n t 0) 0).getD (0,0)
theorem q9e (fu:Nat) (hfu:90000000<=fu) (t:TP) (hs:gd t):qeh fu t=some (qlc fu t):=by
 have hz:=hs.1;unfold qeh qs6;simp only[qku,qB];obtain⟨R,g1,g2⟩:=zmh fu hfu (0,0) fu t 0 0 false (by omega) (by omega) (by omega)
 rw[show ((0:Nat):Int)=0 from rfl,zcs _ _ _ (by omega),wO]at g2
 rw[show ((0:Nat):Int)=0 from rfl]at g1
 have e1:qpu fu t (0,0) false=R.elim (fun a2=>some (.inl (t,a2.2))) (fun b3=>some (.inr (t,b3.2))):=by
  unfold qpu qvf;simp only[qku];rw[g1,qB];cases R<;>rfl
 rw[e1];unfold qlc;by_cases h4:40<(qiz fu t 0).length
 ·rw[qX h4]at g2;obtain⟨a,b,rfl⟩:=g2;rw[qX h4];rfl
 rw[qW h4]at g2;simp only at g2;subst g2;rw[qW h4];simp only[Sum.elim_inr,qB,sumK,Bool.false_or];cases hany:(qiz fu t 0).any fun x=>decide (8<x.2)
 ·rw[qax rfl,qW (by simp)]
  obtain⟨R2,q1,q2⟩:=zne fu hfu (0,0) fu t 0 0 (by omega) (by omega) hs (by omega)
  rw[show ((0:Nat):Int)=0 from rfl]at q1 q2
  have e2:qky fu t (0,0)=R2.elim (fun a2=>some (.inl (t,a2.2))) (fun b3=>some (.inr (t,b3.2))):=by
   unfold qky qsa;simp only[qku];rw[q1,qB];cases R2<;>rfl
  rw[e2]
  cases hr:run2 (qiz fu t 0) 0 with
  | some f=>
   rw[hr]at q2;obtain⟨a,rfl⟩:=q2;rfl
  | none=>rw[hr]at q2;simp only at q2;subst q2;rfl
 ·rw[qau rfl,qX rfl];rfl
theorem zq1 (fu:Nat) (hfu:90000000<=fu):∀ (n:Nat) (t:TP) (d:Nat),tsz t<=n->tsz t+d<=70000000->tsz t<=60000000 ->
  qot fu n t (d:Int)=some ((qiz n t (d:Int)).map (·.1),(qiz n t (d:Int)).map (·.2)):=by
 have hrm:=qe7;intro n
 induction n with
 | zero=>intro t d h;have:=q0n t;omega
 | succ n ih=>
  intro t d hz hd hs;rw[qot,qui,qiz];simp only[qku];have hks:=qsm t;have hsum:(t.kids.map tsz).sum+2<=tsz t:=by cases t;rw[qsz];show (List.map tsz _).sum+2<=_;simp only[Tree.kids];omega
  have loop:∀ (m:Nat) (vbt vbs:List TP) (o:List (TP×Int)),t.kids=vbt++vbs->vbs.length<m->o.length+(vbs.map tsz).sum<=70000000 ->
    qp1 (qot fu n) fu m (d:Int) (vbt.length:Int) t (o.map (·.1)) (o.map (·.2))=some ((o++vbs.flatMap fun k=>qiz n k ((d:Int)+1)).map (·.1),(o++vbs.flatMap fun k=>qiz n k ((d:Int)+1)).map (·.2)):=by
   intro m
   induction m with
   | zero=>intro vbt vbs o _ h;exact absurd h (by omega)
   | succ m ihm=>
    intro vbt vbs o hk h ho;have vbu:t.kids.length=vbt.length+vbs.length:=by rw[hk];simp
    rw[qp1,qvx]
    cases vbs with
    | nil=>rw[qac (by simp only[qZ]at vbu;omega)];simp
    | cons k vbs=>
     simp only[qL]at h vbu;simp only[List.map_cons,List.sum_cons]at ho;have hkm:k∈t.kids:=by rw[hk];simp
     have hx:idx t.kids (vbt.length:Int)=some k:=by rw[hk];exact qan vbt k vbs
     have hkz:=qth hkm;have hfl:=q9s n k ((d:Int)+1);rw[qaa (by omega),hx,qB,qku,qai d (by omega),ih k (d+1) (by omega) (by omega) (by omega),qB,show ((d+1:Nat):Int)=(d:Int)+1 by omega]
     simp only[qku];rw[qaa (by simp;omega),qaa (by simp;omega),qai _ (by omega),← List.map_append,← List.map_append]
     have:=ihm (vbt++[k]) vbs (o++qiz n k ((d:Int)+1)) (by rw[hk];simp) (by omega) (by rw[qM];omega)
     rw[qM,wD]at this;rw[List.flatMap_cons,← qS];exact this
  have:=loop fu [] t.kids [(t,(d:Int))] rfl (by omega) (by simp;omega)
  exact this
theorem z2p (fu n:Nat) (hfu:90000000<=fu) (L:List (TP×Int)) (hL:L.length<=40) (hs:∀ x∈L,SmT x.1.val) (z:Int×Int):∀ (vbt vbs:List (TP×Int)),L=vbt++vbs->vbs.length<n ->
  qha fu n (L.map (·.1)) (L.map (·.2)) (vbt.length:Int) z=some ((run2 vbs vbt.length).getD (0,0)):=by
 induction n with
 | zero=>intro vbt vbs _ h;exact absurd h (by omega)
 | succ n ih=>
  intro vbt vbs hp h;have vbu:L.length=vbt.length+vbs.length:=by rw[hp];simp
  rw[qha,qn2]
  cases vbs with
  | nil=>rw[qac (by rw[wC];simp only[qZ]at vbu;omega)];rfl
  | cons x vbs=>
   simp only[qL]at h vbu
   have i1:idx (L.map (·.1)) (vbt.length:Int)=some x.1:=by
    have:=qan (vbt.map (·.1)) x.1 (vbs.map (·.1));rw[wC]at this;rw[hp,List.map_append,List.map_cons];exact this
   have i2:idx (L.map (·.2)) (vbt.length:Int)=some x.2:=by
    have:=qan (vbt.map (·.2)) x.2 (vbs.map (·.2));rw[wC]at this;rw[hp,List.map_append,List.map_cons];exact this
   have hx:=hs x (by rw[hp];simp)
   rw[qaa (by rw[wC];omega),i1,qB,i2,qB,qku,za8 fu hfu x.1 x.2 hx,qB,qlh,run2]
   by_cases hc:q0a x.1 x.2≠0
   ·rw[qX hc,qX hc,qy4];rfl
   ·rw[qW hc,qW hc,qai _ (by omega)]
    have:=ih (vbt++[x]) vbs (by rw[hp];simp) (by omega)
    rw[qM,wD]at this;exact this
theorem zu7 (fu n:Nat) (hfu:90000000<=fu) (L:List (TP×Int)) (hL:L.length<=40) (hs:∀ x∈L,SmT x.1.val) (z:Int×Int):∀ (vbt vbs:List (TP×Int)),L=vbt++vbs->vbs.length<n ->
  qg9 fu n (L.map (·.1)) (L.map (·.2)) (vbt.length:Int) z=some (if vbs.any (fun x=>decide (8<x.2))=true then (2,-2) else (run2 L 0).getD (0,0)):=by
 induction n with
 | zero=>intro vbt vbs _ h;exact absurd h (by omega)
 | succ n ih=>
  intro vbt vbs hp h;have vbu:L.length=vbt.length+vbs.length:=by rw[hp];simp
  rw[qg9,qoh]
  cases vbs with
  | nil=>
   rw[qac (by rw[wC];simp only[qZ]at vbu;omega)]
   exact z2p fu fu hfu L hL hs z [] L rfl (by omega)
  | cons x vbs=>
   simp only[qL]at h vbu
   have i2:idx (L.map (·.2)) (vbt.length:Int)=some x.2:=by
    have:=qan (vbt.map (·.2)) x.2 (vbs.map (·.2));rw[wC]at this;rw[hp,List.map_append,List.map_cons];exact this
   rw[qaa (by rw[wC];omega),i2,qB,qhq,List.any_cons]
   by_cases hc:8<x.2
   ·rw[qX hc,qy4,decide_eq_true hc,Bool.true_or,qX rfl];rfl
   ·rw[qW hc,decide_eq_false hc,Bool.false_or,qai _ (by omega)]
    have:=ih (vbt++[x]) vbs (by rw[hp];simp) (by omega)
    rw[qM,wD]at this;exact this
theorem q8y (fu:Nat) (hfu:90000000<=fu) (t:TP) (hs:gd t):qo7 fu t=some (qlc fu t):=by
 unfold qo7 q79 qlc;simp only[qku];have hz:=hs.1;have:=zq1 fu hfu fu t 0 (by omega) (by omega) hs.1
 rw[show ((0:Nat):Int)=0 from rfl]at this
 rw[this,qB];simp only;rw[qhq,wC];by_cases h4:40<(qiz fu t 0).length
 ·rw[qX (by omega),qX h4,qy4];rfl
 ·rw[qW (by omega),qW h4]
  exact zu7 fu fu hfu _ (by omega) (fun x hx=>hs.2 fu 0 x hx) (0,0) [] _ rfl (by omega)
end Go.Sym
namespace Go.Sym
theorem z2a:qoi 100000000=some true:=by kernel_rfl
end Go.Sym
namespace Go.Sym
theorem zpk (fu:Nat) (hfu:90000000<=fu):∀ (n:Nat) (t:TP),tsz t<=n->gd t->qjg fu n t=some t:=by
 have hrm:=qe7;intro n
 induction n with
 | zero=>intro t h;have:=q0n t;omega
 | succ n ih=>
  intro t hz hs;obtain⟨_,h1,_,h3⟩:=zf0 hs;have hgz:=hs.1;rw[qjg,qpi];have c1:qag t.val.1=some t.val.1:=by unfold qag;rw[qaa (by omega)]
  have c2:qag t.val.2=some t.val.2:=by unfold qag;rw[qaa (by omega)]
  rw[c1,qB,c2,qB];have hks:=qsm t;have loop:∀ (m:Nat) (vbt vbs:List TP),t.kids=vbt++vbs->vbs.length<m->qay (qjg fu n) fu m t.kids (t.kids.length:Int) (vbt.length:Int) vbt=some t.kids:=by
   intro m
   induction m with
   | zero=>intro vbt vbs _ h;exact absurd h (by omega)
   | succ m ihm=>
    intro vbt vbs hk h;have vbu:t.kids.length=vbt.length+vbs.length:=by rw[hk];simp
    rw[qay,qci]
    cases vbs with
    | nil=>rw[qac (by simp only[qZ]at vbu;omega),hk];simp
    | cons k vbs=>
     simp only[qL]at h vbu;have hkm:k∈t.kids:=by rw[hk];simp
     have hx:idx t.kids (vbt.length:Int)=some k:=by rw[hk];exact qan vbt k vbs
     have hkz:=qth hkm;rw[qaa (by omega),hx,qB,qku,ih k (by omega) (q16 hs hkm),qB,qku,qaa (by simp;omega),qai _ (by omega)]
     have:=ihm (vbt++[k]) vbs (by rw[hk];simp) (by omega)
     rw[qM,wD]at this;exact this
  unfold qdd;rw[show (0:Int)=(([]:List TP).length:Int) from rfl,loop fu [] t.kids rfl (by omega),qB]
  rw[show ((t.val.1,t.val.2):List (Bs×Bs)×Bs)=t.val from rfl,qku]
theorem zkm (fu:Nat) (hfu:90000000<=fu) (t:TP) (hs:gd t):qwj fu t=some t:=zpk fu hfu fu t (by have:=hs.1;omega) hs
theorem zds (fu:Nat) (l:List Fld) (h:l.length<fu) (hb:l.length<100000000):qm0 fu l l=some true:=by
 unfold qm0;have:=zpx fu fu [] l h (by simpa using hb)
 rw[qax (by simp)]
 exact this
theorem zai (fu:Nat) (hfu:90000000<=fu):∀ (n:Nat) (t:TP),tsz t<=n->gd t->qh7 fu n t t=some true:=by
 intro n
 induction n with
 | zero=>intro t h;have:=q0n t;omega
 | succ n ih=>
  intro t hz hs;obtain⟨_,h1,_,h3⟩:=zf0 hs;have hgz:=hs.1;rw[qh7,qnd,zds fu _ (by omega) (by omega),qB,qb0,show qxb t.val.2 t.val.2=some true by unfold qxb;simp,qB,qb0,qix,qax (by simp),qqe]
  simp only[qku];have hks:=qsm t;have loop:∀ (m:Nat) (vbt vbs:List TP),t.kids=vbt++vbs->vbs.length<m->qi5 (qh7 fu n) fu m (vbt.length:Int) t t=some true:=by
   intro m
   induction m with
   | zero=>intro vbt vbs _ h;exact absurd h (by omega)
   | succ m ihm=>
    intro vbt vbs hk h;have vbu:t.kids.length=vbt.length+vbs.length:=by rw[hk];simp
    rw[qi5,qqi]
    cases vbs with
    | nil=>rw[qac (by simp only[qZ]at vbu;omega)]
    | cons k vbs=>
     simp only[qL]at h vbu;have hkm:k∈t.kids:=by rw[hk];simp
     have hx:idx t.kids (vbt.length:Int)=some k:=by rw[hk];exact qan vbt k vbs
     have hkz:=qth hkm;rw[qaa (by omega),hx,qB,qB,qku,ih k (by omega) (q16 hs hkm),qB,qb0,qai _ (by omega)]
     simp only[qku];have:=ihm (vbt++[k]) vbs (by rw[hk];simp) (by omega)
     rw[qM,wD]at this;exact this
  exact loop fu [] t.kids rfl (by omega)
theorem qx8 (fu:Nat) (hfu:90000000<=fu) (t:TP) (hs:gd t):qrk fu t t=some true:=zai fu hfu fu t (by have:=hs.1;omega) hs
abbrev emT:TP:=Tree.node ([],[]) []
def walk:TP->List Int->Nat->TP×(Int×Int)
 | t,[],_=>(t,(0,0))
 | t,k::ks,i=>if 0<=k/\k<(t.kids.length:Int) then walk ((t.kids[k.toNat]?).getD emT) ks (i+1) else (emT,(3,(i:Int)))
theorem zb2 (t:TP) (k:Int) (h:0<=k/\k<(t.kids.length:Int)):idx t.kids k=some ((t.kids[k.toNat]?).getD emT)/\((t.kids[k.toNat]?).getD emT)∈t.kids:=by
 have hk:k.toNat<t.kids.length:=by omega
 unfold idx;rw[qX h.1];rw[List.getElem?_eq_getElem hk];exact⟨rfl,List.getElem_mem hk⟩
section sec
variable (fu:Nat) (hfu:90000000<=fu) (path:List Int) (hp:path.length<=2000000) (z:Int×Int)
include hfu hp
theorem ztu (n:Nat):∀ (vbt vbs:List Int) (t:TP),path=vbt++vbs->vbs.length<n->gd t ->
  qcp fu n path (path.length:Int) (vbt.length:Int) t z=some (walk t vbs vbt.length):=by
 induction n with
 | zero=>intro vbt vbs t _ h;exact absurd h (by omega)
 | succ n ih=>
  intro vbt vbs t hq h hs;have vbu:path.length=vbt.length+vbs.length:=by rw[hq];simp
  rw[qcp,qj9];simp only[qku]
  cases vbs with
  | nil=>rw[qac (by simp only[qZ]at vbu;omega),zkm fu hfu t hs,qB,q6q,qB,walk]
  | cons k vbs=>
   simp only[qL]at h vbu;have hx:idx path (vbt.length:Int)=some k:=by rw[hq];exact qan vbt k vbs
   rw[qaa (by omega),hx,qB,qhq,walk]
   have hbad:¬ (0<=k/\k<(t.kids.length:Int))->qco fu (qcp fu n) (vbt.length:Int) k path (path.length:Int) (vbt.length:Int) true t z=some (emT,(3,(vbt.length:Int))):=fun _=>by
    rw[qco,qau rfl,qhk];rfl
   by_cases h0:k<0
   ·rw[qX h0,qW (by omega),hbad (by omega)]
   ·rw[qW h0];by_cases h1:k<(t.kids.length:Int)
    ·obtain⟨g1,g2⟩:=zb2 t k ⟨by omega,h1⟩
     have hkz:=qth g2;rw[decide_eq_false (by omega),qX ⟨by omega,h1⟩,qco,qax rfl,g1,qB,qku,qai _ (by omega)]
     have:=ih (vbt++[k]) vbs _ (by rw[hq];simp) (by omega) (q16 hs g2)
     rw[qM,wD]at this;exact this
    ·rw[decide_eq_true (by omega),qW (by omega),hbad (by omega)]
theorem zq8 (n:Nat):∀ (vbt vbs:List Int) (t:TP),path=vbt++vbs->vbs.length<n->gd t ->
  qee fu n (path.length:Int) (vbt.length:Int) t z path=some (walk t vbs vbt.length):=by
 induction n with
 | zero=>intro vbt vbs t _ h;exact absurd h (by omega)
 | succ n ih=>
  intro vbt vbs t hq h hs;have vbu:path.length=vbt.length+vbs.length:=by rw[hq];simp
  rw[qee,qnl];simp only[qku]
  cases vbs with
  | nil=>rw[qac (by simp only[qZ]at vbu;omega),zkm fu hfu t hs,qB,q6q,qB,walk]
  | cons k vbs=>
   simp only[qL]at h vbu;have hx:idx path (vbt.length:Int)=some k:=by rw[hq];exact qan vbt k vbs
   rw[qaa (by omega),qq4,hx,qB,qhq,walk]
   have hbad:¬ (0<=k/\k<(t.kids.length:Int))->qef fu (qee fu n) (vbt.length:Int) k (path.length:Int) (vbt.length:Int) true t z path=some (emT,(3,(vbt.length:Int))):=fun _=>by
    rw[qef,qau rfl,qhk];rfl
   by_cases h0:k<0
   ·rw[qX h0,qW (by omega),hbad (by omega)]
   ·rw[qW h0];by_cases h1:k<(t.kids.length:Int)
    ·obtain⟨g1,g2⟩:=zb2 t k ⟨by omega,h1⟩
     have hkz:=qth g2;rw[decide_eq_false (by omega),qX ⟨by omega,h1⟩,qef,qax rfl,g1,qB,qku,qai _ (by omega)]
     have:=ih (vbt++[k]) vbs _ (by rw[hq];simp) (by omega) (q16 hs g2)
     rw[qM,wD]at this;exact this
    ·rw[decide_eq_true (by omega),qW (by omega),hbad (by omega)]
theorem zsw (n:Nat):∀ (vbt vbs:List Int) (t:TP),path=vbt++vbs->vbs.length<n->gd t ->
  qe0 fu n path (vbt.length:Int) t z (0,0)=some (walk t vbs vbt.length):=by
 have _:=hfu
 induction n with
 | zero=>intro vbt vbs t _ h;exact absurd h (by omega)
 | succ n ih=>
  intro vbt vbs t hq h hs;have vbu:path.length=vbt.length+vbs.length:=by rw[hq];simp
  have hks:=qsm t;have hgz:=hs.1;rw[qe0,qk4];simp only[qku]
  cases vbs with
  | nil=>rw[qac (by simp only[qZ]at vbu;omega),qez,qax rfl,qax (by rfl),walk,qku]
  | cons k vbs=>
   simp only[qL]at h vbu;have hx:idx path (vbt.length:Int)=some k:=by rw[hq];exact qan vbt k vbs
   rw[qaa (by omega),qez,qau (by rfl),qob,hx,qB,qjz,qB,walk,qgo (by simp only[qku];omega) (by simp only[qku];omega)]
   simp only[qku];by_cases h1:0<=k/\k<(t.kids.length:Int)
   ·obtain⟨g1,g2⟩:=zb2 t k h1;have hkz:=qth g2;rw[decide_eq_true (by omega),qX h1,qb0,qB,g1,qB,qai _ (by omega)]
    have:=ih (vbt++[k]) vbs _ (by rw[hq];simp) (by omega) (q16 hs g2)
    rw[qM,wD]at this;exact this
   ·rw[decide_eq_false (by omega),qW h1,qek,qy4];rfl
end sec
theorem zbm:∀ (L:List (TP×Int)) (i:Nat) (f:Int×Int),run2 L i=some f->f.1≠0/\∃ x∈L,f.1=q0a x.1 x.2
 | [],_,_,h=>by cases h
 | x::L,i,f,h=>by
  rw[run2]at h;by_cases hc:q0a x.1 x.2≠0
  ·rw[qX hc]at h;cases h;exact⟨hc,x,qH,rfl⟩
  ·rw[qW hc]at h;obtain⟨h1,y,h2,h3⟩:=zbm L _ _ h;exact⟨h1,y,qE _ h2,h3⟩
theorem za9 {fu:Nat} {t:TP} (h:(qlc fu t).1=0):qlc fu t=(0,0):=by
 unfold qlc at h ⊢;split at h
 ·cases h
 ·split at h
  ·cases h
  ·rename_i h1 h2;rw[qW h1,qW h2]
   cases hr:run2 (qiz fu t 0) 0 with
   | none=>rfl
   | some f=>rw[hr]at h;exact absurd h (zbm _ _ _ hr).1
theorem zo8:∀ (l:List Fld) (i:Nat),(ff i l).1≠3
 | [],_=>by simp[ff]
 | x::l,i=>by
  rw[ff];split
  ·show (q8d x.1 x.2).1.1≠3;unfold q8d;split
   ·unfold q43;split<;>simp
   ·unfold q33;split
    ·split
     ·decide
     ·split<;>decide
    ·decide
  ·exact zo8 l (i+1)
theorem zi4 (t:TP) (d:Int):q0a t d≠3:=by
 unfold q0a;split
 ·unfold qux;split
  ·decide
  ·exact zo8 _ _
 ·split
  ·unfold q74;split
   ·decide
   ·split<;>decide
  ·split
   ·decide
   ·split
    ·rcases zoq t.val.2.length t.val.2 0 (wF _) with h|h|h<;>rw[h]<;>decide
    ·split
     ·decide
     ·split<;>decide
theorem zeb (fu:Nat) (t:TP):(qlc fu t).1≠3:=by
 unfold qlc;split
 ·decide
 ·split
  ·decide
  ·cases hr:run2 (qiz fu t 0) 0 with
   | none=>decide
   | some f=>
    obtain⟨_,x,_,h⟩:=zbm _ _ _ hr;show f.1≠3;rw[h];exact zi4 _ _
theorem zbb (fu:Nat) (hfu:90000000<=fu) (t:TP) (path:List Int) (hs:gd t) (hp:path.length<=2000000):qj0 fu t path=some (if (qlc fu t).1≠0 then (emT,qlc fu t) else walk t path 0):=by
 unfold qj0;simp only[qku];rw[q9e fu hfu t hs,qB,qmu,qB,qlh];by_cases h:(qlc fu t).1≠0
 ·rw[qX h,qX h]
 ·rw[qW h,qW h];exact ztu fu hfu path hp (0,0) fu [] path t rfl (by omega) hs
theorem zaq (fu:Nat) (hfu:90000000<=fu) (t:TP) (path:List Int) (hs:gd t) (hp:path.length<=2000000):qkp fu t path=some (if (qlc fu t).1≠0 then (emT,qlc fu t) else walk t path 0):=by
 unfold qkp;simp only[qku];rw[q9e fu hfu t hs,qB,qmu,qB,qlh];by_cases h:(qlc fu t).1≠0
 ·rw[qX h,qX h]
 ·rw[qW h,qW h];exact zq8 fu hfu path hp (0,0) fu [] path t rfl (by omega) hs
theorem zap (fu:Nat) (hfu:90000000<=fu) (t:TP) (path:List Int) (hs:gd t) (hp:path.length<=2000000):qpa fu t path=some (if (qlc fu t).1≠0 then (emT,qlc fu t) else walk t path 0):=by
 unfold qpa;simp only[qku];rw[q8y fu hfu t hs,qB];by_cases h:(qlc fu t).1≠0
 ·rw[qX h];obtain⟨n,rfl⟩:∃ n,fu=n+1:=⟨fu-1,by omega⟩
  rw[qe0,qk4];have hne:((qlc (n+1) t).1==(0:Int))=false:=by simpa using h
  have hne2:((qlc (n+1) t).1 != (0:Int))=true:=by simpa using h
  rw[hne,qez,qax rfl,hne2,qau rfl];cases decide ((0:Int)<(path.length:Int))<;>rfl
 ·rw[qW h,za9 (by omega)]
  exact zsw fu hfu path hp (0,0) fu [] path t rfl (by omega) hs
theorem zc6:∀ (a:List Int) (t:TP) (b:List Int) (i:Nat),(walk t a i).2.1=0->walk t (a++b) i=walk (walk t a i).1 b (i+a.length)
 | [],_,_,_,_=>rfl
 | k::a,t,b,i,h=>by
  rw[walk]at h;rw[wK,walk,walk];by_cases hk:0<=k/\k<(t.kids.length:Int)
  ·rw[qX hk]at h;rw[qX hk,qX hk,zc6 a _ b (i+1) h,qL,Nat.add_assoc,Nat.add_comm 1]
  ·rw[qW hk]at h;cases h
theorem q0d:∀ (b:List Int) (t:TP) (i j:Nat),(walk t b (i+j)).1=(walk t b i).1/\(walk t b (i+j)).2.1=(walk t b i).2.1/\((walk t b i).2.1=3->(walk t b (i+j)).2.2=(walk t b i).2.2+j)/\((walk t b i).2.1=0\/(walk t b i).2.1=3)/\0<=(walk t b i).2.2/\(walk t b i).2.2<=i+b.length
 | [],_,_,_=>⟨rfl,rfl,fun h=>(by cases h),.inl rfl,Int.le_refl 0,by show (0:Int)<=_;omega⟩
 | k::b,t,i,j=>by
  rw[walk,walk];by_cases hk:0<=k/\k<(t.kids.length:Int)
  ·rw[qX hk,qX hk,show i+j+1=(i+1)+j by omega]
   have:=q0d b ((t.kids[k.toNat]?).getD emT) (i+1) j;refine⟨this.1,this.2.1,this.2.2.1,this.2.2.2.1,this.2.2.2.2.1,?_⟩;have h2:=this.2.2.2.2.2;simp only[qL];omega
  ·rw[qW hk,qW hk];exact⟨rfl,rfl,fun _=>by show ((i+j:Nat):Int)=(i:Int)+j;omega,.inr rfl,by show (0:Int)<=(i:Int);omega,by show (i:Int)<=_;simp only[qL];omega⟩
theorem ztm:gd emT:=z1o (by show 4<=_;omega)
theorem q5q:∀ (ks:List Int) (t:TP) (i:Nat),gd t->gd (walk t ks i).1
 | [],_,_,h=>h
 | k::ks,t,i,h=>by
  rw[walk];split
  ·rename_i hk;exact q5q ks _ _ (q16 h (zb2 t k hk).2)
  ·exact ztm
theorem zdz (t:TP) (a b:List Int) (hs:gd t) (ha:a.length<=1048576) (hb:b.length<=1048576) (hab:a.length+b.length<=1048576):qb9 100000000 t a b=some true:=by
 have hrm:=qe7;unfold qb9;simp only[qku];rw[z2a,qB,qb0,zbb _ (by omega) t a hs (by omega),qB,qlh]
 by_cases h0:(qlc 100000000 t).1≠0
 ·rw[qX h0,qX h0,qx8 _ (by omega) emT ztm];rfl
 rw[qW h0];have sh:=q0d a t 0 0;by_cases h1:(walk t a 0).2.1=0
 ·rw[qW (by simpa using h1),qaa (by omega),qaa (by simp;omega),zaq _ (by omega) t (a++b) hs (by simp;omega),qB,qW h0,zap _ (by omega) _ b (q5q a t 0 hs) (by omega),qB,zc6 a t b 0 h1,wO]
  obtain⟨w1,w2,w3,w4,w5,w6⟩:=q0d b (walk t a 0).1 0 a.length;rw[wO]at w1 w2 w3;by_cases h2:(qlc 100000000 (walk t a 0).1).1≠0
  ·rw[qX h2,qnu,qW (zeb _ _),qlh,qX h2]
  ·rw[qW h2,qnu];rcases w4 with w4|w4
   ·rw[qW (by rw[w4];decide),qlh,qW (by simpa using w4),qnu,qX (by rw[w2,w4]),w1,qx8 _ (by omega) _ (q5q b _ 0 (q5q a t 0 hs))];rfl
   ·rw[qX w4,qnu,qX (by rw[w2,w4]),w3 w4,qgo (by omega) (by omega)]
    simp
 ·rw[qX h1];have e:(walk t a 0).1=emT:=by
   have:∀ (a:List Int) (t:TP) (i:Nat),(walk t a i).2.1≠0->(walk t a i).1=emT:=by
    intro a
    induction a with
    | nil=>intro t i h;exact absurd rfl h
    | cons k a ih=>
     intro t i h;rw[walk]at h ⊢;split
     ·rename_i hk;rw[qX hk]at h;exact ih _ _ h
     ·rfl
   exact this a t 0 h1
  rw[e,qx8 _ (by omega) emT ztm];rfl
theorem za0:∀ b:List Int,(List.map ((Ty.int .i64).bk:(Ty.int .i64).den->Nat) b).sum=b.length
 | []=>rfl
 | _::b=>by
  have h:=za0 b;show 1+(List.map ((Ty.int .i64).bk:(Ty.int .i64).den->Nat) b).sum=b.length+1;omega
theorem q6u (x:TP×List Int×List Int×Unit) (h:bks [.tree τP,.list (.int .i64),.list (.int .i64)] x<=1048576):qb9 100000000 x.1 x.2.1 x.2.2.1=some true:=by
 obtain⟨t,a,b,_⟩:=x;have h:tsz t+(((List.map ((Ty.int .i64).bk:(Ty.int .i64).den->Nat) a).sum+1)+(((List.map ((Ty.int .i64).bk:(Ty.int .i64).den->Nat) b).sum+1)+0))<=1048576:=h;rw[za0,za0]at h;exact zdz t a b (z1o (by omega)) (by omega) (by omega) (by omega)
end Go.Sym
namespace Go.Sym
open Go.ChangeShapes Go.WideShapes Go.ChangeAt Go.RowKit
variable [LC]
def ieq (a b:Int):Bool:=decide (a=b)
def zet:(τ:Ty)->τ.den->DataW Unit->Bool
 | .int k,x,.lit (.int k' n)=>decide (k'=k)&&ieq n x
 | .byte,x,.lit (.int k' n)=>decide (k' = .u8)&&ieq n x.toNat
 | .prod .byte .byte,x,.agg [.lit (.int _ a),.lit (.int _ b)]=>ieq a x.1.toNat&&ieq b x.2.toNat
 | _,_,_=>false
def q4y (τ:Ty):List τ.den->List (DataW Unit)->Bool
 | [],[]=>true
 | x::l,d::ds=>zet τ x d&&q4y τ l ds
 | _,_=>false
def isU8 (P:Program) (t:TypeId):Bool:=match P.underlying t with
 | some (.int .u8)=>Nat.beq (P.cellsOf t) 1
 | _=>false
def elOk (P:Program) (t:TypeId):Ty->Bool
 | .int k=>match P.underlying t with
  | some (.int k')=>decide (k'=k)
  | _=>false
 | .byte=>match P.underlying t with
  | some (.int .u8)=>true
  | _=>false
 | .prod .byte .byte=>match P.underlying t with
  | some (.struct fs)=>match fs.toList with
   | [f,g]=>Nat.beq f.offset 0&&Nat.beq g.offset 1&&isU8 P f.type&&isU8 P g.type&&Nat.beq (P.cellsOf t) 2
   | _=>false
  | _=>false
 | _=>false
section
variable {P:Program} {w:World} {base:Nat} {sp:Nat->Bool}
omit [LC] in
theorem z8v {m:Nat} {τ:Ty} {t:TypeId} {cs:List Value} {y:DataW Unit×List MemPlace} {x:τ.den} (ht:elOk P t τ=true) (h:DataW.trod (fun _=>()) P w base sp false m t cs=some y) (hx:zet τ x y.1=true):Reps (τ.enc x) (Gw w) cs/\∀ v∈cs,v.oneCell'=true:=by
 unfold elOk at ht;split at ht
 ·rename_i k;split at ht
  ·rename_i k' hu;have hk:k'=k:=of_decide_eq_true ht;subst hk;obtain⟨n,rfl,rfl,_⟩:=DataW.trod_int hu h;simp only[zet,ieq,qA,decide_eq_true_eq]at hx;obtain⟨_,rfl⟩:=hx;exact⟨⟨rfl,trivial⟩,fun v hv=>by rw[List.mem_singleton]at hv;subst hv;rfl⟩
  ·cases ht
 ·split at ht
  ·rename_i hu;obtain⟨n,rfl,rfl,_⟩:=DataW.trod_int hu h;simp only[zet,ieq,qA,decide_eq_true_eq]at hx;obtain⟨_,rfl⟩:=hx;exact⟨⟨rfl,trivial⟩,fun v hv=>by rw[List.mem_singleton]at hv;subst hv;rfl⟩
  ·cases ht
 ·split at ht
  ·rename_i fs hu;split at ht
   ·rename_i f g hfs;simp only[qA]at ht;obtain⟨⟨⟨⟨o1,o2⟩,u1⟩,u2⟩,c2⟩:=ht;have o1:=qN o1;have o2:=qN o2;have c2:=qN c2;have key:∀ t,isU8 P t=true->P.underlying t=some (.int .u8)/\P.cellsOf t=1:=fun t h=>by
     unfold isU8 at h;split at h
     ·rename_i hu;exact⟨hu,qN h⟩
     ·cases h
    obtain⟨k1,s1⟩:=key _ u1;obtain⟨k2,s2⟩:=key _ u2;obtain⟨xs,n,rfl,rfl,hl,hxl,hg⟩:=DataW.trod_struct hu h;have g0:=hg 0 f (by rw[← Array.getElem?_toList,hfs];rfl)
    have g1:=hg 1 g (by rw[← Array.getElem?_toList,hfs];rfl)
    have hsz:fs.size=2:=by rw[← Array.length_toList,hfs];rfl
    rw[hsz]at hxl;rw[c2]at hl
    match cs,hl with
    | [a,b],_=>
     match xs,hxl with
     | [p,q],_=>
      rw[o1,s1]at g0;rw[o2,s2]at g1;obtain⟨n1,e1,rfl,_⟩:=DataW.trod_int k1 g0;obtain⟨n2,e2,rfl,_⟩:=DataW.trod_int k2 g1;simp only[List.drop_zero,List.take_succ_cons,List.take_zero,List.cons.injEq,and_true]at e1;simp only[List.drop_succ_cons,List.drop_zero,List.take_succ_cons,List.take_zero,List.cons.injEq,and_true]at e2;subst e1 e2;simp only[List.map_cons,List.map_nil,zet,ieq,qA,decide_eq_true_eq]at hx;obtain⟨rfl,rfl⟩:=hx;exact⟨⟨rfl,rfl,trivial⟩,fun v hv=>by
       rcases List.mem_cons.1 hv with rfl|hv
       ·rfl
       ·rw[List.mem_singleton]at hv;subst hv;rfl⟩
   ·cases ht
  ·cases ht
 ·cases ht
omit [LC] in
theorem zdc {τ:Ty}:∀ {l:List τ.den} {ds:List (DataW Unit)},q4y τ l ds=true->l.length=ds.length/\∀ (j:Nat) (x:τ.den),l[j]? = some x->∃ d,ds[j]? = some d/\zet τ x d=true
 | [],[],_=>⟨rfl,fun j x h=>by simp at h⟩
 | [],_::_,h=>by simp[q4y]at h
 | _::_,[],h=>by simp[q4y]at h
 | y::l,d::ds,h=>by
  simp only[q4y,qA]at h;obtain⟨i1,i2⟩:=zdc h.2;refine⟨by simp[i1],fun j x hx => ?_⟩
  match j with
  | 0=>simp only[List.getElem?_cons_zero,qI]at hx;subst hx;exact⟨d,rfl,h.1⟩
  | j+1=>exact i2 j x hx
def zb6 (P:Program) (g:Nat) (τ:Ty) (l:List τ.den) (n:Nat) (d:DataW Unit):Bool:=match (P.globals[g]?).map (·.type) with
 | some t=>match P.underlying t,d with
  | some (.array _m E),.agg ds=>elOk P E τ&&(Nat.beq (P.cellsOf E) τ.sz&&(Nat.beq (P.cellsOf t) n&&q4y τ l ds))
  | _,_=>false
 | none=>false
omit [LC] in
theorem zfg {g:Nat} {τ:Ty} {l:List τ.den} {n:Nat} {d:DataW Unit} (h:zb6 P g τ l n d=true) {t:TypeId} {cs:Array Value} {fuel:Nat} {p:List MemPlace} (ht:(P.globals[g]?).map (·.type)=some t)
  (hc:∃ u fr,w.heap[g]? = some (.cells cs u fr)) (hd:DataW.trod (fun _=>()) P w base sp false fuel t cs.toList=some (d,p)) :
  cs.size=n/\∀ (j:Nat) (x:τ.den),l[j]? = some x->τ.At (Gw w).imm x g (j*τ.sz):=by
 unfold zb6 at h;rw[ht]at h;simp only at h;split at h
 ·rename_i m E ds hu;simp only[qA]at h;obtain⟨h1,h2,h3,h4⟩:=h;have h2:=qN h2;have h3:=qN h3;obtain⟨xs,m',rfl,e,hl,hxl,hg⟩:=DataW.trod_array hu hd;simp only[qP,DataW.agg.injEq]at e;obtain⟨rfl,rfl⟩:=e;obtain⟨dl,dg⟩:=zdc h4;refine⟨by rw[← Array.length_toList,hl,h3],fun j x hx => ?_⟩
  obtain⟨d,hd1,hd2⟩:=dg j x hx;rw[List.getElem?_map]at hd1;obtain⟨y,hy,rfl⟩:=Option.map_eq_some_iff.1 hd1;have hj:j<m:=by rw[← hxl];exact (List.getElem?_eq_some_iff.1 hy).1
  have:=hg j hj;rw[hy]at this;obtain⟨r1,r2⟩:=z8v h1 this hd2;refine qzv.1 (Reps.cells _ _ _ r1 r2 fun i v hv => ?_)
  rw[h2,List.getElem?_take]at hv;split at hv
  ·rw[List.getElem?_drop]at hv;obtain⟨u,fr,hh⟩:=hc;simp only[World.cell?,hh];rw[← Array.getElem?_toList];exact hv
  ·cases hv
 ·cases h
omit [LC] in
theorem zak {laid:List (String×DataW Unit)} {n:String} {d:DataW Unit}:∀ {l:List (String×DataW Unit)} {ps:List MemPlace},DataW.LaidVars P w l ps->(n,d)∈l ->
  ∃ g t cs fuel p,P.globalNamed n=some g/\(P.globals[g]?).map (·.type)=some t/\(∃ u fr,w.heap[g]? = some (.cells cs u fr))/\DataW.trod (fun _=>()) P w 0 (fun _=>true) false fuel t cs.toList=some (d,p)
 | [],_,_,h=>by cases h
 | (n',d')::r,ps,hl,h=>by
  obtain⟨g,t,cs,fuel,p,q,h1,h2,h3,h4,h5,_⟩:=hl;rcases List.mem_cons.1 h with e|h
  ·simp only[qP]at e;obtain⟨rfl,rfl⟩:=e;refine⟨g,t,cs,fuel,p,h1,h2,?_,h4⟩;unfold World.var? at h3;rw[h1,qB]at h3;split at h3
   ·rename_i c u fr hh;have:=qJ h3;subst this;exact⟨u,fr,hh⟩
   ·cases h3
  ·exact zak (laid:=laid) h5 h
end
def zin (P:Program) (laid:List (String×DataW Unit)) (e:Nat×Nat):Bool:=match LC.glob e.1 with
 | some ⟨τ,l⟩=>Nat.blt 0 l.length&&laid.any fun x=>match P.globalNamed x.1 with
  | some g=>Nat.beq g e.1&&zb6 P e.1 τ l e.2 x.2
  | none=>false
 | none=>false
def z4a (P:Program) (laid:List (String×DataW Unit)) (g:Nat):Bool:=laid.any fun x=>match P.globalNamed x.1 with
 | some g'=>Nat.beq g' g&&(match (P.globals[g]?).map (·.type) with
  | some t=>match P.underlying t,x.2 with
   | some (.interface _),.iface _ _=>true
   | _,_=>false
  | none=>false)
 | none=>false
theorem zsh {P:Program} {laid:List (String×DataW Unit)} {W:World} (h:laidMetH P laid W) (hh:(laid.all fun x=>x.2.handleName?.isNone)=true)
  (hg:∀ g τ l,LC.glob g=some ⟨τ,l⟩->∃ n,(g,n)∈LC.sizes) (hs:LC.sizes.all (zin P laid)=true) (hi:LC.ifs.all (z4a P laid)=true) (hn:∀ g∈LC.ints,∃ k,W.cell? ⟨g,0,none⟩=some (.int .i64 k)):LC.tab (Gw W).imm W:=by
 rw[MakeChecks.laidMetH_plain _ _ _ hh]at h;obtain⟨ps,hl,_⟩:=h;have key:∀ e∈LC.sizes,∃ τ l,LC.glob e.1=some ⟨τ,l⟩/\0<l.length/\∃ (cs:Array Value) (u:TypeId) (fr:Nat×Nat),W.heap[e.1]? = some (.cells cs u fr)/\cs.size=e.2/\∀ (j:Nat) (x:τ.den),l[j]? = some x->τ.At (Gw W).imm x e.1 (j*τ.sz):=fun e he=>by
  have h1:=List.all_eq_true.1 hs e he;unfold zin at h1;split at h1
  ·rename_i τ l hgl;rw[qA]at h1;obtain⟨x,hx,h2⟩:=List.any_eq_true.1 h1.2;split at h2
   ·rename_i g hgn;rw[qA]at h2;have:=qN h2.1;subst this;obtain⟨g',t,cs,fuel,p,k1,k2,⟨u,fr,k3⟩,k4⟩:=zak (laid:=laid) hl (n:=x.1) (d:=x.2) hx;rw[hgn]at k1;have:=qJ k1;subst this;obtain⟨r1,r2⟩:=zfg h2.2 k2 ⟨u,fr,k3⟩ k4;exact⟨τ,l,hgl,Nat.le_of_ble_eq_true h1.1,cs,u,fr,k3,r1,r2⟩
   ·cases h2
  ·cases h1
 refine⟨fun g τ l hgl j x hx => ?_,fun g hgi => ?_,fun g hgi => ?_,fun e he => ?_⟩
 ·obtain⟨n,hn⟩:=hg g τ l hgl;obtain⟨τ',l',h1,_,cs,u,fr,_,_,h5⟩:=key _ hn;rw[hgl]at h1;cases h1
  exact h5 j x hx
 ·obtain⟨k,hk⟩:=hn g hgi;exact⟨k,zhz hk rfl⟩
 ·have h1:=List.all_eq_true.1 hi g hgi;obtain⟨x,hx,h2⟩:=List.any_eq_true.1 h1;split at h2
  ·rename_i g' hgn;rw[qA]at h2;have:=qN h2.1;subst this;obtain⟨g2,t,cs,fuel,p,k1,k2,⟨u,fr,k3⟩,k4⟩:=zak (laid:=laid) hl (n:=x.1) (d:=x.2) hx;rw[hgn]at k1;have:=qJ k1;subst this;have h3:=h2.2;rw[k2]at h3;simp only at h3;split at h3
   ·rename_i ms nm d hu hd;rw[hd]at k4;obtain⟨_,u',v,hcs,_,_⟩:=iface_of_trod hu k4;refine⟨u',v,zhz ?_ rfl⟩;simp only[World.cell?,k3];rw[← Array.getElem?_toList,hcs];rfl
   ·cases h3
  ·cases h2
 ·obtain⟨τ,l,h1,h2,cs,u,fr,h3,h4,h5⟩:=key e he;refine⟨?_,cs,u,fr,h3,h4⟩;have h6:=h5 0 l[0] (by simp[h2])
  have:∃ o v,(Gw W).imm e.1 o=some v:=by
   have hx:=List.all_eq_true.1 hs e he;unfold zin at hx;rw[h1]at hx;simp only[qA]at hx;obtain⟨x,_,hx⟩:=List.any_eq_true.1 hx.2;split at hx
   ·rw[qA]at hx;have hx:=hx.2;unfold zb6 at hx;split at hx
    ·split at hx
     ·simp only[qA]at hx;have hx:=hx.1;unfold elOk at hx;split at hx
      ·exact⟨_,_,h6⟩
      ·exact⟨_,_,h6⟩
      ·exact⟨_,_,h6.1⟩
      ·cases hx
     ·cases hx
    ·cases hx
   ·cases hx
  exact this
section
variable {H:Type} {enc:TypeId×Value->H}
omit [LC] in
theorem qyo {C:Checked} {os:Os} {f:FuncId} {fn:Func} {s:OpenSpec} {conds:List PathCond} {apart:Bool} {laid:List (String×DataW Unit)} (modest:Bool) (w0:World) (args:Array Value) (hos:w0.os=os)
  (hsh:(w0.forCall (fun _ _=>0) ⟨#[],args,[]⟩).Shaped C.prog) (hok:Input.okWideB C.prog (w0.forCall (fun _ _=>0) ⟨#[],args,[]⟩) f ⟨#[],args,[]⟩=true)
  (hrow:s.preRow enc C.prog fn conds apart laid (w0.forCall (fun _ _=>0) ⟨#[],args,[]⟩).memory args) :
  ∃ (w:World) (tape:Tape) (i:Input),w.os=os/\(w.forCall tape i).Shaped C.prog/\i.vars=[]/\Input.okWide C.prog (w.forCall tape i) .any w.heap.size f i /\
   s.preRow enc C.prog fn conds apart laid (w.forCall tape i).memory i.args/\({ modest:=modest }:Assume).holds C.prog (lone (Frame.enter C.prog f i.args .normal) [] (w.forCall tape i)):=
 ⟨w0,fun _ _=>0,⟨#[],args,[]⟩,hos,hsh,(Input.okWide_of_okWideB (base:=0) hok).1,(Input.okWide_of_okWideB hok).2,hrow,by
  simp only[Assume.holds];exact⟨by simp,by simp,fun _=>Modest.zero,by simp,by simp⟩⟩
end
end Go.Sym
