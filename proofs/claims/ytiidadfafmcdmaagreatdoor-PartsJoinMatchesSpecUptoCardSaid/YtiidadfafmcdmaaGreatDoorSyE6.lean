/- What the claim rests on, part 6: gathered texts. -/
import Derived.Test.YtiidadfafmcdmaaGreatDoorSyE5
set_option linter.defProp false
set_option linter.unusedSimpArgs false
set_option linter.unusedVariables false
namespace Go.Sym
open Go.Lib (decDigits)
def gc(c:UInt8):Bool:=ee c && !bl c
def zwt:∀n:_root_.Fin 256,tk (UInt8.ofNat n.val)=true->gc (UInt8.ofNat n.val)=true:=by decide +kernel
def zf8(c:UInt8)(h:tk c=true):gc c=true:=jl (fun c=>tk c=true->gc c=true) zwt c h
set_option maxRecDepth 100000 in
def zw4:∀n:_root_.Fin 256,(two (UInt8.ofNat n.val)).all gc=true:=by decide +kernel
def zw6(c:UInt8):(two c).all gc=true:=jl (fun c=>(two c).all gc=true) zw4 c
def zdy:∀n:_root_.Fin 256,(48<=(UInt8.ofNat n.val).toNat/\(UInt8.ofNat n.val).toNat<=57->gc (UInt8.ofNat n.val)=true)/\(ee (UInt8.ofNat n.val)=true->([13,10,0]:Bs).contains (UInt8.ofNat n.val)=false):=by decide +kernel
def zny(c:UInt8)(h:48<=c.toNat/\c.toNat<=57):gc c=true:=(jl (fun c=>(48<=c.toNat/\c.toNat<=57->gc c=true)/\(ee c=true->([13,10,0]:Bs).contains c=false)) zdy c).1 h
def zs6(c:UInt8)(h:ee c=true):([13,10,0]:Bs).contains c=false:=(jl (fun c=>(48<=c.toNat/\c.toNat<=57->gc c=true)/\(ee c=true->([13,10,0]:Bs).contains c=false)) zdy c).2 h
def q03{c:UInt8}(h:gc c=true):ee c=true:=by unfold gc at h;simp at h;exact h.1
def q02{c:UInt8}(h:gc c=true):bl c=false:=by unfold gc at h;simp at h;exact h.2
def qq1{s:Bs}(h:dw s=true):s≠[]/\∀x∈s,gc x=true:=by
 unfold dw at h;simp only[qA,List.all_eq_true]at h;exact⟨by intro e;subst e;simp at h,fun x hx=>zf8 x (h.2 x hx)⟩
def zgo(c:UInt8):∀x∈ib c,gc x=true:=by
 intro x hx;unfold ib at hx;split at hx
 ·rename_i h;rw[List.mem_singleton.1 hx];exact zf8 c h
 ·rcases List.mem_cons.1 hx with e|e
  ·rw[e];decide
  ·exact List.all_eq_true.1 (zw6 c) x e
def q1j:∀(t cur:Bs),(∀x∈cur,gc x=true)->∀p∈fm cur t,∀x∈p,gc x=true
 |[],cur,h,p,hp=>by rw[fm,List.mem_singleton]at hp;rw[hp];exact h|c::t,cur,h,p,hp=>by
  rw[fm]at hp;split at hp
  ·exact q1j t _ (fun x hx=>by
    rcases List.mem_append.1 hx with e|e
    ·exact h x e
    ·exact zgo c x e) p hp
  ·rcases List.mem_cons.1 hp with e|e
   ·rw[e];exact h
   ·exact q1j t _ (zgo c) p e
def Ck(c:Bs):Prop:=∃w e,c=59::32::(w++[e])/\w.length<=200/\bl e=false/\∀x∈w++[e],ee x=true
def q9x{t:Bs}(h0:t≠[])(hl:t.length<=200)(h:∀x∈t,gc x=true):Ck (59::32::t):=by
 refine⟨t.dropLast,t.getLast h0,by rw[List.dropLast_concat_getLast],by rw[List.length_dropLast];omega,q02 (h _ (List.getLast_mem h0)),fun x hx => ?_⟩
 rw[List.dropLast_concat_getLast]at hx;exact q03 (h x hx)
def zc6(nm:Bs)(hn:∀x∈nm,gc x=true)(hl:nm.length<=20):∀(ps:List Bs)(n:Nat),n+ps.length<=100000000->(∀p∈ps,p.length<=60/\∀x∈p,gc x=true)->∃cs:List Bs,cs.flatten=jq nm n ps/\∀c∈cs,Ck c
 |[],_,_,_=>⟨[],rfl,by simp⟩|p::ps,n,h,hp=>by
  simp only[qL]at h;obtain⟨cs,e,hc⟩:=zc6 nm hn hl ps (n+1) (by omega) (fun q hq=>hp q (qE _ hq))
  obtain⟨p1,p2⟩:=hp p qH;have h3:=qq 9 n (by omega) (by omega)
  refine⟨(59::32::(nm++[42]++decDigits n++[42,61]++p))::cs,?_,?_⟩
  ·rw[List.flatten_cons,e,jq];simp
  ·intro c hc';rcases List.mem_cons.1 hc' with e|e
   ·rw[e];refine q9x (by simp) (by simp;omega) (fun x hx => ?_)
    simp only[wA,wE,List.not_mem_nil,or_false]at hx;rcases hx with(((q|q)|q)|q|q)|q
    ·exact hn x q
    ·rw[q];decide
    ·exact zny x (qct n x q)
    ·rw[q];decide
    ·rw[q];decide
    ·exact p2 x q
   ·exact hc c e
def ztn:∀s:Bs,(∀x∈s,ee x=true)->∀x∈quo s,ee x=true:=by
 intro s h x hx;unfold quo ej at hx;obtain⟨c,hc,hx⟩:=List.mem_flatMap.1 hx;unfold nt at hx;split at hx
 ·simp at hx;rw[hx];decide
 ·split at hx
  ·simp at hx;rcases hx with e|e<;>(rw[e];decide)
  ·rw[List.mem_singleton.1 hx];exact h c hc
def zta(p:bz)(h1:dw p.1=true)(h2:p.1.length<=20)(h3:p.2.length<=500):∃cs:List Bs,cs.flatten=ij p/\∀c∈cs,Ck c:=by
 obtain⟨n0,n1⟩:=qq1 h1;unfold ij;split
 ·rename_i hv;have hl:=qj0 hv;obtain⟨v0,v1⟩:=qq1 hv;refine⟨[59::32::(p.1++[61]++p.2)],by simp,?_⟩
  intro c hc;rw[List.mem_singleton.1 hc];refine q9x (by simp) (by simp;omega) (fun x hx => ?_)
  simp only[wA,List.mem_singleton]at hx;rcases hx with(q|q)|q
  ·exact n1 x q
  ·rw[q];decide
  ·exact v1 x q
 ·split
  ·rename_i hv;refine⟨[59::32::((p.1++[61,34]++quo p.2)++[34])],by simp,?_⟩
   intro c hc;rw[List.mem_singleton.1 hc];have hq:=qqd p.2;refine⟨_,_,rfl,by simp;omega,rfl,fun x hx => ?_⟩
   simp only[wA,wE,List.not_mem_nil,or_false]at hx;rcases hx with((q|q|q)|q)|q
   ·exact q03 (n1 x q)
   ·rw[q];decide
   ·rw[q];decide
   ·exact ztn p.2 (fun y hy=>List.all_eq_true.1 hv.2 y hy) x q
   ·rw[q];decide
  ·have hl:=qjf p.2 oa;exact zc6 p.1 n1 h2 _ 0 (by omega) (fun q hq=>⟨qjg _ _ (by decide) q hq,q1j _ _ (by decide) q hq⟩)
def zdm:∀l:List bz,(∀p∈l,dw p.1=true/\p.1.length<=20/\p.2.length<=500/\Go.Lib.validD p.2=true)->∃cs:List Bs,cs.flatten=l.flatMap ij/\∀c∈cs,Ck c
 |[],_=>⟨[],rfl,by simp⟩|p::l,h=>by
  obtain⟨q1,q2,q3,_⟩:=h p qH;obtain⟨a,ha,ha2⟩:=zta p q1 q2 q3;obtain⟨b,hb,hb2⟩:=zdm l (fun q hq=>h q (qE _ hq))
  refine⟨a++b,by rw[List.flatten_append,ha,hb,List.flatMap_cons],fun c hc => ?_⟩
  rcases List.mem_append.1 hc with e|e
  ·exact ha2 c e
  ·exact hb2 c e
def q00{m:db}(h:(d9 m).1=0):∃(u:Bs)(cs:List Bs),cg m=u++cs.flatten/\u≠[]/\u.length<=121/\(∀x∈u,gc x=true)/\∀c∈cs,Ck c:=by
 obtain⟨h1,h2,h3,h4⟩:=q0x h;obtain⟨cs,hc,hc2⟩:=zdm m.2.2 h4;obtain⟨a0,a1⟩:=qq1 h1;obtain⟨b0,b1⟩:=qq1 h2;have l1:=qj0 h1;have l2:=qj0 h2;refine⟨m.1++[47]++m.2.1,cs,by rw[hc];rfl,by simp,by simp;omega,fun x hx => ?_,hc2⟩
 simp only[wA,List.mem_singleton]at hx;rcases hx with(q|q)|q
 ·exact a1 x q
 ·rw[q];decide
 ·exact b1 x q
def zrj{m:db}(h:(d9 m).1=0):∀x∈cg m,ee x=true:=by
 obtain⟨u,cs,e,_,_,hu,hc⟩:=q00 h;rw[e];intro x hx;rcases List.mem_append.1 hx with q|q
 ·exact q03 (hu x q)
 ·obtain⟨c,hc1,hx⟩:=List.mem_flatten.1 q;obtain⟨w,y,rfl,_,_,hw⟩:=hc c hc1;rcases List.mem_cons.1 hx with e|e
  ·rw[e];decide
  ·rcases List.mem_cons.1 e with e|e
   ·rw[e];decide
   ·exact hw x e
def zri{m:db}(h:(d9 m).1=0):qy (cg m)=true:=by
 obtain⟨u,cs,e,hu0,_,hu,hc⟩:=q00 h;have hp:=zrj h;unfold qy tr;have h1:(cg m).any ([13,10,0]:Bs).contains=false:=by
  rw[List.any_eq_false];intro x hx;rw[zs6 x (hp x hx)];decide
 have h2:(cg m).head?.any bl=false:=by
  rw[e]
  cases u with|nil=>exact absurd rfl hu0|cons a u=>simpa using q02 (hu a qH)
 have h3:(cg m).getLast?.any bl=false:=by
  rw[e];rcases List.eq_nil_or_concat cs with q|⟨ds,c,q⟩
  ·subst q;rw[List.flatten_nil,List.append_nil,List.getLast?_eq_some_getLast hu0];simpa using q02 (hu _ (List.getLast_mem hu0))
  ·subst q;obtain⟨w,y,rfl,_,hy,_⟩:=hc c (by simp)
   rw[show u++(ds.concat (59::32::(w++[y]))).flatten=(u++ds.flatten++59::32::w)++[y] by simp,List.getLast?_concat]
   simpa using hy
 rw[h1,h2,h3];rfl
def Gap(K:Nat)(s:Bs):Prop:=∀i,1<=i->i+K<=s.length->∃j,i<=j/\j<i+K/\gv s j=true
def zbg(U:Nat)(hU:202<=U):∀(cs:List Bs)(ab u:Bs)(i:Nat),u.length<=U->(∀c∈cs,Ck c)->ab.length<=i->i+(U+2)<=(ab++u++cs.flatten).length->∃j,i<=j/\j<i+(U+2)/\gv (ab++u++cs.flatten) j=true
 |[],ab,u,i,hu,_,hi,hl=>by simp at hl;omega|c::cs,ab,u,i,hu,hc,hi,hl=>by
  obtain⟨w,e,rfl,hw,he,_⟩:=hc c qH;by_cases hp:i<=ab.length+u.length+1
  ·refine⟨ab.length+u.length+1,hp,by omega,?_⟩
   have g1:(ab++u++((59::32::(w++[e]))::cs).flatten).getD (ab.length+u.length+1) 0=32:=by
    rw[List.flatten_cons,wK,wK,List.getD_eq_getElem?_getD,List.getElem?_append_right (by simp)]
    simp[show ab.length+u.length+1-(ab.length+u.length)=1 by omega]
   have g2:(ab++u++((59::32::(w++[e]))::cs).flatten).getD (ab.length+u.length+1-1) 0=59:=by
    rw[List.flatten_cons,wK,wK,List.getD_eq_getElem?_getD,List.getElem?_append_right (by simp)]
    simp
   unfold gv;rw[g1,g2];decide
  ·have hs:ab++u++((59::32::(w++[e]))::cs).flatten=(ab++u++[59])++(32::(w++[e]))++cs.flatten:=by simp
   rw[hs]at hl ⊢;exact zbg U hU cs (ab++u++[59]) (32::(w++[e])) i (by simp;omega) (fun c hc'=>hc c (qE _ hc')) (by simp;omega) hl
def qy6(s:Bs):∀m i b,1<=i->0<b->cb s m i b<=max 78 b
 |0,_,b,_,_=>by rw[cb];omega|m+1,i,b,hi,hb=>by
  rw[cb];split
  ·rename_i h;have h78:i<=78:=by
    simp only[qA,Bool.not_eq_true',Bool.and_eq_false_iff,decide_eq_false_iff_not]at h;omega
   have:=qy6 s m (i+1) i (by omega) (by omega)
   omega
  ·exact qy6 s m (i+1) b (by omega) hb
def q9v(s:Bs)(j:Nat)(hj:gv s j=true):∀m i,1<=i->i<=j->j<i+m->cb s m i 0<=max 78 j/\cb s m i 0≠0
 |0,i,_,h1,h2=>by omega|m+1,i,hi,h1,h2=>by
  rw[cb];split
  ·have:=qy6 s m (i+1) i (by omega) (by omega)
   refine⟨by omega,?_⟩
   rcases qoh s m (i+1) i with e|⟨q,_,_⟩<;>omega
  ·rename_i h;by_cases e:i=j
   ·subst e;exact absurd (by rw[hj];simp) h
   ·exact q9v s j hj m (i+1) (by omega) (by omega) (by omega)
def zmv(s:Bs)(k K:Nat)(h1:1<=k)(hg:Gap K s):et s k<=max 78 (k+K)/\(et s k=0->s.length<k+K):=by
 by_cases hl:k+K<=s.length
 ·obtain⟨j,q1,q2,q3⟩:=hg k h1 hl;have:=q9v s j q3 (s.length-k) k h1 q1 (by omega)
  unfold et;exact⟨by omega,fun e=>absurd e this.2⟩
 ·refine⟨?_,fun _=>by omega⟩
  by_cases h0:et s k=0
  ·omega
  ·have:=qob s k h1 h0;omega
def zo5{K:Nat}{s:Bs}(h:Gap K s)(a:Nat):Gap K (s.drop a):=by
 intro i hi hl;rw[List.length_drop]at hl;by_cases ha:a<=s.length
 ·obtain⟨j,q1,q2,q3⟩:=h (i+a) (by omega) (by omega)
  exact⟨j-a,by omega,by omega,by rw[zbt s a j];exact q3⟩
 ·exact absurd hl (by
   have:K=0\/0<K:=by omega
   omega)
def za6(K:Nat):∀(m:Nat)(s:Bs)(k:Nat),s.length<=m->1<=k->Gap K s->∀x∈fh m s k,x.length<=max 78 (k+K)
 |0,s,k,hm,_,_,x,hx=>by rw[fh,List.mem_singleton]at hx;rw[hx];omega|m+1,s,k,hm,h1,hg,x,hx=>by
  obtain⟨b1,b2⟩:=zmv s k K h1 hg;rw[fh]at hx;split at hx
  ·split at hx
   ·rename_i h0;rw[List.mem_singleton.1 hx];have:=b2 h0;omega
   ·rename_i h78 h0;rcases List.mem_cons.1 hx with e|e
    ·rw[e,List.length_take];omega
    ·have:=za6 K m (s.drop (et s k)) 1 (by rw[List.length_drop];omega) (by omega) (zo5 hg _) x e
     omega
  ·rw[List.mem_singleton.1 hx];omega
def zca:∀(ls:List Bs)(i:Nat),(∀x∈ls,x.length<=998)->rl i ls=none
 |[],_,_=>rfl|l::ls,i,h=>by
  have:=h l qH;rw[rl,qW (by omega)]
  exact zca ls (i+1) (fun x hx=>h x (qE _ hx))
def zr5{n:Bs}{m:db}(hn:lm n=true)(h:(d9 m).1=0)(hl:(cg m).length<=4000):fq (n,cg m):=by
 refine⟨?_,?_⟩
 ·show mo n (cg m)=0;unfold mo;rw[qX hn,qW (by omega),qX (zri h)]
 ·have hn60:=qpc hn;obtain⟨u,cs,e,hu0,hul,hu,hc⟩:=q00 h;have hg:Gap 302 (bu n (cg m)):=by
   intro i hi hl;have es:bu n (cg m)=[]++(n++[58,32]++u)++cs.flatten:=by unfold bu;rw[e];simp
   rw[es]at hl ⊢;exact zbg 300 (by omega) cs [] (n++[58,32]++u) i (by simp;omega) hc (by simp) hl
  have:=za6 302 (bu n (cg m)).length (bu n (cg m)) (n.length+2) (wF _) (by omega) hg
  exact zca _ 0 (fun x hx=>by have:=this x hx;omega)
end Go.Sym
namespace Go.Sym
open Go.Lib (decDigits itoa)
def ztk(fu:Nat)(r0:qd9)(s1:Bs)(s12:List az)(s13 s14:Int)(n:Nat):∀(ab aa:List Bs)(out:Bs),aa.length<n->ab.length+aa.length<100000000->out.length+(dv aa).length<1000000000 ->
  qby fu r0 n s1 s12 s13 s14 ((ab.length+aa.length:Nat):Int) (ab.length:Int) (ab++aa) out=r0 s1 s12 s13 (af (s14+1)) (out++dv aa):=by
 induction n with
 |zero=>intro ab aa out h;omega|succ n ih=>
  intro ab aa out h hb ho;rw[qby,qwd]
  cases aa with
  |nil=>rw[aq];simp[dv]|cons x aa=>
   have hc:dv (x::aa)=x++[13,10]++dv aa:=by simp[dv]
   rw[hc]at ho ⊢;simp only[qL,qM,qZ]at h hb ho;rw[show(x::aa).length=aa.length+1 from rfl,ag,iy,bg,qB,ag (by simp[a7];omega),ag (by simp[a7];omega),au _]
   have:=ih (ab++[x]) aa (out++x++[13,10]) (by omega) (by simp;omega) (by simp;omega)
   simp only[qS,wM,qM,qL,qZ]at this;rw[show ab.length+(0+1)+aa.length=ab.length+(aa.length+1) by omega]at this
   simpa using this
def ztm(fu n:Nat)(hfu:90000000<=fu)(b:Bs)(hm:b.length<=100000000):∀(ab aa:List az)(out:Bs),aa.length<n->ab.length+aa.length<1000->(∀x∈aa,fq x)->out.length<=20000*ab.length ->
  yd fu n b (ab++aa) ((ab.length+aa.length:Nat):Int) (ab.length:Int) out=some (out++hbytes aa++b):=by
 induction n with
 |zero=>intro ab aa out h;omega|succ n ih=>
  intro ab aa out h hb hok ho;rw[yd,qwc]
  cases aa with
  |nil=>
   rw[aq,ag (by simp[a7];omega),ag (by simp[a7];omega)];simp[hbytes,nu]
  |cons x aa=>
   have hx:=hok x qH;obtain⟨l1,l2,l3,l4⟩:=qdj hx;have hc:hbytes (x::aa)=dv (dh x.1 x.2)++hbytes aa:=by simp[hbytes,nu]
   rw[hc];simp only[qL]at h hb ⊢;rw[ag,bg,qB,qz5 fu x.1 x.2,qB,q1c hx]
   have:=ztk fu (yd fu n) b (ab++x::aa) ((ab.length+(aa.length+1):Nat):Int) (ab.length:Int) fu [] (dh x.1 x.2) out (by omega) (by simp;omega) (by omega)
   simp only[List.nil_append,qZ,wO]at this;have this:qby fu (yd fu n) fu b (ab++x::aa) ((ab.length+(aa.length+1):Nat):Int) (ab.length:Int) ((dh x.1 x.2).length:Int) 0 (dh x.1 x.2) out=_:=this;rw[this,au _]
   have:=ih (ab++[x]) aa (out++dv (dh x.1 x.2)) (by omega) (by simp;omega) (fun y hy=>hok y (qE _ hy)) (by simp;omega)
   simp only[qS,wM,qM,qL,qZ]at this;rw[show ab.length+(0+1)+aa.length=ab.length+(aa.length+1) by omega]at this
   simpa using this
def ztl(fu:Nat)(hfu:90000000<=fu)(l:List az)(b:Bs)(hl:l.length<=60)(hok:∀x∈l,fq x)(hb:b.length<=100000000):qwb fu l b=some (hbytes l++b):=by
 have:=ztm fu fu hfu b hb [] l [] (by omega) (by simp;omega) hok (by simp)
 simp only[List.nil_append,qZ,wO]at this;exact this
def lb(pat:Bs):Bool->Bs->Bool|_,[]=>false|st,c::t=>(st&&pat.isPrefixOf (c::t))||lb pat (c==10) t
def zdv{a b:Bs}(h:a.isPrefixOf b=true):a.length<=b.length:=(List.isPrefixOf_iff_prefix.1 h).length_le
def zb7(pat:Bs):∀(s:Bs)(st:Bool),s.length<pat.length->lb pat st s=false
 |[],_,_=>rfl|c::t,st,h=>by
  simp only[qL]at h;rw[lb,zb7 pat t _ (by omega)]
  have:pat.isPrefixOf (c::t)=false:=by
   cases hh:pat.isPrefixOf (c::t)
   ·rfl
   ·have:=zdv hh;simp only[qL]at this;omega
  rw[this];simp
def q1v(pat s:Bs):(s.take pat.length==pat)=pat.isPrefixOf s:=by
 rw[Bool.eq_iff_iff,beq_iff_eq,List.isPrefixOf_iff_prefix,List.prefix_iff_eq_take];exact⟨Eq.symm,Eq.symm⟩
def zpc(s p:Bs):qm3 s p=some (p.isPrefixOf s):=by
 unfold qm3 quy;by_cases h:p.length<=s.length
 ·rw[ag,ag,qB,show((p.length:Nat):Int).toNat=p.length by omega,q1v]
 ·rw[aq,qB]
  cases hh:p.isPrefixOf s
  ·rfl
  ·exact absurd (zdv hh) h
def stB(ab:Bs):Bool:=match ab.getLast? with|none=>true|some c=>c==10
def zqy(fu n:Nat)(pat:Bs)(h0:pat≠[])(hp:pat.length<=1000):∀(ab aa:Bs),aa.length<n->ab.length+aa.length<1000000000 ->
  qf5 fu n (ab++aa) pat (ab.length:Int)=some (lb pat (stB ab) aa):=by
 have hp1:1<=pat.length:=by cases pat with|nil=>exact absurd rfl h0|cons=>simp
 induction n with
 |zero=>intro ab aa h;omega|succ n ih=>
  intro ab aa h hb;have ac:(ab++aa).length=ab.length+aa.length:=qM;rw[qf5,qt9,l8 _ _]
  by_cases hs:pat.length<=aa.length
  ·cases aa with
   |nil=>exact absurd hs (by simp only[qZ];omega)|cons c t=>
    simp only[qL]at h hb hs ac;have st:=ih (ab++[c]) t (by omega) (by simp;omega)
    rw[qM,wD,qS,wM]at st;have e2:stB (ab++[c])=(c==10):=by unfold stB;rw[List.getLast?_concat]
    rw[e2]at st;have ht:List.take (((ab.length+pat.length:Nat):Int).toNat-((ab.length:Nat):Int).toNat) (List.drop ((ab.length:Nat):Int).toNat (ab++c::t))=(c::t).take pat.length:=by
     rw[show((ab.length:Nat):Int).toNat=ab.length by omega,List.drop_left];congr 1;omega
    rw[ag,au _,st,lb]
    rcases List.eq_nil_or_concat ab with e|⟨q,d,e⟩
    ·subst e;rw[qZ,aw]
     have ht:List.take (((0+pat.length:Nat):Int).toNat-(((0:Nat)):Int).toNat) (List.drop (((0:Nat)):Int).toNat ([]++c::t))=(c::t).take pat.length:=ht;rw[ag (by rw[ac,qZ];omega),ht,q1v]
     show(bif _ then _ else _)=some ((true&&_)||_)
     cases pat.isPrefixOf (c::t)<;>rfl
    ·rw[List.concat_eq_append]at e;have hq:ab.length=q.length+1:=by rw[e];simp
     have hx:am (ab++c::t) (af ((ab.length:Int)-1))=some d:=by
      rw[eg,e,qS,show((((q++[d]).length:Nat):Int)-1)=(q.length:Int) by simp]
      exact bg q d _
     have es:stB ab=(d==10):=by rw[e];unfold stB;rw[List.getLast?_concat]
     rw[ay (by rw[beq_eq_false_iff_ne];omega),hx,qB,es]
     cases hd:(d==10)
     ·rw[ay rfl];rfl
     ·rw[aw rfl,ag,ht,q1v]
      cases pat.isPrefixOf (c::t)<;>rfl
  ·rw[aq,zb7 pat aa _ (by omega)]
def zqx(fu:Nat)(pat p:Bs)(h0:pat≠[])(hp:pat.length<=1000)(h:p.length<fu)(hb:p.length<1000000000):qt8 fu p pat=some (lb pat true p):=
 zqy fu fu pat h0 hp [] p h (by simpa using hb)
def ra(pat:Bs):Nat->Bs->Bool|0,_=>false|_+1,[]=>false|n+1,c::t=>pat.isPrefixOf (bq (c::t))||ra pat n (cr (c::t))
def zos(fu:Nat)(body b:Bs)(hb:body.length<=100000000)(hbb:b.length<=1000)(n:Nat):∀r:Bs,r <:+ body->r.length<n ->
  qbx fu n (pos body r) body b false=some (if ra (([45,45]:Bs)++b) n r=true then .inl (body,(b,true)) else .inr (body,(b,false))):=by
 induction n with
 |zero=>intro r _ h;omega|succ n ih=>
  intro r hr h;rw[qbx,qv2]
  cases r with
  |nil=>
   rw[gz,aq];rfl
  |cons c t=>
   simp only[qL]at h;have hL:(c::t).length=t.length+1:=rfl;have hrl:=hr.length_le;simp only[qL]at hrl;have hcl:=qol (c::t);have hnl:=qjc c t;have hge:=ru body (c::t);have hnx:cr (c::t) <:+ body:=(qjd _).trans hr;rw[ag (ly hr),ag hge,ag (by decide),qdm hr]
   have hI:oq (c::t) [13,10]=some (Lib.index (c::t) [13,10]):=by
    unfold oq;rw[ag (by refine⟨by simp,by simp only[qL];omega,by simp[maxLen]⟩)]
   have hro:∀s,qha s (bq (c::t)) b false=some (if(([45,45]:Bs)++b).isPrefixOf (bq (c::t))=true then .inl (b,true) else .inr (b,false)):=by
    intro s;unfold qha;rw[ag (by simp[ap];omega),zpc,qB]
    cases (([45,45]:Bs)++b).isPrefixOf (bq (c::t))<;>rfl
   have st:=ih (cr (c::t)) hnx (by omega)
   have fin:∀(q:Option qx4),q=(some (if(([45,45]:Bs)++b).isPrefixOf (bq (c::t))=true then(.inl (b,true):q71) else .inr (b,false))).bind (fun x2=>ch x2 (fun a3=>some (.inl (body,a3))) (fun b4=>qbx fu n (pos body (cr (c::t))) body b4.1 b4.2)) ->
     q=some (if ra (([45,45]:Bs)++b) (n+1) (c::t)=true then .inl (body,(b,true)) else .inr (body,(b,false))):=by
    intro q hq;rw[hq,qB,ra];cases hh:(([45,45]:Bs)++b).isPrefixOf (bq (c::t))
    ·rw[qW (by simp)]
     simp only[ch,Bool.false_or];exact st
    ·rw[qX rfl,qX (by simp)];rfl
   apply fin;rw[hI,qB];rcases tn (c::t) with⟨h1,h2⟩|⟨h1,h2,h3⟩
   ·have ac:=congrArg List.length h1;simp only[qM,qL]at ac;have e1:af (pos body (c::t)+((bq (c::t)).length:Int))=((body.length-(c::t).length+(bq (c::t)).length:Nat):Int):=by unfold pos;rw[l8 _ _]
    have e2:af (((body.length-(c::t).length+(bq (c::t)).length:Nat):Int)+2)=pos body (cr (c::t)):=by unfold pos;rw[eg];simp only[qL];omega
    have e3:((body.length-(c::t).length+(bq (c::t)).length:Nat):Int).toNat-(pos body (c::t)).toNat=(bq (c::t)).length:=by unfold pos;omega
    rw[h2,ag,e1,ag (by unfold pos;simp only[qL];omega),e3,qii,e2,hro]
   ·have e3:(body.length:Int).toNat-(pos body (c::t)).toNat=(bq (c::t)).length:=by rw[h1];unfold pos;omega
    rw[h3,aq,ag,e3,qii,h2,gz,hro]
def zo0(fu:Nat)(p b:Bs)(hp:p.length<=100000000)(hf:p.length<fu)(hb:b.length<=1000):qmu fu p b=some (ra (([45,45]:Bs)++b) fu p,b):=by
 unfold qmu qhc qv1;have:=zos fu p b hp hb fu p (List.suffix_refl _) hf;rw[qp9]at this;rw[qB,this,qB];cases ra (([45,45]:Bs)++b) fu p<;>rfl
def cy(s:Bs):Prop:=∀u w,s=u++10::w->u.getLast? = some 13
def cy.app{a b:Bs}(ha:cy a)(hb:cy b):cy (a++b):=by
 intro u w e;rcases List.append_eq_append_iff.1 e with⟨q,h1,h2⟩|⟨q,h1,h2⟩
 ·have:=hb q w h2;rw[h1,List.getLast?_append,this];rfl
 ·cases q with
  |nil=>
   rw[List.append_nil]at h1;have:=hb [] w (by simpa using h2.symm)
   cases this
  |cons c q=>
   rw[wK,List.cons.injEq]at h2;obtain⟨rfl,h2⟩:=h2;exact ha u q h1
def cy.no{s:Bs}(h:∀x∈s,x≠10):cy s:=by
 intro u w e;exact absurd rfl (h 10 (by rw[e];simp))
def cy.crlf:cy [13,10]:=by
 intro u w e
 match u,e with
 |[],e=>cases e
 |[c],e=>simp at e;rw[← e.1];rfl|c::d::u,e=>simp at e
def cy.drop{u r:Bs}(h:cy (u++13::10::r)):cy r:=by
 intro a w e;have:=h (u++13::10::a) w (by rw[e];simp)
 rcases List.eq_nil_or_concat a with q|⟨b,c,q⟩
 ·subst q;rw[show u++13::10::[]=(u++[13])++[10] by simp,List.getLast?_concat]at this;cases this
 ·subst q;rw[List.concat_eq_append]at this ⊢;rw[show u++13::10::(b++[c])=(u++13::10::b)++[c] by simp,List.getLast?_concat]at this
  rw[List.getLast?_concat];exact this
def zcz:∀r:Bs,cy r->∀x∈bq r,x≠10
 |[],_,x,hx=>by cases hx
 |c::t,h,x,hx=>by
  rw[bq]at hx;split at hx
  ·cases hx
  ·rename_i hc;have h10:c≠10:=by intro e;have:=h [] t (by rw[e];rfl);cases this
   rcases List.mem_cons.1 hx with e|e
   ·rw[e];exact h10
   ·refine zcz t ?_ x e;intro u w e2;have:=h (c::u) w (by rw[e2];rfl)
    cases u with
    |nil=>
     simp at this;refine absurd ?_ hc;rw[e2,this];rfl
    |cons d u=>simpa using this
def q0k(pat:Bs):∀(u w:Bs)(st:Bool),u≠[]->(∀x∈u,x≠10)->lb pat st (u++w)=((st&&pat.isPrefixOf (u++w))||lb pat false w)
 |[],_,_,h,_=>absurd rfl h|[c],w,st,_,h=>by
  rw[wM,lb,show(c==10)=false by simpa using h c qH]
 |c::d::u,w,st,_,h=>by
  rw[wK,lb,show(c==10)=false by simpa using h c qH,q0k pat (d::u) w false (by simp) (fun x hx=>h x (qE _ hx))]
  simp
def zdu{pat u w:Bs}(h:∀x∈pat,x≠13):pat.isPrefixOf (u++13::w)=pat.isPrefixOf u:=by
 rw[Bool.eq_iff_iff,List.isPrefixOf_iff_prefix,List.isPrefixOf_iff_prefix];constructor
 ·intro⟨z,e⟩;rcases List.append_eq_append_iff.1 e with⟨q,h1,h2⟩|⟨q,h1,h2⟩
  ·exact⟨q,h1.symm⟩
  ·cases q with
   |nil=>rw[List.append_nil]at h1;rw[h1];exact List.prefix_refl _|cons c q=>
    rw[wK,List.cons.injEq]at h2;exact absurd h2.1.symm (h c (by rw[h1];simp))
 ·intro⟨z,e⟩;exact⟨z++13::w,by rw[← e];simp⟩
def zpk(pat:Bs)(h0:pat≠[])(h:∀x∈pat,x≠13):∀(n:Nat)(r:Bs),r.length<n->cy r->ra pat n r=lb pat true r:=by
 intro n
 induction n with
 |zero=>intro r h;omega|succ n ih=>
  intro r hl hok
  cases r with
  |nil=>rfl|cons c t=>
   have hn:=qjc c t;simp only[qL]at hl;have hno:=zcz _ hok;rw[ra];rcases tn (c::t) with⟨h1,_⟩|⟨h1,h2,_⟩
   ·have hok2:cy (cr (c::t)):=by rw[h1]at hok;exact hok.drop
    rw[ih _ (by omega) hok2]
    have e:lb pat true (c::t)=lb pat true (bq (c::t)++13::10::cr (c::t)):=by rw[← h1]
    rw[e];have tail:lb pat false (13::10::cr (c::t))=lb pat true (cr (c::t)):=by
     rw[lb,lb];simp
    by_cases hc:bq (c::t)=[]
    ·rw[hc,List.nil_append,lb,lb];have:pat.isPrefixOf (13::10::cr (c::t))=pat.isPrefixOf []:=zdu (u:=[]) h;rw[this];simp
    ·rw[q0k pat _ _ true hc hno,tail,zdu h];simp
   ·rw[h2];have e:lb pat true (c::t)=lb pat true (bq (c::t)++[]):=by rw[List.append_nil,h1]
    have e3:ra pat n []=false:=by cases n<;>rfl
    rw[e,q0k pat _ _ true (by rw[h1];simp) hno,e3,List.append_nil]
    simp[lb]
def bN(N:Nat):Bs:=98::decDigits N
def dl(N:Nat):Bs:=[45,45]++bN N
def ep(ps:List Bs)(N:Nat):Bool:=ps.any fun p=>lb (dl N) true p
def zag(N:Nat):dl N≠[]:=by unfold dl;simp
def zn2(N:Nat):∀x∈dl N,x≠13:=by
 intro x hx;unfold dl bN at hx;simp only[wA,wE,List.not_mem_nil,or_false]at hx;rcases hx with(q|q)|q|q
 ·rw[q];decide
 ·rw[q];decide
 ·rw[q];decide
 ·intro e;subst e;have:=qct N 13 q;revert this;decide
def tl(N:Nat)(h:N<1000000000000:=by omega):(bN N).length<=13:=by unfold bN;have:=qq 12 N h (by omega);simp only[qL];omega
def zpj(fu N:Nat)(p:Bs)(hf:p.length<fu)(hok:cy p):ra (([45,45]:Bs)++bN N) fu p=lb (dl N) true p:=zpk (dl N) (zag N) (zn2 N) fu p hf hok
def qhy(fu:Nat)(ps:List Bs):Prop:=ps.length<=1000/\∀p∈ps,p.length<=100000000/\p.length<fu/\cy p
def zqc(fu n N:Nat)(hN:N<1000000000000)(z:List Bs):∀(ab aa:List Bs),aa.length<n->ab.length+aa.length<100000->(∀p∈aa,p.length<=100000000/\p.length<fu/\cy p) ->
  ∃k:Int,qhi fu n (ab++aa) ((ab.length+aa.length:Nat):Int) (ab.length:Int) (bN N)=some (k,bN N)/\decide (0<=k)=ep aa N:=by
 have hb:=tl N hN
 induction n with
 |zero=>intro ab aa h;omega|succ n ih=>
  intro ab aa h hl hs;rw[qhi,qwl]
  cases aa with
  |nil=>rw[aq];exact⟨-1,rfl,rfl⟩|cons p t=>
   simp only[qL]at h hl;obtain⟨p1,p2,p3⟩:=hs p qH;rw[ag (by simp only[qL];omega),bg,qB,zo0 fu p (bN N) p1 p2 (by omega),qB,zpj fu N p p2 p3]
   cases hh:lb (dl N) true p
   ·obtain⟨k,g1,g2⟩:=ih (ab++[p]) t (by omega) (by simp;omega) (fun q hq=>hs q (qE _ hq))
    rw[qM,wD,qS,wM]at g1;refine⟨k,?_,by rw[g2];unfold ep;rw[List.any_cons,hh,Bool.false_or]⟩
    rw[ay rfl,au _,show ab.length+(p::t).length=ab.length+1+t.length by simp only[qL];omega]
    exact g1
   ·refine⟨(ab.length:Int),by rw[aw rfl],?_⟩
    unfold ep;rw[List.any_cons,hh];simp
def zng(fu N:Nat)(hN:N<1000000000000)(ps:List Bs)(hs:qhy fu ps)(hfu:90000000<=fu):qhg fu ps (bN N)=some (ep ps N,bN N):=by
 have h1:=hs.1;obtain⟨k,g1,g2⟩:=zqc fu fu N hN ps [] ps (by omega) (by simp;omega) hs.2
 simp only[List.nil_append,qZ,wO]at g1;unfold qhg qwk;rw[show((0:Int))=((0:Nat):Int) from rfl]at *
 rw[g1,qB,← g2]
def zo3(fu:Nat)(hfu:90000000<=fu)(ps:List Bs)(hs:qhy fu ps)(N:Nat)(hN:N<1000000000000)(h0:ep ps N=false)(h1:∀k,k<N->ep ps k=true)(n:Nat):∀a:Nat,a<=N->N-a<n->qhb fu n ps (a:Int)=some (bN N):=by
 induction n with
 |zero=>intro a _ h;omega|succ n ih=>
  intro a ha h;rw[qhb,qvw];have hI:ov (a:Int)=some (decDigits a):=by unfold ov;rw[ag,qpt]
  have hd:=qq 12 a (by omega) (by omega)
  rw[hI,qB,ag (by simp[ap];omega)]
  show(qhg fu ps (bN a)).bind _=_;rw[zng fu a (by omega) ps hs hfu,qB]
  by_cases e:a=N
  ·subst e;rw[h0,dx]
  ·rw[h1 a (by omega),ci,au _]
   exact ih (a+1) (by omega) (by omega)
def zo1(fu:Nat)(hfu:1000000000000<=fu)(ps:List Bs)(hs:qhy fu ps)(N:Nat)(hN:N<1000000000)(h0:ep ps N=false)(h1:∀k,k<N->ep ps k=true):qvv fu ps=some (bN N):=
 zo3 fu (by omega) ps hs N (by omega) h0 h1 fu 0 (by omega) (by omega)
def q1o:∀(T:Nat)(l:List Nat),l.Nodup->(∀x∈l,x<T)->l.length<=T
 |0,l,_,h=>by
  cases l with|nil=>simp|cons a l=>exact absurd (h a qH) (by omega)
 |T+1,l,hn,h=>by
  by_cases hm:T∈l
  ·have:=q1o T (l.erase T) (hn.erase T) (fun x hx=>by
    have h1:=(hn.mem_erase_iff).1 hx;have:=h x h1.2;have:=h1.1;omega)
   rw[List.length_erase_of_mem hm]at this;omega
  ·have:=q1o T l hn (fun x hx=>by
    have:=h x hx;have:x≠T:=fun e=>hm (e▸hx)
    omega)
   omega
def zb6(pat:Bs):∀(s:Bs)(st:Bool),lb pat st s=true->∃u w,s=u++w/\w≠[]/\pat <+: w
 |[],_,h=>by cases h
 |c::t,st,h=>by
  rw[lb,Bool.or_eq_true]at h;rcases h with q|q
  ·rw[qA]at q;exact⟨[],c::t,rfl,by simp,List.isPrefixOf_iff_prefix.1 q.2⟩
  ·obtain⟨u,w,e,h1,h2⟩:=zb6 pat t _ q;exact⟨c::u,w,by rw[e];rfl,h1,h2⟩
def zmm(ps:List Bs)(N:Nat)(h:ep ps N=true):∃p,p<ps.flatten.length/\dl N <+: ps.flatten.drop p:=by
 unfold ep at h;obtain⟨q,hq,hb⟩:=List.any_eq_true.1 h;obtain⟨u,w,e,h1,h2⟩:=zb6 _ _ _ hb;obtain⟨a,b,e2⟩:=List.append_of_mem hq;have hw:1<=w.length:=by cases w with|nil=>exact absurd rfl h1|cons=>simp
 refine⟨(a.flatten++u).length,?_,?_⟩
 ·rw[e2,List.flatten_append,List.flatten_cons,e];simp only[qM];omega
 ·rw[e2,List.flatten_append,List.flatten_cons,e,show a.flatten++(u++w++b.flatten)=(a.flatten++u)++(w++b.flatten) by simp,List.drop_left]
  exact h2.trans (List.prefix_append _ _)
def zns(u:Nat):1<=u->∀k,10 ^ k<=u->k+1<=(decDigits u).length:=by
 intro h k
 induction k generalizing u with
 |zero=>intro _;have:=qzk u;cases hh:decDigits u with|nil=>exact absurd hh this|cons=>simp
 |succ k ih=>
  intro hk;have hp:1<=10 ^ k:=Nat.pow_pos (by omega)
  rw[Nat.pow_succ]at hk;rw[y4 u,qM,wD]
  have:=ih (u/10) (by omega) (by omega)
  omega
def zae(j:Nat)(h:j<=800000000):(dl (100000000+j)).length=12:=by
 have h1:=qq 9 (100000000+j) (by omega) (by omega)
 have h2:=zns (100000000+j) (by omega) 8 (by omega)
 unfold dl bN;simp only[qM,qL,qZ];omega
def zn1{a b:Nat}(h:dl a=dl b):a=b:=by
 unfold dl bN at h;rw[List.append_cancel_left_eq,List.cons.injEq]at h;exact znr h.2
def zo2(ps:List Bs)(h:ps.flatten.length<=700000000):∃N,N<1000000000/\ep ps N=false:=by
 by_cases hx:∃N,N<1000000000/\ep ps N=false
 ·exact hx
 exfalso;have hall:∀j,j<=800000000->∃p,p<ps.flatten.length/\dl (100000000+j) <+: ps.flatten.drop p:=by
  intro j hj;refine zmm ps _ ?_;cases hb:ep ps (100000000+j)
  ·exact absurd ⟨_,by omega,hb⟩ hx
  ·rfl
 have hf:∃f:Nat->Nat,∀j,j<=800000000->f j<ps.flatten.length/\dl (100000000+j) <+: ps.flatten.drop (f j):=by
  refine⟨fun j=>if hj:j<=800000000 then(hall j hj).choose else 0,fun j hj => ?_⟩
  simp only[dif_pos hj];exact(hall j hj).choose_spec
 obtain⟨f,hf⟩:=hf;have hinj:∀a b,a<=800000000->b<=800000000->f a=f b->a=b:=by
  intro a b ha hb e;have h1:=(hf a ha).2;have h2:=(hf b hb).2;rw[← e]at h2;have:dl (100000000+a)=dl (100000000+b):=by
   have q1:=List.prefix_iff_eq_take.1 h1;have q2:=List.prefix_iff_eq_take.1 h2;rw[zae a ha]at q1;rw[zae b hb]at q2;rw[q1,q2]
  have:=zn1 this;omega
 have hnd:((List.range (ps.flatten.length+1)).map f).Nodup:=by
  refine List.pairwise_map.2 (List.Pairwise.imp_of_mem ?_ (List.nodup_range (n:=ps.flatten.length+1)));intro a b ha hb hne e;rw[List.mem_range]at ha hb;exact hne (hinj a b (by omega) (by omega) e)
 have:=q1o ps.flatten.length _ hnd (by
  intro x hx;obtain⟨j,hj,rfl⟩:=List.mem_map.1 hx;rw[List.mem_range]at hj;exact(hf j (by omega)).1)
 rw[wC,List.length_range]at this;omega
def least(P:Nat->Bool):∀N,P N=false->∃M,M<=N/\P M=false/\∀k,k<M->P k=true:=by
 intro N
 induction N using Nat.strongRecOn with
 |_ N ih=>
  intro h;by_cases hx:∃k,k<N/\P k=false
  ·obtain⟨k,hk,hp⟩:=hx;obtain⟨M,h1,h2,h3⟩:=ih k hk hp;exact⟨M,by omega,h2,h3⟩
  ·refine⟨N,wF _,h,fun k hk => ?_⟩
   cases hp:P k
   ·exact absurd ⟨k,hk,hp⟩ hx
   ·rfl
def frF(ps:List Bs):Nat->Nat->Nat|0,a=>a|n+1,a=>if ep ps a=true then frF ps n (a+1) else a
def f7(ps:List Bs):Nat:=frF ps 1000000000 0
def zbc(ps:List Bs)(M:Nat)(h0:ep ps M=false)(h1:∀k,k<M->ep ps k=true):∀(n a:Nat),a<=M->M-a<n->frF ps n a=M
 |0,a,_,h=>by omega|n+1,a,ha,h=>by
  rw[frF];by_cases e:a=M
  ·subst e;rw[h0];simp
  ·rw[qX (h1 a (by omega))];exact zbc ps M h0 h1 n (a+1) (by omega) (by omega)
def zoz(ps:List Bs)(h:ps.flatten.length<=700000000:=by omega):f7 ps<1000000000/\ep ps (f7 ps)=false/\∀k,k<f7 ps->ep ps k=true:=by
 obtain⟨N,hN,hb⟩:=zo2 ps h;obtain⟨M,h1,h2,h3⟩:=least (ep ps) N hb;have e:f7 ps=M:=zbc ps M h2 h3 _ 0 (by omega) (by omega)
 rw[e];exact⟨by omega,h2,h3⟩
end Go.Sym
namespace Go.Sym
open Go.Lib (decDigits validD decodeL decodeN decodeL_N validD_step)
def q81:∀l:Bs,(∀x∈l,x.toNat<128)->validD l=true
 |[],_=>rfl|c::t,h=>by
  have hc:=h c qH;have hd:decodeL (c::t)=(c.toNat,1):=by
   rw[decodeL_N];simp only[List.getD_cons_zero];unfold decodeN;rw[qX hc]
  rw[validD_step (c::t) (by simp),hd,qW (by simp only;omega)]
  exact q81 t (fun x hx=>h x (qE _ hx))
def gm(m:db)(N:Nat):db:=(m.1,(m.2.1,m.2.2++[(cu,bN N)]))
def q86(N:Nat)(h:N<1000000000000):dw (bN N)=true/\validD (bN N)=true:=by
 have hl:=tl N h;have hd:∀x∈bN N,tk x=true/\x.toNat<128:=by
  intro x hx;unfold bN at hx;rcases List.mem_cons.1 hx with e|e
  ·rw[e];decide
  ·have hd:=qct N x e;refine⟨?_,by omega⟩
   have:∀n:_root_.Fin 256,48<=(UInt8.ofNat n.val).toNat/\(UInt8.ofNat n.val).toNat<=57->tk (UInt8.ofNat n.val)=true:=by decide +kernel
   exact jl (fun c=>48<=c.toNat/\c.toNat<=57->tk c=true) this x hd
 refine⟨?_,q81 _ (fun x hx=>(hd x hx).2)⟩
 unfold dw;simp only[qA,List.all_eq_true,decide_eq_true_eq];exact⟨⟨rfl,by omega⟩,fun x hx=>(hd x hx).1⟩
def zsd{l:List bz}(h:(dq l cu).2=false):∀x∈l,lk x.1 cu=false:=by
 intro x hx
 induction l with
 |nil=>cases hx
 |cons y l ih=>
  rw[qp8]at h;by_cases hy:lk y.1 cu=true
  ·rw[qX hy]at h;cases h
  ·rw[qW hy]at h;rcases List.mem_cons.1 hx with e|e
   ·rw[e];simpa using hy
   ·exact ih h e
def zdl(z:bz)(h1:dw z.1=true)(h2:z.1.length<=20)(h3:z.2.length<=500)(h4:validD z.2=true):∀(l ab:List bz),(jx ab l).1=0->(∀x∈ab++l,lk x.1 z.1=false)->(jx ab (l++[z])).1=0
 |[],ab,_,hn=>by
  rw[List.nil_append,jx,qW (by rw[h1];simp;omega),qW (by
   intro q;obtain⟨x,hx,hk⟩:=List.any_eq_true.1 q;rw[hn x (by simpa using hx)]at hk;cases hk),qW (by omega),qW (by rw[h4];simp)]
  rfl
 |p::l,ab,h,hn=>by
  rw[jx]at h;split at h
  ·cases h
  ·split at h
   ·cases h
   ·split at h
    ·cases h
    ·split at h
     ·cases h
     ·rename_i g1 g2 g3 g4;rw[wK,jx,qW g1,qW g2,qW g3,qW g4];exact zdl z h1 h2 h3 h4 l _ h (by simpa using hn)
def zld{m:db}(h:(d9 m).1=0)(hb:(dq m.2.2 cu).2=false)(hl:m.2.2.length<60)(N:Nat)(hN:N<1000000000000:=by omega):(d9 (gm m N)).1=0:=by
 obtain⟨h1,h2,h3,_⟩:=q0x h;obtain⟨b1,b2⟩:=q86 N hN;have hbl:=tl N hN;unfold d9 at h ⊢;rw[qW (by simp[h1,h2]),qW (by omega)]at h
 unfold gm;simp only;rw[qW (by simp[h1,h2]),qW (by rw[qM,wD];omega)]
 exact zdl (cu,bN N) (show dw cu=true by decide) (show cu.length<=20 by decide) (by simp only;omega) b2 m.2.2 [] h (by simpa using zsd hb)
def zrh(m:db)(N:Nat)(hN:N<1000000000000:=by omega):cg (gm m N)=cg m++([59,32]++cu++[61]++bN N):=by
 have hp:ij (cu,bN N)=[59,32]++cu++[61]++bN N:=by unfold ij;rw[qX (q86 N hN).1]
 unfold cg gm;simp only[List.flatMap_append,List.flatMap_cons,List.flatMap_nil,hp,List.append_nil,qS]
def zxv{l:List az}{b:Bs}(h:qac l b=0):∃m,im l=some m/\b=[]/\lk m.1 vv=true/\(dq m.2.2 cu).2=false/\m.2.2.length<60/\dr l bt=[cg m]/\(cg m).length<=2000:=by
 unfold qac at h;split at h
 ·cases h
 ·rename_i m hm;split at h
  ·cases h
  ·rename_i hc;simp only[not_or]at hc;obtain⟨c1,c2,c3,c4,c5,c6⟩:=hc;refine⟨m,hm,List.eq_nil_of_length_eq_zero (by omega),by simpa using c2,by simpa using c3,by omega,?_,by omega⟩
   exact Classical.not_not.1 c5
def zdq{t:TP}{d:Int}(h:jr t d=0):t.val.1.length<=60/\(∀x∈t.val.1,fq x)/\(0<t.kids.length->qac t.val.1 t.val.2=0)/\(t.kids.length=0->t.val.2.length<=12000/\bs 0 t.val.2=0):=by
 unfold jr at h;split at h
 ·rename_i h1;exact absurd h h1
 ·rename_i h1;obtain⟨_,q1,q2⟩:=qzy (show(lj t.val.1).1=0 by omega)
  refine⟨q1,q2,fun hk=>by rw[qX hk]at h;exact h,fun hk => ?_⟩
  rw[qW (by omega)]at h
  split at h
  ·cases h
  ·rename_i h2;split at h
   ·rename_i h3;exact absurd h h3
   ·rename_i h3;exact⟨by omega,by omega⟩
def wr(x:List az×Bs):Bs:=hbytes x.1++x.2
def jk(ps:List Bs)(N:Nat):Bs:=(ps.flatMap fun p=>dl N++[13,10]++p++[13,10])++(dl N++[45,45,13,10])
def bc:Nat->TP->List az×Bs
 |0,t=>t.val|n+1,t=>if t.kids=[] then t.val else
  (g8 t.val.1 (cg (gm ((im t.val.1).getD ([],([],[]))) (f7 (t.kids.map fun k=>wr (bc n k))))),jk (t.kids.map fun k=>wr (bc n k)) (f7 (t.kids.map fun k=>wr (bc n k))))
def zar:∀l:List az,(∀x∈l,fq x)->(nu l).length<=14100*l.length
 |[],_=>wF _|x::l,h=>by
  have:=zar l fun y hy=>h y (qE _ hy)
  have hx:=h x qH;obtain⟨h1,h2,h3,_⟩:=qdj hx;have h4:(dh x.1 x.2).flatten.length=x.1.length+2+x.2.length:=by unfold dh;rw[qpd];simp[bu];omega
  have h5:=q0l (dh x.1 x.2);unfold nu at this ⊢;rw[List.flatMap_cons,qM,qL];omega
def zbj{l:List az}(hl:l.length<=60)(h:∀x∈l,fq x):(hbytes l).length<=846002:=by
 have:=zar l h;unfold hbytes;rw[qM];simp only[qL,qZ];omega
def qy4:∀(n:Nat)(s:Bs)(col:Nat),s.length<=n->bs col s=0->cy s
 |0,s,_,h,_=>by
  have:s=[]:=List.eq_nil_of_length_eq_zero (by omega)
  subst this;exact cy.no (by simp)
 |n+1,[],_,_,_=>cy.no (by simp)|n+1,c::r,col,h,hb=>by
  simp only[qL]at h;rw[qoc]at hb;split at hb
  ·rename_i hc;obtain⟨rfl,r',rfl⟩:=qi4 hc;have:=qy4 n r' 0 (by simp only[qL]at h;omega) hb
   exact cy.app (a:=[13,10]) cy.crlf this
  ·split at hb
   ·cases hb
   ·rename_i hc;split at hb
    ·cases hb
    ·have:=qy4 n r _ (by omega) hb
     exact cy.app (a:=[c]) (cy.no (by simp;exact fun e=>hc (.inr e))) this
def zb8:∀ls:List Bs,(∀s∈ls,∀x∈s,x≠10)->cy (dv ls)
 |[],_=>cy.no (by simp[dv])|s::ls,h=>by
  have e:dv (s::ls)=s++([13,10]++dv ls):=by simp[dv]
  rw[e];exact(cy.no (h s qH)).app (cy.crlf.app (zb8 ls (fun q hq=>h q (qE _ hq))))
def zr4{x:az}(h:fq x):∀c∈bu x.1 x.2,c≠10:=by
 obtain⟨h1,_,h3⟩:=qip h.1;obtain⟨_,n2⟩:=zov h1;obtain⟨v1,_⟩:=zo4 h3;intro c hc;unfold bu at hc;simp only[wA,wE,List.not_mem_nil,or_false]at hc;rcases hc with(q|q|q)|q
 ·exact(zrn c (n2 c q)).1.2.1
 ·rw[q];decide
 ·rw[q];decide
 ·exact(v1 c q).2.1
def q0b:∀l:List az,(∀x∈l,fq x)->cy (hbytes l)
 |[],_=>cy.crlf|x::l,h=>by
  have e:hbytes (x::l)=dv (dh x.1 x.2)++hbytes l:=by simp[hbytes,nu]
  rw[e];refine(zb8 _ fun s hs c hc => ?_).app (q0b l (fun y hy=>h y (qE _ hy)))
  have:c∈(dh x.1 x.2).flatten:=List.mem_flatten.2 ⟨s,hs,hc⟩;unfold dh at this;rw[qpd]at this;exact zr4 (h x qH) c this
def zaf(N:Nat):∀x∈dl N,x≠10:=by
 intro x hx;unfold dl bN at hx;simp only[wA,wE,List.not_mem_nil,or_false]at hx;rcases hx with(q|q)|q|q
 ·rw[q];decide
 ·rw[q];decide
 ·rw[q];decide
 ·intro e;subst e;have:=qct N 10 q;revert this;decide
def q9h(N:Nat):∀ps:List Bs,(∀p∈ps,cy p)->cy (jk ps N)
 |[],_=>by
  show cy (dl N++([45,45]++[13,10]));exact(cy.no (zaf N)).app ((cy.no (by simp)).app cy.crlf)
 |p::ps,h=>by
  have e:jk (p::ps) N=dl N++([13,10]++(p++([13,10]++jk ps N))):=by unfold jk;rw[List.flatMap_cons];simp only[qS]
  rw[e];exact(cy.no (zaf N)).app (cy.crlf.app ((h p qH).app (cy.crlf.app (q9h N ps (fun q hq=>h q (qE _ hq))))))
def q9g(N:Nat)(hN:N<1000000000000):∀ps:List Bs,(jk ps N).length<=ps.flatten.length+19*ps.length+19
 |[]=>by
  have:=tl N hN;show(dl N++[45,45,13,10]).length<=_;unfold dl;simp only[qM,qL,qZ];omega
 |p::ps=>by
  have hb:=tl N hN;have:=q9g N hN ps;have e:jk (p::ps) N=dl N++([13,10]++(p++([13,10]++jk ps N))):=by unfold jk;rw[List.flatMap_cons];simp only[qS]
  rw[e,List.flatten_cons];unfold dl;simp only[qM,qL,qZ];omega
end Go.Sym
namespace Go.Sym
def vl(n:Nat)(t:TP)(d:Int):Prop:=∀x∈bh n t d,jr x.1 x.2=0/\mf x.1.val
def qpi{n:Nat}{t:TP}{d:Int}(h:vl (n+1) t d):jr t d=0/\mf t.val:=h (t,d) (by rw[bh];exact qH)
def qiw{n:Nat}{t k:TP}{d:Int}(h:vl (n+1) t d)(hk:k∈t.kids):vl n k (d+1):=fun x hx=>h x (by
 rw[bh];exact qE _ (List.mem_flatMap.2 ⟨k,hk,hx⟩))
def qo9{n:Nat}{k:TP}{d:Int}:∀{l:List TP},k∈l->(bh n k d).length<=(l.flatMap fun k=>bh n k d).length
 |a::l,h=>by
  rw[List.flatMap_cons,qM];rcases List.mem_cons.1 h with e|e
  ·rw[e];omega
  ·have:=qo9 (n:=n) (d:=d) e;omega
def JP(n:Nat)(t:TP)(d:Int):Prop:=(bc n t).1.length<=60/\(∀x∈(bc n t).1,fq x)/\cy (bc n t).2/\(hbytes (bc n t).1).length+(bc n t).2.length<=860000*(bh n t d).length
def zb2(n:Nat)(d:Int)(hn:1<=n):∀l:List TP,(∀k∈l,JP n k d)->((l.map fun k=>wr (bc n k)).flatten.length<=860000*(l.flatMap fun k=>bh n k d).length)/\l.length<=(l.flatMap fun k=>bh n k d).length
 |[],_=>by simp|k::l,h=>by
  obtain⟨h1,h2⟩:=zb2 n d hn l (fun q hq=>h q (qE _ hq))
  obtain⟨_,_,_,h3⟩:=h k qH;have hf:1<=(bh n k d).length:=by
   obtain⟨n,rfl⟩:∃m,n=m+1:=⟨n-1,by omega⟩
   rw[bh];simp
  rw[List.map_cons,List.flatten_cons,List.flatMap_cons,qM,qM,qL,Nat.mul_add];have:(wr (bc n k)).length=(hbytes (bc n k).1).length+(bc n k).2.length:=by unfold wr;rw[qM]
  omega
def zud{l:List az}{m:db}(hl:∀x∈l,fq x)(hm:(d9 m).1=0)(h4:(cg m).length<=4000):∀x∈g8 l (cg m),fq x:=by
 intro x hx;unfold g8 at hx;obtain⟨y,hy,rfl⟩:=List.mem_map.1 hx;split
 ·exact zr5 (qip (hl y hy).1).1 hm h4
 ·exact hl y hy
def q0c{n:Nat}{t:TP}{d:Int}(hsz:cm t<=n+1)(hf:(bh (n+1) t d).length<=40)(hg:vl (n+1) t d)(hk:t.kids≠[])(hkid:∀k∈t.kids,JP n k (d+1)) :
  ∃m,im t.val.1=some m/\(d9 m).1=0/\t.val.2=[]/\lk m.1 vv=true/\(dq m.2.2 cu).2=false/\m.2.2.length<60/\dr t.val.1 bt=[cg m]/\(cg m).length<=2000 /\
   (t.kids.map fun k=>wr (bc n k)).flatten.length<=860000*39/\t.kids.length<=39/\(t.kids.map fun k=>wr (bc n k)).flatten.length+860000<=860000*(bh (n+1) t d).length /\
   f7 (t.kids.map fun k=>wr (bc n k))<1000000000/\ep (t.kids.map fun k=>wr (bc n k)) (f7 (t.kids.map fun k=>wr (bc n k)))=false/\(∀k,k<f7 (t.kids.map fun k=>wr (bc n k))->ep (t.kids.map fun k=>wr (bc n k)) k=true) /\
   (d9 (gm m (f7 (t.kids.map fun k=>wr (bc n k))))).1=0/\(cg (gm m (f7 (t.kids.map fun k=>wr (bc n k))))).length<=2030:=by
 obtain⟨g1,g2⟩:=qpi hg;obtain⟨f1,f2,f3,_⟩:=zdq g1;have hkl:0<t.kids.length:=by cases hh:t.kids with|nil=>exact absurd hh hk|cons=>simp
 obtain⟨m,m1,m2,m3,m4,m5,m6,m7⟩:=zxv (f3 hkl);have h0:=qdy m1;have hn:1<=n:=by
  cases hh:t.kids with|nil=>exact absurd hh hk|cons k l=>have:=px (t:=t) (k:=k) (by rw[hh];simp);have:=wn k;omega
 obtain⟨j1,j2⟩:=zb2 n (d+1) hn t.kids hkid;rw[bh,qL]at hf;have hN:=zoz (t.kids.map fun k=>wr (bc n k))
 refine⟨m,m1,h0,m2,m3,m4,m5,m6,m7,by omega,by omega,?_,hN.1,hN.2.1,hN.2.2,zld h0 m4 m5 _,?_⟩
 ·rw[bh,qL];omega
 ·rw[zrh m _]
  have:=tl (f7 (t.kids.map fun k=>wr (bc n k)))
  simp only[qM,qL,qZ];omega
def qpu:∀(n:Nat)(t:TP)(d:Int),cm t<=n->(bh n t d).length<=40->vl n t d->JP n t d
 |0,t,d,h,_,_=>by have:=wn t;omega|n+1,t,d,hsz,hf,hg=>by
  have hkid:∀k∈t.kids,JP n k (d+1):=fun k hk=>qpu n k (d+1) (by have:=px hk;omega) (by
   have:=qo9 (n:=n) (d:=d+1) hk;rw[bh,qL]at hf;omega) (qiw hg hk)
  obtain⟨g1,g2⟩:=qpi hg;obtain⟨f1,f2,f3,f4⟩:=zdq g1;have hhb:=zbj f1 f2;by_cases hk:t.kids=[]
  ·obtain⟨b1,b2⟩:=f4 (by rw[hk];rfl)
   have e:bc (n+1) t=t.val:=by rw[bc,qX hk]
   unfold JP;rw[e];refine⟨f1,f2,qy4 _ _ 0 (wF _) b2,?_⟩;rw[bh,qL];omega
  ·obtain⟨m,m1,h0,m2,m3,m4,m5,m6,m7,m8,m9,m10,n1,n2,n3,n4,n5⟩:=q0c hsz hf hg hk hkid;have e:bc (n+1) t=(g8 t.val.1 (cg (gm m (f7 (t.kids.map fun k=>wr (bc n k))))),jk (t.kids.map fun k=>wr (bc n k)) (f7 (t.kids.map fun k=>wr (bc n k)))):=by
    rw[bc,qW hk,m1];rfl
   have r1:(g8 t.val.1 (cg (gm m (f7 (t.kids.map fun k=>wr (bc n k)))))).length<=60:=by unfold g8;rw[wC];exact f1
   have r2:=zud (l:=t.val.1) f2 n4 (by omega)
   have hb2:=zbj r1 r2;have bl:=q9g (f7 (t.kids.map fun k=>wr (bc n k))) (by omega) (t.kids.map fun k=>wr (bc n k))
   rw[wC]at bl;unfold JP;rw[e];refine⟨r1,r2,q9h _ _ (fun p hp => ?_),by simp only;omega⟩
   obtain⟨k,hk2,rfl⟩:=List.mem_map.1 hp;obtain⟨_,q2,q3,_⟩:=hkid k hk2;exact(q0b _ q2).app q3
def q25{n:Nat}{t:TP}{d:Int}(h:JP n t d)(hf:(bh n t d).length<=40):(wr (bc n t)).length<=34400000:=by
 obtain⟨_,_,_,h4⟩:=h;unfold wr;rw[qM];omega
def zfp{fu n:Nat}{l:List TP}{d:Int}(hfu:90000000<=fu)(hl:l.length<=39)(hj:∀k∈l,JP n k d)(hf:∀k∈l,(bh n k d).length<=40):qhy fu (l.map fun k=>wr (bc n k)):=by
 refine⟨by rw[wC];omega,fun p hp => ?_⟩
 obtain⟨k,hk,rfl⟩:=List.mem_map.1 hp;have:=q25 (hj k hk) (hf k hk);obtain⟨_,q2,q3,_⟩:=hj k hk;exact⟨by omega,by omega,(q0b _ q2).app q3⟩
def zq5(fu m n:Nat)(hfu:90000000<=fu)(rs:sj)(d:Int)(L:List TP)(hL:L.length<=1000)(hrs:∀k∈L,rs k=some (bc n k)/\JP n k d/\(bh n k d).length<=40):∀(ab aa:List TP),L=ab++aa->aa.length<m ->
  qhd rs fu m L (L.length:Int) (ab.length:Int) (ab.map fun k=>wr (bc n k))=some (L.map fun k=>wr (bc n k)):=by
 have hrm:=ge
 induction m with
 |zero=>intro ab aa _ h;omega|succ m ih=>
  intro ab aa hp h;have ac:L.length=ab.length+aa.length:=by rw[hp];simp
  rw[qhd,qv5]
  cases aa with
  |nil=>rw[aq (by simp only[qZ]at ac;omega),hp,List.append_nil]|cons k w=>
   simp only[qL]at h ac;have hx:am L (ab.length:Int)=some k:=by rw[hp];exact bg ab k w
   obtain⟨r1,r2,r3⟩:=hrs k (by rw[hp];simp)
   have hw:=q25 r2 r3;have st:=ih (ab++[k]) w (by rw[hp];simp) (by omega)
   rw[qM,wD,List.map_append,List.map_cons,List.map_nil]at st;have hb:(bc n k).2.length<=100000000:=by unfold wr at hw;rw[qM]at hw;omega
   rw[ag,hx,qB,d8,qvx,d8,r1,qB,ztl fu hfu _ _ r2.1 r2.2.1 hb,qB,qB,ag,au _]
   exact st
def zqj(fu m:Nat)(rs:sj)(N:Nat)(hN:N<1000000000000)(f:List az)(ps:List Bs)(hps:ps.length<=1000)(hsz:ps.flatten.length<=100000000):∀(ab aa:List Bs)(out:Bs),ps=ab++aa->aa.length<m->out.length+aa.flatten.length+19*aa.length<=200000000 ->
  qbw rs fu m (bN N) (ps.length:Int) (ab.length:Int) f ps out=some (f,out++jk aa N):=by
 have hrm:=ge;have hb:=tl N hN
 induction m with
 |zero=>intro ab aa out _ h;omega|succ m ih=>
  intro ab aa out hp h ho;have ac:ps.length=ab.length+aa.length:=by rw[hp];simp
  rw[qbw,qvy]
  cases aa with
  |nil=>
   simp only[qZ]at ac ho;rw[aq,ag (by simp[ap];omega),ag (by simp[ap];omega),ag (by simp at ho ⊢;omega)]
   rfl
  |cons p w=>
   simp only[qL,List.flatten_cons,qM]at h ac ho;have hc:ps[((ab.length:Nat):Int).toNat]? = some p:=by rw[hp];exact qz ab p w
   have st:=ih (ab++[p]) w (((out++((([45,45]:Bs)++bN N)++[13,10]))++p)++[13,10]) (by rw[hp];simp) (by omega) (by simp only[qM,qL,qZ];omega)
   rw[qM,wD]at st;rw[ag,ag,hc,qB,ag (by simp[ap];omega),ag (by simp[ap];omega),ag (by simp only[qM,qL,qZ];omega),ag (by simp only[qM,qL,qZ];omega),ag (by simp only[qM,qL,qZ];omega),au _,st]
   unfold jk dl;rw[List.flatMap_cons];simp only[qS]
def zb1(fu:Nat)(hfu:1000000000000<=fu):∀(n:Nat)(t:TP)(d:Int),cm t<=n->(bh n t d).length<=40->vl n t d->u5 fu n t=some (bc n t)
 |0,t,d,h,_,_=>by have:=wn t;omega|n+1,t,d,hsz,hf,hg=>by
  have hrm:=ge;have hkf:∀k∈t.kids,(bh n k (d+1)).length<=40:=fun k hk=>by
   have:=qo9 (n:=n) (d:=d+1) hk;rw[bh,qL]at hf;omega
  have hkid:∀k∈t.kids,JP n k (d+1):=fun k hk=>qpu n k (d+1) (by have:=px hk;omega) (hkf k hk) (qiw hg hk)
  rw[u5,qmv];by_cases hk:t.kids=[]
  ·rw[bc,qX hk,hk,aw]
  ·obtain⟨m,m1,h0,m2,m3,m4,m5,m6,m7,m8,m9,m10,n1,n2,n3,n4,n5⟩:=q0c hsz hf hg hk hkid;have e:bc (n+1) t=(g8 t.val.1 (cg (gm m (f7 (t.kids.map fun k=>wr (bc n k))))),jk (t.kids.map fun k=>wr (bc n k)) (f7 (t.kids.map fun k=>wr (bc n k)))):=by
    rw[bc,qW hk,m1];rfl
   obtain⟨_,s2⟩:=qpi hg;have hkl:t.kids.length≠0:=by cases hh:t.kids with|nil=>exact absurd hh hk|cons=>simp
   have hm:=zq5 fu fu n (by omega) (u5 fu n) (d+1) t.kids (by omega) (fun k hk=>⟨zb1 fu hfu n k (d+1) (by have:=px hk;omega) (hkf k hk) (qiw hg hk),hkid k hk,hkf k hk⟩) [] t.kids rfl (by omega)
   have hmp:qv4 (u5 fu n) fu t.kids=some (t.kids.map fun k=>wr (bc n k)):=hm
   rw[e];generalize hN:f7 (t.kids.map fun k=>wr (bc n k))=N at *
   have hsp:=zfp (fu:=fu) (by omega) m9 hkid hkf
   have hv:=rq h0;have hv4:=rq n4;have hpl:(t.kids.map fun k=>wr (bc n k)).length<=39:=by rw[wC];exact m9
   generalize hps:(t.kids.map fun k=>wr (bc n k))=ps at *
   have hfr:=zo1 fu hfu ps hsp N n1 n2 n3;obtain⟨R,t1,t2⟩:=q2v fu (by omega) t.val.1 s2.2.2.1 s2.2.1
   rw[m1]at t2;obtain⟨ab,x,aa,e1,e2,e3,e4,e5,rfl⟩:=t2;have hc1:dm m.2.2=some m.2.2:=by unfold dm;rw[ag]
   have hc2:dm t.val.1=some t.val.1:=by unfold dm;rw[ag (by have:=s2.2.1;omega)]
   rw[ay (by simp;omega),hmp,qB,hfr,qB,t1,qB]
   simp only[ch];rw[hc1,qB,ag (by rw[qM,wD];omega),hc2,qB,show((m.1,(m.2.1,m.2.2++[(cu,bN N)])):db)=gm m N from rfl,zdx fu (by omega) (gm m N) hv4.smD,qB,qW (by simpa using n4),qW (by omega),ag (by rw[e1];simp)]
   have hg1:t.val.1[((ab.length:Nat):Int).toNat]? = some x:=by rw[e1];exact qz ab x aa
   have hset:List.set t.val.1 ((ab.length:Nat):Int).toNat (x.1,cg (gm m N))=ab++(x.1,cg (gm m N))::aa:=by rw[e1];exact qqs ab x _ aa
   rw[hg1,qB,hset,zue _ e1 e3 e4 e5];exact zqj fu fu (u5 fu n) N (by omega) _ ps (by omega) (by omega) [] ps [] rfl (by omega) (by simp only[qZ];omega)
open Go.Lib (decDigits)
def zc2(fu a:Nat)(hfu:100<=fu:=by omega)(ha:a<1000000000000:=by omega):ol fu (a:Int)=some (decDigits a):=qp6 fu hfu a
def zqi(fu m:Nat)(hfu:90000000<=fu)(rs:ko)(N:Nat)(hN:N<1000000000)(t:TP)(hs:mf t.val)(M:db)(hM:(d9 M).1=0)(hB:(d9 (gm M N)).1=0)(body:Bs)(hb:body.length<=200000000):∀(ab aa:List bz),M.2.2=ab++aa->aa.length<m ->
  qf1 rs fu m (bN N) body (ab.length:Int) t M M.1 M.2.1 ab=some (g8 t.val.1 (cg (gm M N)),body++(dl N++[45,45,13,10])):=by
 have hrm:=ge;have hbn:=tl N
 obtain⟨v1,v2,v3,v4⟩:=rq hM
 induction m with
 |zero=>intro ab aa _ h;omega|succ m ih=>
  intro ab aa hp h;have ac:M.2.2.length=ab.length+aa.length:=by rw[hp];simp
  rw[qf1,qtx]
  cases aa with
  |nil=>
   have e:ab=M.2.2:=by rw[hp,List.append_nil]
   rw[aq (by simp only[qZ]at ac;omega),ag (by rw[qM,wD];omega),e,show((M.1,(M.2.1,M.2.2++[(([98,111,117,110,100,97,114,121]:Bs),bN N)])):db)=gm M N from rfl,zew fu hfu _ (rq hB),qB,zuf fu hfu t.val.1 (fun x hx=>(hs.2.2.1 x hx).1) hs.2.1,qB,
    ag (by simp only[ap,qM,qL,qZ];omega),ag (by simp only[ap,qM,qL,qZ];omega),ag (by simp only[ap,qM,qL,qZ];omega),ag (by simp only[maxLen,qM,qL,qZ];omega)]
   unfold dl;simp only[qS]
  |cons y w=>
   simp only[qL]at h ac;have hx:am M.2.2 (ab.length:Int)=some y:=by rw[hp];exact bg ab y w
   have st:=ih (ab++[y]) w (by rw[hp];simp) (by omega)
   rw[qM,wD]at st;rw[ag,hx,qB,ag (by rw[qM,wD];omega),au _,d8]
   exact st
def zqh(fu m:Nat)(hfu:90000000<=fu)(rs:ko)(N:Nat)(hN:N<1000000000)(t:TP)(hs:mf t.val)(M:db)(hT:im t.val.1=some M)(hB:(d9 (gm M N)).1=0)(ps:List Bs)(hps:ps.length<=1000):∀(ab aa:List Bs)(out:Bs),ps=ab++aa->aa.length<m->out.length+aa.flatten.length+19*aa.length<=200000000 ->
  qa9 rs fu m (bN N) out (ab.length:Int) t ps=some (g8 t.val.1 (cg (gm M N)),out++jk aa N):=by
 have hrm:=ge;have hbn:=tl N
 have hM:=qdy hT
 induction m with
 |zero=>intro ab aa out _ h;omega|succ m ih=>
  intro ab aa out hp h ho;have ac:ps.length=ab.length+aa.length:=by rw[hp];simp
  rw[qa9,qtw]
  cases aa with
  |nil=>
   simp only[qZ,List.flatten_nil]at ac ho;have hv3:=(rq hM).2.2.1;rw[aq,q2u fu hfu t.val.1 hs.1.1,hT,qB,d8]
   exact zqi fu fu hfu rs N hN t hs M hM hB out (by omega) [] M.2.2 rfl (by omega)
  |cons p w=>
   simp only[qL,List.flatten_cons,qM]at h ac ho;have hc:ps[((ab.length:Nat):Int).toNat]? = some p:=by rw[hp];exact qz ab p w
   have st:=ih (ab++[p]) w (((((out++([45,45]:Bs))++bN N)++([13,10]:Bs))++p)++([13,10]:Bs)) (by rw[hp];simp) (by omega) (by simp only[qM,qL,qZ];omega)
   rw[qM,wD]at st;rw[ag,ag (by simp only[ap,qM,qL,qZ];omega),ag (by simp only[ap,qM,qL,qZ];omega),ag (by simp only[ap,qM,qL,qZ];omega),ag,hc,qB,ag (by simp only[ap,qM,qL,qZ];omega),ag (by simp only[ap,qM,qL,qZ];omega),au _,d8,st]
   unfold jk dl;rw[List.flatMap_cons];simp only[qS]
def zqg(fu m:Nat)(hfu:90000000<=fu)(rs:ko)(N:Nat)(hN:N<1000000000)(t:TP)(ps:List Bs)(hps:qhy fu ps)(h0:ep ps N=false)(h1:∀k,k<N->ep ps k=true):∀(a:Nat)(ab aa:List Bs),ps=ab++aa->a<=N->ab.any (fun p=>lb (dl a) true p)=false->(N-a)*(ps.length+1)+aa.length<m ->
  qa8 rs fu m (a:Int) (ab.length:Int) t ps=qa9 rs fu fu (bN N) [] 0 t ps:=by
 induction m with
 |zero=>intro a ab aa _ _ _ h;omega|succ m ih=>
  intro a ab aa hp ha hno h;have ac:ps.length=ab.length+aa.length:=by rw[hp];simp
  have hpl:=hps.1;have hd:=qq 12 a (by omega) (by omega)
  rw[qa8,qtv]
  cases aa with
  |nil=>
   simp only[qZ]at ac;have hb:ep ps a=false:=by unfold ep;rw[hp,List.append_nil];exact hno
   have e:a=N:=by
    by_cases e:a<N
    ·rw[h1 a e]at hb;cases hb
    ·omega
   subst e;rw[aq,zc2 fu a,qB,ag (by simp only[ap,qL,qZ];omega),d8]
   rfl
  |cons p w=>
   simp only[qL]at h ac;have hc:ps[((ab.length:Nat):Int).toNat]? = some p:=by rw[hp];exact qz ab p w
   obtain⟨p1,p2,p3⟩:=hps.2 p (by rw[hp];simp)
   have hdl:([45,45,98]:Bs)++decDigits a=dl a:=rfl;have hll:(dl a).length<=1000:=by rw[← hdl];simp only[qM,qL,qZ];omega
   rw[ag,ag,hc,qB,zc2 fu a,qB,ag (by simp only[ap,qL,qZ];omega),hdl,zqx fu (dl a) p (zag a) hll p2 (by omega),qB]
   cases hh:lb (dl a) true p
   ·rw[ay rfl,qf0,au _,d8,d8]
    have st:=ih a (ab++[p]) w (by rw[hp];simp) ha (by rw[List.any_append,hno,List.any_cons,hh];rfl) (by omega)
    rw[qM,wD]at st;exact st
   ·have e:a<N:=by
     rcases Nat.lt_or_ge a N with e|e
     ·exact e
     ·have:a=N:=by omega
      subst this;have hb:ep ps a=true:=by unfold ep;rw[hp,List.any_append,List.any_cons,hh];simp
      rw[h0]at hb;cases hb
    rw[aw rfl,qf0,au _,show af ((-1:Int)+1)=((0:Nat):Int) from rfl,d8,d8]
    have hmul:(N-a)*(ps.length+1)=(N-(a+1))*(ps.length+1)+(ps.length+1):=by
     rw[show N-a=(N-(a+1))+1 by omega,Nat.succ_mul]
    exact ih (a+1) [] ps rfl (by omega) rfl (by omega)
def zqf(fu m n:Nat)(hfu:90000000<=fu)(rs:ko)(d:Int)(t:TP)(hL:t.kids.length<=1000)(hrs:∀k∈t.kids,rs k=some (bc n k)/\JP n k d/\(bh n k d).length<=40):∀(ab aa:List TP),t.kids=ab++aa->aa.length<m ->
  qfz rs fu m (ab.length:Int) t (ab.map fun k=>wr (bc n k))=qa8 rs fu fu 0 0 t (t.kids.map fun k=>wr (bc n k)):=by
 have hrm:=ge
 induction m with
 |zero=>intro ab aa _ h;omega|succ m ih=>
  intro ab aa hp h;have ac:t.kids.length=ab.length+aa.length:=by rw[hp];simp
  rw[qfz,qtu]
  cases aa with
  |nil=>rw[aq (by simp only[qZ]at ac;omega),d8,hp,List.append_nil]|cons k w=>
   simp only[qL]at h ac;have hx:am t.kids (ab.length:Int)=some k:=by rw[hp];exact bg ab k w
   obtain⟨r1,r2,r3⟩:=hrs k (by rw[hp];simp)
   have hw:=q25 r2 r3;have hmb:qlt fu (bc n k)=some (wr (bc n k)):=by
    unfold qlt;rw[zbk fu hfu _ r2.1 r2.2.1,qB,ag (by unfold wr at hw;omega)];rfl
   have st:=ih (ab++[k]) w (by rw[hp];simp) (by omega)
   rw[qM,wD,List.map_append,List.map_cons,List.map_nil]at st;rw[ag,hx,qB,d8,r1,qB,hmb,qB,ag,au _,d8]
   exact st
def zb0(fu:Nat)(hfu:1000000000000<=fu):∀(n:Nat)(t:TP)(d:Int),cm t<=n->(bh n t d).length<=40->vl n t d->ur fu n t=some (bc n t)
 |0,t,d,h,_,_=>by have:=wn t;omega|n+1,t,d,hsz,hf,hg=>by
  have hkf:∀k∈t.kids,(bh n k (d+1)).length<=40:=fun k hk=>by
   have:=qo9 (n:=n) (d:=d+1) hk;rw[bh,qL]at hf;omega
  have hkid:∀k∈t.kids,JP n k (d+1):=fun k hk=>qpu n k (d+1) (by have:=px hk;omega) (hkf k hk) (qiw hg hk)
  rw[ur,qls];by_cases hk:t.kids=[]
  ·rw[bc,qX hk,hk,aw]
  ·obtain⟨m,m1,h0,m2,m3,m4,m5,m6,m7,m8,m9,m10,n1,n2,n3,n4,n5⟩:=q0c hsz hf hg hk hkid;have e:bc (n+1) t=(g8 t.val.1 (cg (gm m (f7 (t.kids.map fun k=>wr (bc n k))))),jk (t.kids.map fun k=>wr (bc n k)) (f7 (t.kids.map fun k=>wr (bc n k)))):=by
    rw[bc,qW hk,m1];rfl
   obtain⟨_,s2⟩:=qpi hg;have hkl:t.kids.length≠0:=by cases hh:t.kids with|nil=>exact absurd hh hk|cons=>simp
   have hm:=zqf fu fu n (by omega) (ur fu n) (d+1) t (by omega) (fun k hk=>⟨zb0 fu hfu n k (d+1) (by have:=px hk;omega) (hkf k hk) (qiw hg hk),hkid k hk,hkf k hk⟩) [] t.kids rfl (by omega)
   rw[e];generalize hN:f7 (t.kids.map fun k=>wr (bc n k))=N at *
   have hsp:=zfp (fu:=fu) (by omega) m9 hkid hkf
   have hpl:(t.kids.map fun k=>wr (bc n k)).length<=39:=by rw[wC];exact m9
   generalize hps:(t.kids.map fun k=>wr (bc n k))=ps at *
   rw[ay (by simp;omega),d8]
   refine hm.trans ?_;have hmul:N*(ps.length+1)<=1000000000*40:=Nat.mul_le_mul (by omega) (by omega)
   refine(zqg fu fu (by omega) (ur fu n) N n1 t ps hsp n2 n3 0 [] ps rfl (by omega) rfl (by rw[Nat.sub_zero];omega)).trans ?_
   exact zqh fu fu (by omega) (ur fu n) N n1 t s2 m m1 n4 ps (by omega) [] ps [] rfl (by omega) (by simp only[qZ];omega)
def zfa:∀(L:List (TP×Int))(i:Nat),gf L i=none->∀x∈L,jr x.1 x.2=0
 |[],_,_,x,hx=>by cases hx
 |y::L,i,h,x,hx=>by
  rw[gf]at h;split at h
  ·cases h
  ·rename_i hc;rcases List.mem_cons.1 hx with e|e
   ·rw[e];omega
   ·exact zfa L _ h x e
def q1m{fu:Nat}{t:TP}(hs:gd t)(h:(n9 fu t).1=0):(bh fu t 0).length<=40/\vl fu t 0/\∀x∈bh fu t 0,x.2<=8:=by
 unfold n9 at h;split at h
 ·cases h
 ·rename_i h1;split at h
  ·cases h
  ·rename_i h2;have hn:gf (bh fu t 0) 0=none:=by
    cases hr:gf (bh fu t 0) 0 with|none=>rfl|some f=>rw[hr]at h;exact absurd h (ze9 _ _ f hr).1
   refine⟨by omega,fun x hx=>⟨zfa _ _ hn x hx,hs.2 fu 0 x hx⟩,fun x hx => ?_⟩
   have:¬(8<x.2):=fun q=>h2 (List.any_eq_true.2 ⟨x,hx,by simpa using q⟩)
   omega
end Go.Sym
namespace Go.Sym
def zsp:qud 1000000000000=some true:=by kernel_rfl
def zb3{fu:Nat}{t:TP}(hfu:1000000000000<=fu)(hs:gd t)(h:(n9 fu t).1=0):JP fu t 0/\SmM (bc fu t)/\(bc fu t).1.length<=60:=by
 obtain⟨h1,h2,_⟩:=q1m hs h;have hj:=qpu fu t 0 (by have:=hs.1;omega) h1 h2
 obtain⟨j1,j2,j3,j4⟩:=hj;refine⟨⟨j1,j2,j3,j4⟩,⟨⟨by omega,fun x hx => ?_⟩,by omega⟩,j1⟩
 have:=qdj (j2 x hx);omega
def qdc(fu:Nat)(t:TP):(List az×Bs)×(Int×Int):=if(n9 fu t).1≠0 then(([],[]),n9 fu t) else if(rr (bc fu t)).1≠0 then(([],[]),((rr (bc fu t)).1,-3)) else(bc fu t,(0,0))
def zql(fu:Nat)(hfu:1000000000000<=fu)(t:TP)(hs:gd t):qg6 fu t=some (qdc fu t):=by
 have hrm:=ge;unfold qg6 qdc;simp only[d8];rw[ztj fu (by omega) t hs,qB,qw,qB,fp]
 by_cases h:(n9 fu t).1=0
 ·rw[qW (by simpa using h),qW (by simpa using h)]
  obtain⟨h1,h2,_⟩:=q1m hs h;obtain⟨_,j2,j3⟩:=zb3 hfu hs h;unfold q60;rw[zb1 fu hfu fu t 0 (by have:=hs.1;omega) h1 h2,qB]
  have hc1:dm (bc fu t).1=some (bc fu t).1:=by unfold dm;rw[ag]
  have hc2:dm (bc fu t).2=some (bc fu t).2:=by unfold dm;rw[ag (by have:=j2.2;omega)]
  rw[hc1,qB,hc2,qB,show(((bc fu t).1,(bc fu t).2):List az×Bs)=bc fu t from rfl,zxj fu (by omega) _ j2,qB,qw,qB,fp]
  by_cases hm:(rr (bc fu t)).1≠0
  ·rw[qX hm,qX hm];rfl
  ·rw[qW hm,qW hm];rfl
 ·rw[qX h,qX h]
def zqs(t:TP)(hs:gd t):qbd 1000000000000 t=some true:=by
 unfold qbd;simp only[d8];rw[zsp,qB,ci,zql _ (by omega) t hs,qB,zsn _ (by omega) t hs,qB,fp]
 have same:∀m:List az×Bs,m.1.length<=60->xp 1000000000000 m m=some true:=fun m hm=>zvp _ m
 by_cases h:(n9 1000000000000 t).1=0
 ·rw[qW (by simpa using h)]
  obtain⟨h1,h2,_⟩:=q1m hs h;obtain⟨_,j2,j3⟩:=zb3 (by omega) hs h
  unfold q56;rw[zb0 1000000000000 (by omega) 1000000000000 t 0 (by have:=hs.1;omega) h1 h2,qB,zok _ (by omega) _ j2,qB,fp]
  have e:qdc 1000000000000 t=if(rr (bc 1000000000000 t)).1≠0 then(([],[]),((rr (bc 1000000000000 t)).1,-3)) else(bc 1000000000000 t,(0,0)):=by unfold qdc;rw[qW (by simpa using h)]
  rw[e];by_cases hm:(rr (bc 1000000000000 t)).1≠0
  ·rw[qX hm,qX hm,t7,qB,aw,same _ (by simp)];rfl
  ·rw[qW hm,qW hm,jb,qX rfl,same _ j3];rfl
 ·have e:qdc 1000000000000 t=(([],[]),n9 1000000000000 t):=by unfold qdc;rw[qX h]
  rw[qX h,e,aw,same _ (by simp)];rfl
def zqt(x:TP×Unit)(h:bks [.tree τP] x<=1048576):qbd 1000000000000 x.1=some true:=by
 obtain⟨t,_⟩:=x;have h:cm t+0<=1048576:=h;exact zqs t (zo6)
end Go.Sym
