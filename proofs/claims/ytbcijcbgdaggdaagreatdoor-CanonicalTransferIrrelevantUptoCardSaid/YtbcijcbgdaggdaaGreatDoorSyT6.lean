/- What the claim rests on, part 6: gathered texts. -/
import Derived.Test.YtbcijcbgdaggdaaGreatDoorSyT5
set_option maxRecDepth 100000
set_option linter.defProp false
set_option linter.unusedSimpArgs false
set_option linter.unusedVariables false
namespace Go.Sym.Tr
def hv(c:UInt8):Option UInt8:=if 48<=c/\c<=57 then some (c-48) else if 65<=c/\c<=70 then some (c-65+10) else if 97<=c/\c<=102 then some (c-97+10) else none
def hx(a b:UInt8):Option UInt8:=(hv a).bind fun x=>(hv b).map fun y=>16*x+y
def dq:List UInt8->List UInt8|[]=>[]|[c]=>[c]|[c,d]=>[c,d]|c::a::b::r=>if c=61 then(match hx a b with|some x=>x::dq r|none=>c::dq (a::b::r)) else c::dq (a::b::r)
def qwu(c:UInt8)(r:List UInt8)(h:c≠61):dq (c::r)=c::dq r:=by
 match r with|[]=>rfl|[_]=>rfl|_::_::_=>rw[dq,qW h]
def zld(a b x:UInt8)(r:List UInt8)(h:hx a b=some x):dq (61::a::b::r)=x::dq r:=by
 rw[dq,qX rfl,h]
def bl(c:UInt8):Bool:=c==32||c==9
def ch(l:List UInt8):List UInt8:=(l.reverse.dropWhile bl).reverse
def qy(t:List UInt8)(nl:Bool):List UInt8×List UInt8:=if nl then(if t.getLast? = some 13 then(t.dropLast,[13,10]) else(t,[10])) else(t,[])
def zj(u e:List UInt8):List UInt8:=if u.getLast? = some 61 then dq u.dropLast else dq u++e
def nj(t:List UInt8)(nl:Bool):List UInt8:=zj (ch (qy t nl).1) (qy t nl).2
def qm(acc:List UInt8):List UInt8->List UInt8|[]=>nj acc false|c::r=>if c=10 then nj acc true++qm [] r else qm (acc++[c]) r
def qy8(l:List UInt8)(h:∀c,l.getLast? = some c->bl c=false):ch l=l:=by
 unfold ch
 cases e:l.reverse with
 |nil=>
  have:l=[]:=by simpa using e
  subst this;rfl
 |cons c t=>
  have hc:l.getLast? = some c:=by rw[List.getLast?_eq_head?_reverse,e];rfl
  have:List.dropWhile bl (c::t)=c::t:=by simp[List.dropWhile,h c hc]
  rw[this,← e,List.reverse_reverse]
def wj(u:List UInt8):∀(acc r:List UInt8),(∀x∈u,x≠10)->qm acc (u++r)=qm (acc++u) r:=by
 induction u with
 |nil=>intro acc r _;simp|cons x u ih=>
  intro acc r h;rw[wK,qm,qW (h x qH),ih _ _ (fun y hy=>h y (qE _ hy))]
  simp
structure Un(acc out:List UInt8)(sp:Bool):Prop where
 dec:∀rest,dq (acc++rest)=out++dq rest
 no:acc.getLast? ≠ some 61
 nb:sp=false->∀c,acc.getLast? = some c->bl c=false
def qpn:Un [] [] false:=⟨fun _=>rfl,by simp,fun _ c h=>by cases h⟩
def qo9(x:UInt8)(e:Bool):Bool:=match sgn x e with|[y]=>y==x&&y != 61&&(!e || !bl y)|[y,a,b]=>y==61&&hx a b==some x&&b != 61 && !bl b|_=>false
def zr8:∀n:_root_.Fin 256,∀e:Bool,qo9 (UInt8.ofNat n.val) e=true:=by decide +kernel
def zr9(x:UInt8)(e:Bool):qo9 x e=true:=iv (fun c=>∀e,qo9 c e=true) zr8 x e
def qpo{acc out:List UInt8}{sp:Bool}(h:Un acc out sp)(x:UInt8)(e:Bool):Un (acc++sgn x e) (out++[x]) (!e):=by
 have hb:=zr9 x e;unfold qo9 at hb;split at hb
 ·rename_i y hy;simp only[qA,beq_iff_eq,bne_iff_ne,ne_eq,Bool.or_eq_true,Bool.not_eq_true']at hb;obtain⟨⟨h1,h2⟩,h3⟩:=hb;rw[hy];subst h1;refine⟨fun rest => ?_,by simpa using h2,fun q c hc => ?_⟩
  ·rw[qS,h.dec,wM,qwu _ _ h2];simp
  ·have:y=c:=by simpa using hc
   subst this;rcases h3 with h3|h3
   ·rw[h3]at q;cases q
   ·exact h3
 ·rename_i y a b hy;simp only[qA,beq_iff_eq,bne_iff_ne,ne_eq,Bool.not_eq_true']at hb;obtain⟨⟨⟨h1,h2⟩,h3⟩,h4⟩:=hb;rw[hy];subst h1;refine⟨fun rest => ?_,by simpa using h3,fun q c hc => ?_⟩
  ·rw[qS,h.dec,wK,wK,wK,List.nil_append,zld _ _ _ _ h2];simp
  ·have:b=c:=by simpa using hc
   subst this;exact h4
 ·cases hb
def qpa(x:UInt8)(e:Bool):∀c∈sgn x e,c≠10:=fun c hc=>(zsa x e c hc).2.2.1
def zdh{acc out:List UInt8}{sp:Bool}(h:Un acc out sp)(r:List UInt8):qm acc ([61,13,10]++r)=out++qm [] r:=by
 rw[show([61,13,10]:List UInt8)++r=[61,13]++10::r from rfl,wj _ _ _ (by decide),qm,qX rfl]
 have e1:qy (acc++[61,13]) true=(acc++[61],[13,10]):=by
  unfold qy;rw[qX rfl,qX]
  rw[show acc++[61,13]=(acc++[61])++[13] by simp,List.dropLast_concat]
 have e2:ch (acc++[61])=acc++[61]:=qy8 _ (fun c hc=>by
  have:61=c:=by simpa using hc
  subst this;rfl)
 have e3:dq acc=out:=by
  have:=h.dec [];simpa [dq] using this
 unfold nj zj;rw[e1,e2,qX,List.dropLast_concat,e3]
def zt2{acc out:List UInt8}(h:Un acc out false)(r:List UInt8):qm acc (13::10::r)=out++[13,10]++qm [] r:=by
 rw[show(13:UInt8)::10::r=[13]++10::r from rfl,wj _ _ _ (by decide),qm,qX rfl]
 have e1:qy (acc++[13]) true=(acc,[13,10]):=by
  unfold qy;rw[qX rfl,qX,List.dropLast_concat]
 have e3:dq acc=out:=by
  have:=h.dec [];simpa [dq] using this
 unfold nj zj;rw[e1,qy8 _ (h.nb rfl),qW h.no,e3]
def qpm{acc out:List UInt8}(h:Un acc out false):qm acc []=out:=by
 have e3:dq acc=out:=by
  have:=h.dec [];simpa [dq] using this
 unfold qm nj zj qy;simp only[wJ,if_false];rw[qy8 _ (h.nb rfl),qW h.no,e3,List.append_nil]
def zqn:∀(n:Nat)(s acc out:List UInt8)(sp:Bool)(c:Nat),s.length<=n->Un acc out sp->(sp=true->s≠[]/\isL s=false)->qm acc (qe c s)=out++s:=by
 intro n
 induction n with
 |zero=>
  intro s acc out sp c h hu hs;have:s=[]:=List.eq_nil_of_length_eq_zero (by omega)
  subst this
  cases sp with|true=>exact absurd rfl (hs rfl).1|false=>rw[qe,qpm hu];simp
 |succ n ih=>
  intro s acc out sp c h hu hs
  match s with
  |[]=>
   cases sp with|true=>exact absurd rfl (hs rfl).1|false=>rw[qe,qpm hu];simp
  |[x]=>
   rw[qe];by_cases k:76<c+(sgn x true).length
   ·rw[qX k,zdh hu];have:=wj (sgn x true) [] [] (qpa x true);rw[List.append_nil,List.nil_append]at this;rw[this];have u:=qpo qpn x true;rw[List.nil_append,List.nil_append]at u;rw[qpm u]
   ·rw[qW k,List.nil_append];have:=wj (sgn x true) acc [] (qpa x true);rw[List.append_nil]at this;rw[this,qpm (qpo hu x true)]
  |x::d::r=>
   simp only[qL]at h;rw[qe];by_cases k:x=13/\d=10
   ·rw[qX k];obtain⟨rfl,rfl⟩:=k
    cases sp with
    |true=>have:=(hs rfl).2;simp[isL]at this|false=>
     rw[zt2 hu,ih r [] [] false 0 (by omega) qpn (fun q=>by cases q)]
     simp
   ·rw[qW k];have side:(!isL (d::r))=true->d::r≠[]/\isL (d::r)=false:=fun q=>⟨by simp,by simpa using q⟩
    by_cases q:(if isL (d::r)=true then 76 else 75)<c+(sgn x (isL (d::r))).length
    ·rw[qX q,qS,zdh hu,wj _ _ _ (qpa x _),List.nil_append];have u:=qpo qpn x (isL (d::r));rw[List.nil_append,List.nil_append]at u;rw[ih (d::r) _ _ _ _ (by simp;omega) u side]
     simp
    ·rw[qW q,wj _ _ _ (qpa x _),ih (d::r) _ _ _ _ (by simp;omega) (qpo hu x (isL (d::r))) side]
     simp
def zqo(b:List UInt8):qm [] (qe 0 b)=b:=by
 rw[zqn b.length b [] [] false 0 (wF _) qpn (fun q=>by cases q),List.nil_append]
end Go.Sym.Tr
namespace Go.Sym.Tr
def qv5:∀n:_root_.Fin 256,sh (UInt8.ofNat n.val)=some ((hv (UInt8.ofNat n.val)).getD 0,(hv (UInt8.ofNat n.val)).isSome):=by decide +kernel
def qv6(c:UInt8):sh c=some ((hv c).getD 0,(hv c).isSome):=iv (fun c=>sh c=some ((hv c).getD 0,(hv c).isSome)) qv5 c
def qxk:∀n:_root_.Fin 256,(hv (UInt8.ofNat n.val)).all (fun x=>decide (x.toNat<16))=true:=by decide +kernel
def qhm(c x:UInt8)(h:hv c=some x):x.toNat<16:=by
 have:=iv (fun c=>(hv c).all (fun x=>decide (x.toNat<16))=true) qxk c
 rw[h]at this;simpa using this
def qzv:∀x y:_root_.Fin 16,(me (UInt8.ofNat x.val) (min (4:Int).toNat 8))|||UInt8.ofNat y.val=16*UInt8.ofNat x.val+UInt8.ofNat y.val/\jy (af ((af ((16:Int)*((UInt8.ofNat x.val).toNat:Int)))+((UInt8.ofNat y.val).toNat:Int)))=16*UInt8.ofNat x.val+UInt8.ofNat y.val:=by decide +kernel
def qzu(x y:UInt8)(hx1:x.toNat<16)(hy1:y.toNat<16):(me x (min (4:Int).toNat 8))|||y=16*x+y/\jy (af ((af ((16:Int)*(x.toNat:Int)))+(y.toNat:Int)))=16*x+y:=by
 have:=qzv ⟨x.toNat,hx1⟩ ⟨y.toNat,hy1⟩;simpa using this
def np:List UInt8->Option UInt8|a::b::_=>hx a b|_=>none
def q6u(r:List UInt8):dq (61::r)=match np r with|some x=>x::dq (r.drop 2)|none=>61::dq r:=by
 match r with
 |[]=>rfl|[_]=>rfl|a::b::t=>
  rw[dq,qX rfl];show _=match hx a b with|some x=>x::dq t|none=>61::dq (a::b::t)
  cases hx a b<;>rfl
def qym(r:List UInt8):∃v,sj (r.take 2)=some (v,(np r).isSome)/\∀x,np r=some x->v=x:=by
 match r with
 |[]=>exact⟨0,rfl,fun x h=>by cases h⟩
 |[_]=>exact⟨0,rfl,fun x h=>by cases h⟩
 |a::b::t=>
  have e:sj ((a::b::t).take 2)=some ((me ((hv a).getD 0) (min (4:Int).toNat 8))|||(hv b).getD 0,(hv a).isSome&&(hv b).isSome):=by
   unfold sj;rw[au,show(a::b::t).take 2=[a,b] from rfl,show am [a,b] 0=some a from rfl,show am [a,b] 1=some b from rfl]
   simp only[qB,qv6];cases (hv a).isSome<;>rfl
  rw[e,show np (a::b::t)=hx a b from rfl]
  unfold hx
  cases ha:hv a with
  |none=>exact⟨_,rfl,fun x h=>by cases h⟩
  |some x=>
   cases hb:hv b with
   |none=>exact⟨_,rfl,fun x h=>by cases h⟩
   |some y=>
    refine⟨_,rfl,fun z h => ?_⟩
    have hz:16*x+y=z:=by simpa using h
    rw[← hz];exact(qzu x y (qhm a x ha) (qhm b y hb)).1
def zte(ab:List UInt8)(c:UInt8)(r:List UInt8)(hb:ab.length+r.length<1000000000:=by omega) :
  List.take ((if(List.length (ab++c::r):Int)<af ((ab.length:Int)+(3:Int)) then(List.length (ab++c::r):Int) else af ((ab.length:Int)+(3:Int))).toNat-(((ab.length+1:Nat):Int)).toNat) (List.drop (((ab.length+1:Nat):Int)).toNat (ab++c::r))=r.take 2:=by
 rw[vg,cm]
 have hl:((ab++c::r).length:Int)=(ab.length:Int)+1+(r.length:Int):=by simp;omega
 rw[hl];by_cases q:(ab.length:Int)+1+(r.length:Int)<(ab.length:Int)+3
 ·rw[qX q,List.take_of_length_le (by omega),List.take_of_length_le (by omega)]
 ·rw[qW q,show((ab.length:Int)+3).toNat-(((ab.length+1:Nat):Int)).toNat=2 by omega]
def zpu(fu n:Nat):∀(ab aa out:List UInt8),aa.length<n->ab.length+aa.length<1000000000->out.length+aa.length<=2000000000 ->
  ye fu n (ab++aa) (ab.length:Int) out=some (out++dq aa):=by
 induction n with
 |zero=>intro ab aa out h;omega|succ n ih=>
  intro ab aa out h hb ho
  cases aa with
  |nil=>rw[ye,qlg,au];simp[dq]|cons c r=>
   simp only[qL]at h hb ho;have one:ye fu n (ab++c::r) ((ab.length+1:Nat):Int) (out++[c])=some (out++c::dq r):=by
    have:=ih (ab++[c]) r (out++[c]) (by omega) (by simp;omega) (by simp;omega)
    simpa using this
   rw[ye,qlg,ag,bt]
   simp only[qB];rw[ay _,kg]
   by_cases q:c=61
   ·subst q;have hl:((ab++61::r).length:Int)=(ab.length:Int)+1+(r.length:Int):=by simp;omega
    have e3:af ((ab.length:Int)+3)=(ab.length:Int)+3:=cm
    rw[qX rfl,zte _ _ _,ag (by rw[hl,e3];split<;>omega)]
    obtain⟨v,h1,h2⟩:=qym r;rw[h1,qB,q6u,zjf]
    cases hp:np r with
    |none=>
     rw[qW (by simp),ag (by simp[ax];omega)]
     exact one
    |some x=>
     have hv:=h2 x hp;subst hv
     match r,hp with
     |a::b::t,hp=>
      simp only[qL]at h hb ho;have e2:af (af ((ab.length:Int)+2)+1)=((ab.length+3:Nat):Int):=by rw[cm (x:=(ab.length:Int)+2) (by omega) (by omega),cm];omega
      rw[qX (show(v,(some v).isSome).snd=true from rfl),ag (by simp[ax];omega),e2]
      have:=ih (ab++[61,a,b]) t (out++[v]) (by omega) (by simp;omega) (by simp;omega)
      simpa using this
   ·rw[qW q,ag (by simp[ax];omega),one,qwu _ _ q]
def zpt(fu:Nat)(s:List UInt8)(h:s.length<fu:=by omega)(hb:s.length<1000000000:=by omega):qs5 fu s=some (dq s):=by
 have:=zpu fu fu [] s [] h (by simpa using hb) (by simp;omega)
 rw[List.nil_append,List.nil_append]at this;exact this
end Go.Sym.Tr
namespace Go.Sym.Tr
def lg(n:Nat)(h:n<1000000000):af (((n+1:Nat):Int)-1)=(n:Int):=by rw[cm];omega
def qcu{α:Type}(t:List α)(c:α):am (t++[c]) (t.length:Int)=some c:=bt t c []
def wu{α:Type}(t:List α)(c:α):List.take ((t.length:Nat):Int).toNat (t++[c])=t:=by simp
def kp{α:Type}(t:List α)(c:α):((t++[c]).length:Int)=((t.length+1:Nat):Int):=by simp
def qc6(t:List UInt8)(c:UInt8):ch (t++[c])=if bl c then ch t else t++[c]:=by
 unfold ch;rw[List.reverse_append,List.reverse_singleton,wM,List.dropWhile];cases bl c
 ·simp
 ·simp
def y5:List Bool:=((List.replicate 256 false).set 32 true).set 9 true
def zix(n:Nat):qrh (n+3) [32,9]=some (y5,true):=by kernel_rfl
def zkp:∀n:_root_.Fin 256,y5[(UInt8.ofNat n.val).toNat]? = some (bl (UInt8.ofNat n.val)):=by decide +kernel
def qg5(c:UInt8):qkb c y5=some (bl c,y5):=by
 unfold qkb;rw[iv (fun c=>y5[c.toNat]? = some (bl c)) zkp c,qB]
def qpk(fu n:Nat):∀(s:List UInt8),s.length<n->s.length<1000000000->qei fu n s y5=some (ch s,y5):=by
 induction n with
 |zero=>intro s h;omega|succ n ih=>
  intro s h hb;rw[qei,qro];rcases List.eq_nil_or_concat s with rfl|⟨t,c,rfl⟩
  ·rw[au];rfl
  ·rw[List.concat_eq_append]at *;simp only[qM,qL,qZ]at h hb;rw[kp,ag,lg _ (by omega),qcu,qB,qg5,qB,wu,ag,ih t (by omega) (by omega),qc6]
   cases bl c<;>rfl
def qis(fu:Nat)(hfu:3<=fu)(s:List UInt8)(h:s.length<fu)(hb:s.length<1000000000):qj8 fu s [32,9]=some (ch s):=by
 unfold qj8;rw[fe]
 cases s with
 |nil=>rfl|cons c s=>
  rw[qW (by simp;omega)]
  unfold qj9;rw[a7 (by decide)]
  unfold qrd;rw[a7 (by decide)]
  unfold qka;rw[a7 rfl];unfold qre;obtain⟨n,rfl⟩:∃n,fu=n+3:=⟨fu-3,by omega⟩
  rw[zix n,qB,a8 (by decide +kernel),a8 rfl]
  unfold qrn;rw[qpk _ _ _ h hb];rfl
def q76(s:List UInt8)(k:UInt8)(hb:s.length<1000000000:=by omega):qa0 s [k]=some (decide (s.getLast? = some k)):=by
 unfold qa0 qeg;rcases List.eq_nil_or_concat s with rfl|⟨t,c,rfl⟩
 ·rw[au];rfl
 ·rw[List.concat_eq_append]at *;simp only[qM,qL,qZ]at hb;rw[kp,show(([k]:List UInt8).length:Int)=1 from rfl,lg _ (by omega),ag,ag,qB]
  have e:List.drop ((t.length:Nat):Int).toNat (t++[c])=[c]:=pd t [c];rw[e,List.getLast?_concat];congr 1;rw[Bool.eq_iff_iff];simp
def qit(s:List UInt8)(k:UInt8)(hb:s.length<1000000000):up s [k]=some (if s.getLast? = some k then s.dropLast else s):=by
 unfold up;rw[q76 s k hb,qB,cd];by_cases q:s.getLast? = some k
 ·rw[qX q,qX q];rcases List.eq_nil_or_concat s with rfl|⟨t,c,rfl⟩
  ·cases q
  ·rw[List.concat_eq_append]at *;simp only[qM,qL,qZ]at hb;rw[kp,show(([k]:List UInt8).length:Int)=1 from rfl,lg _ (by omega),ag,wu,List.dropLast_concat]
 ·rw[qW q,qW q]
def zg(t r:List UInt8)(h:∀x∈t,x≠10):Lib.indexByte (t++10::r) 10=(t.length:Int):=by
 induction t with
 |nil=>rfl|cons c t ih=>
  have hc:=h c qH;rw[wK,Lib.indexByte,ih (fun x hx=>h x (qE _ hx)),qW (by simpa using hc),qW (by simp<;>omega)]
  simp
def zh(t:List UInt8)(h:∀x∈t,x≠10):Lib.indexByte t 10 = -1:=by
 induction t with
 |nil=>rfl|cons c t ih=>
  have hc:=h c qH;rw[Lib.indexByte,ih (fun x hx=>h x (qE _ hx)),qW (by simpa using hc),qX (by decide)]
def zcl:∀(s:List UInt8),(∃t r,s=t++10::r/\∀x∈t,x≠10)\/∀x∈s,x≠10
 |[] => .inr (fun _ h=>by cases h)
 |c::s=>by
  by_cases k:c=10
  ·exact .inl ⟨[],s,by rw[k];rfl,fun _ h=>by cases h⟩
  ·rcases zcl s with⟨t,r,rfl,h⟩|h
   ·exact .inl ⟨c::t,r,rfl,fun x hx=>by
     rcases List.mem_cons.1 hx with rfl|hx
     ·exact k
     ·exact h x hx⟩
   ·exact .inr (fun x hx=>by
     rcases List.mem_cons.1 hx with rfl|hx
     ·exact k
     ·exact h x hx)
def zqm(t r:List UInt8)(h:∀x∈t,x≠10):qm [] (t++10::r)=nj t true++qm [] r:=by
 rw[wj t [] _ h,List.nil_append,qm,qX rfl]
def zql(t:List UInt8)(h:∀x∈t,x≠10):qm [] t=nj t false:=by
 have:=wj t [] [] h;rw[List.append_nil,List.nil_append]at this;rw[this];rfl
def qwv:∀(n:Nat)(s:List UInt8),s.length<=n->(dq s).length<=s.length:=by
 intro n
 induction n with
 |zero=>intro s h;have:s=[]:=List.eq_nil_of_length_eq_zero (by omega);subst this;exact wF _|succ n ih=>
  intro s h
  match s with
  |[]=>exact wF _|c::r=>
   simp only[qL]at h;have h1:=ih r (by omega)
   by_cases k:c=61
   ·subst k;rw[q6u]
    cases np r with
    |none=>simp only[qL];omega|some x=>
     have h2:=ih (r.drop 2) (by simp;omega)
     simp only[qL,List.length_drop]at h2 ⊢;omega
   ·rw[qwu _ _ k];simp only[qL];omega
def wm(s:List UInt8):(ch s).length<=s.length:=by
 unfold ch;rw[List.length_reverse];have:=(List.dropWhile_sublist bl (l:=s.reverse)).length_le;simpa using this
def qx1(fu:Nat)(hfu:3<=fu)(r0:List UInt8->(Int×Int)->List UInt8->Option ((Int×Int)×List UInt8))(u e r:List UInt8)(m16:Int×Int)(out:List UInt8)(h:u.length<fu)(hb:u.length+e.length+r.length<1000000000)(ho:out.length+u.length+e.length<=2000000000) :
  qfs fu r0 (u++e++r) ((u.length+e.length:Nat):Int) u m16 out=r0 r m16 (out++zj (ch u) e):=by
 unfold qfs;have hl:=wm u;have p3:∀v e',v.length<=u.length->e'.length<=e.length->qft fu r0 (u++e++r) ((u.length+e.length:Nat):Int) v e' m16 out=r0 r m16 (out++(dq v++e')):=by
  intro v e' hv he;have hd:=qwv _ v (wF _);unfold qft;rw[zpt fu v,qB,ag (by simp[ax];omega),ag (by simp[ax];omega),ag]
  have ed:List.drop ((u.length+e.length:Nat):Int).toNat (u++e++r)=r:=by
   have:=pd (u++e) r;rw[qM]at this;exact this
  rw[ed,qS]
 rw[ag,qis fu hfu u h (by omega),qB,ag,q76 _ _,qB,cd]
 unfold zj;by_cases q:(ch u).getLast? = some 61
 ·rw[qX q,qX q];revert hl q;rcases List.eq_nil_or_concat (ch u) with e0|⟨t,c,e0⟩
  ·intro _ q;rw[e0]at q;cases q
  ·rw[e0,List.concat_eq_append];intro hl q;simp only[qM,qL,qZ]at hl;rw[kp,lg _ (by omega),ag,wu,List.dropLast_concat,p3 t [] (by omega) (by simp),List.append_nil]
 ·rw[qW q,qW q];have et:List.take (((u.length+e.length:Nat):Int).toNat-(u.length:Int).toNat) (List.drop (u.length:Int).toNat (u++e++r))=e:=by
   rw[qS,pd,show((u.length+e.length:Nat):Int).toNat-(u.length:Int).toNat=e.length by omega]
   simp
  rw[et,p3 (ch u) e hl (wF _)]
def zn4(fu:Nat)(hfu:3<=fu)(r0:List UInt8->(Int×Int)->List UInt8->Option ((Int×Int)×List UInt8))(t r:List UInt8)(m16:Int×Int)(out:List UInt8)(h:t.length<fu:=by omega)(hb:t.length+r.length+2<1000000000:=by omega)(ho:out.length+t.length+2<=2000000000:=by omega) :
  yd fu r0 (t++10::r) ((t.length+1:Nat):Int) m16 out=r0 r m16 (out++nj t true):=by
 unfold yd;have et:List.take ((t.length+1:Nat):Int).toNat (t++10::r)=t++[10]:=by
  rw[show t++10::r=(t++[10])++r by simp,show((t.length+1:Nat):Int).toNat=(t++[10]).length by simp,List.take_left]
 rw[ag,ag,et,qit _ _ (by simp;omega),qB,qX,List.dropLast_concat,ag,ag,qit _ _ (by omega),qB]
 unfold nj qy;rw[qX rfl];by_cases q:t.getLast? = some 13
 ·rw[qX q,qX q];revert q h hb ho;rcases List.eq_nil_or_concat t with rfl|⟨u,c,rfl⟩
  ·intro _ _ _ q;cases q
  ·rw[List.concat_eq_append];intro h hb ho q;have:c=13:=by simpa using q
   subst this;simp only[qM,qL,qZ]at h hb ho;rw[List.dropLast_concat];have:=qx1 fu hfu r0 u [13,10] r m16 out (by omega) (by simp;omega) (by simp;omega)
   have e1:(u++[(13:UInt8)]).length+1=u.length+([13,10]:List UInt8).length:=by simp
   have e2:u++[(13:UInt8)]++10::r=u++[13,10]++r:=by simp
   rw[e1,e2];exact this
 ·rw[qW q,qW q];have:=qx1 fu hfu r0 t [10] r m16 out (by omega) (by simp;omega) (by simp;omega)
  simpa using this
def zn3(fu:Nat)(hfu:3<=fu)(r0:List UInt8->(Int×Int)->List UInt8->Option ((Int×Int)×List UInt8))(t:List UInt8)(h10:∀x∈t,x≠10)(m16:Int×Int)(out:List UInt8)(h:t.length<fu)(hb:t.length<1000000000)(ho:out.length+t.length<=2000000000) :
  yd fu r0 t (t.length:Int) m16 out=r0 [] m16 (out++nj t false):=by
 unfold yd;have e1:List.take (t.length:Int).toNat t=t:=by simp
 have hn:t.getLast? ≠ some 10:=by
  intro q;exact h10 10 (List.mem_of_getLast? q) rfl
 rw[ag,ag,e1,qit _ _ hb,qB,qW hn,au]
 have:=qx1 fu hfu r0 t [] [] m16 out h (by simp;omega) (by simp;omega)
 simpa [nj,qy] using this
def lnO_len(t:List UInt8)(nl:Bool):(nj t nl).length<=t.length+nl.toNat:=by
 unfold nj zj qy;have key:∀u e:List UInt8,(if(ch u).getLast? = some 61 then dq (ch u).dropLast else dq (ch u)++e).length<=u.length+e.length:=by
  intro u e;have h1:=wm u;split
  ·have:=qwv _ (ch u).dropLast (wF _);rw[List.length_dropLast]at this;omega
  ·have:=qwv _ (ch u) (wF _);rw[qM];omega
 refine Nat.le_trans (key _ _) ?_
 cases nl with
 |false=>simp|true=>
  rw[qX rfl];by_cases q:t.getLast? = some 13
  ·rw[qX q];have:0<t.length:=by
    cases t with
    |nil=>cases q
    |cons _ _=>simp
   simp;omega
  ·rw[qW q];simp
def zqk(fu n:Nat)(hfu:3<=fu)(m16:Int×Int):∀(s out:List UInt8),s.length<n->s.length<fu->s.length<100000000->out.length+s.length<=1000000000 ->
  qfr fu n s m16 out=some ((0,0),out++qm [] s):=by
 induction n with
 |zero=>intro s out h;omega|succ n ih=>
  intro s out h hf hb ho;rw[qfr,qs4];rcases zcl s with⟨t,r,rfl,h10⟩|h10
  ·simp only[qM,qL]at h hf hb ho;have ac:=lnO_len t true;simp only[Bool.toNat_true]at ac;rw[ag,show sk (t++10::r) 10=some (Lib.indexByte (t++10::r) 10) from rfl,qB,zg t r h10,ay _,fe,qW (by omega)]
   rw[zn4 fu hfu _ t r m16 out,ih r _ (by omega) (by omega) (by omega) (by rw[qM];omega),zqm t r h10,qS]
  ·cases s with
   |nil=>rw[au];simp[ci,show qm [] []=[] from rfl]|cons c s=>
    have ac:=lnO_len (c::s) false;simp only[Bool.toNat_false]at ac;rw[ag (by simp<;>omega),show sk (c::s) 10=some (Lib.indexByte (c::s) 10) from rfl,qB,zh _ h10,fe,qX (by decide)]
    rw[zn3 fu hfu _ (c::s) h10 m16 out hf (by omega) (by omega)]
    have hn:0<n:=by simp only[qL]at h;omega
    rw[ih [] _ (by simpa using hn) (by simp;omega) (by simp) (by rw[qM];simp only[qZ];omega),zql _ h10]
    have:qm [] []=[]:=rfl;rw[this,List.append_nil]
def zqj(fu:Nat)(s:List UInt8)(hf:s.length+3<fu:=by omega)(hb:s.length<=48000:=by omega):qlf fu s=some ((0,0),qm [] s):=by
 unfold qlf;rw[au]
 have:=zqk fu fu (by omega) (0,0) s [] (by omega) (by omega) (by omega) (by simp;omega)
 rw[List.nil_append]at this;exact this
end Go.Sym.Tr
namespace Go.Sym.Tr
end Go.Sym.Tr
namespace Go.Sym.Tr
def decR(b name:List UInt8):(Int×Int)×List UInt8:=
 if gy name = -1 then((18,-3),[]) else if 12000<b.length then((1,-1),[]) else
 if gy name=0 then((0,0),b) else if gy name=1 then((0,0),b) else
 if gy name=2 then((0,0),by8 (dbits b)) else((0,0),qm [] b)
def decode_eq(fu:Nat)(b name:List UInt8)(hf:100000+name.length<fu)(hn:name.length<=maxLen):qgd fu b name=some (decR b name):=by
 unfold qgd qgg;rw[q7e fu name (by omega) (by omega) hn]
 simp only[qB,bn,ci,c7];unfold decR;rcases qm4 name with h|h|h|h|h<;>rw[h]
 ·by_cases hl:12000<b.length
  ·have hi:(12000:Int)<(b.length:Int):=by omega
   simp[bh,hl,hi]
  ·have hi:¬(12000:Int)<(b.length:Int):=by omega
   simp[bh,hl,hi,qwo b]
 ·by_cases hl:12000<b.length
  ·have hi:(12000:Int)<(b.length:Int):=by omega
   simp[bh,hl,hi]
  ·have hi:¬(12000:Int)<(b.length:Int):=by omega
   simp[bh,hl,hi,qwo b]
 ·by_cases hl:12000<b.length
  ·have hi:(12000:Int)<(b.length:Int):=by omega
   simp[bh,hl,hi]
  ·have hi:¬(12000:Int)<(b.length:Int):=by omega
   simp[bh,hl,hi,znz fu b]
 ·by_cases hl:12000<b.length
  ·have hi:(12000:Int)<(b.length:Int):=by omega
   simp[bh,hl,hi]
  ·have hi:¬(12000:Int)<(b.length:Int):=by omega
   simp[bh,hl,hi,zqj fu b]
 ·simp[bh]
def dec_enc(b name:List UInt8)(h0:(encR b name).1.1=0)(hl:(encR b name).2.length<=12000):decR (encR b name).2 name=((0,0),b):=by
 revert h0 hl;unfold encR;rcases qm4 name with h|h|h|h|h<;>rw[h]
 ·by_cases k:12000<b.length
  ·simp[k]
  ·by_cases q:0<=px b false
   ·simp[k,q]
   ·simp[k,q,decR,h]
 ·by_cases k:12000<b.length
  ·simp[k]
  ·by_cases q:0<=px b true
   ·simp[k,q]
   ·simp[k,q,decR,h]
 ·by_cases k:12000<b.length
  ·simp[k]
  ·intro _ hl;simp[k]at hl;have hl':¬12000<(lines76 (e64 b)).length:=by omega
   simp[k,decR,h,hl',zj2]
 ·by_cases k:12000<b.length
  ·simp[k]
  ·intro _ hl;simp[k]at hl;have hl':¬12000<(qe 0 b).length:=by omega
   simp[k,decR,h,hl',zqo]
 ·simp
def enc_fault(b name:List UInt8)(h0:(encR b name).1.1≠0):(encR b name).2=[]:=by
 revert h0;unfold encR;rcases qm4 name with h|h|h|h|h<;>rw[h]
 ·by_cases k:12000<b.length
  ·simp[k]
  ·by_cases q:0<=px b false<;>simp[k,q]
 ·by_cases k:12000<b.length
  ·simp[k]
  ·by_cases q:0<=px b true<;>simp[k,q]
 ·by_cases k:12000<b.length<;>simp[k]
 ·by_cases k:12000<b.length<;>simp[k]
 ·simp
end Go.Sym.Tr
namespace Go.Sym
-- lengths
def zj3:∀(n:Nat)(l:List Nat),l.length<=n->(Tr.by8 l).length<=l.length:=by
 intro n
 induction n with
 |zero=>intro l h;have:l=[]:=List.eq_nil_of_length_eq_zero (by omega);subst this;simp[Tr.by8]|succ n ih=>
  intro l h;by_cases h8:l.length<8
  ·rw[Tr.by8_short l h8];simp
  ·match l,h,h8 with
   |a::b::c::d::e::f::g::k::r,h,_=>
    rw[Tr.by8];have:=ih r (by simp only[qL]at h;omega)
    simp only[qL];omega
   |[],_,h8=>exact absurd (by simp) h8|[_],_,h8=>exact absurd (by simp) h8|[_,_],_,h8=>exact absurd (by simp) h8|[_,_,_],_,h8=>exact absurd (by simp) h8|[_,_,_,_],_,h8=>exact absurd (by simp) h8|[_,_,_,_,_],_,h8=>exact absurd (by simp) h8|[_,_,_,_,_,_],_,h8=>exact absurd (by simp) h8|[_,_,_,_,_,_,_],_,h8=>exact absurd (by simp) h8
def q6m:∀l:Bs,(Tr.dbits l).length<=6*l.length
 |[]=>by simp[Tr.dbits]|c::r=>by
  have:=q6m r;rw[Tr.dbits];split
  ·simp
  ·split
   ·simp only[qL];omega
   ·have h6:∀v,(Tr.six v).length=6:=fun v=>rfl
    rw[qM,h6,qL];omega
def qyz:∀(l acc:Bs),(Tr.qm acc l).length<=acc.length+l.length
 |[],acc=>by rw[Tr.qm];have:=Tr.lnO_len acc false;simp only[Bool.toNat_false]at this;simp only[qZ];omega|c::r,acc=>by
  rw[Tr.qm];split
  ·have h1:=Tr.lnO_len acc true;have h2:=qyz r [];simp only[Bool.toNat_true]at h1;simp only[qZ]at h2;rw[qM,qL];omega
  ·have:=qyz r (acc++[c]);rw[qM,wD]at this;rw[qL];omega
def q6r(b name:Bs)(h:b.length<=12000):(Tr.decR b name).2.length<=72000:=by
 unfold Tr.decR;split
 ·simp
 ·split
  ·simp
  ·split
   ·simp only;omega
   ·split
    ·simp only;omega
    ·split
     ·have h1:=zj3 _ (Tr.dbits b) (wF _);have h2:=q6m b;simp only;omega
     ·have:=qyz b [];simp only[qZ]at this;simp only;omega
def qwn(b:Bs)(h:b.length<=12000):∀vs:List Bs,(jt Tr.decR vs b).length<=72000
 |[]=>q6r b _ h|v::vs=>by
  rw[jt];split
  ·exact q6r b _ h
  ·exact qwn b h vs
def q5k(b:Bs):(oc b).length<=4*b.length+100:=by
 have h1:=qv4 (qz (b.length+1) b) 0;have h2:∀(n:Nat)(s:Bs),s.length<n->((qz n s).map fun l=>l.length+2).sum<=s.length+2:=by
  intro n
  induction n with
  |zero=>intro s h;omega|succ n ih=>
   intro s h;rw[qz]
   cases hc:(cv s).2 with
   |none=>
    obtain⟨e,_⟩:=q6e s hc;simp only[List.map_cons,List.map_nil,List.sum_cons,List.sum_nil];have:=congrArg List.length e;omega
   |some r=>
    have hl:=qm7 s r hc;have:=ih r (by omega)
    simp only[List.map_cons,List.sum_cons];omega
 have h3:=h2 (b.length+1) b (by omega)
 unfold oc;omega
def q69(x:aq):(tn x).length<=x.1.length+x.2.length+3:=by
 have:=qih x.2;unfold tn;simp only[qM,wC,qL,qZ];omega
def q68(M:Nat):∀l:List aq,(∀x∈l,x.1.length+x.2.length<=M)->(ffl l).length<=(M+3)*l.length
 |[],_=>by simp[ffl]|x::l,h=>by
  have ih:=q68 M l fun y hy=>h y (qE _ hy)
  have h1:=h x qH;have h2:=q69 x;unfold ffl at ih ⊢;rw[List.filter_cons,qL,Nat.mul_succ];split
  ·rw[List.flatMap_cons,qM];omega
  ·omega
def q6o:∀(k n:Nat),n<10 ^ (k+1)->(Lib.decDigits n).length<=k+1
 |0,n,h=>by
  rw[Lib.decDigits];split
  ·simp
  ·rename_i q;exact absurd h (by simpa using q)
 |k+1,n,h=>by
  rw[Lib.decDigits];split
  ·simp
  ·have:=q6o k (n/10) (by rw[Nat.div_lt_iff_lt_mul (by omega)];rw[Nat.pow_succ]at h;exact h)
   simp only[qM,wD];omega
def qck(n:Nat)(h:n<10000000000:=by omega):(Lib.decDigits n).length<=10:=q6o 9 n (by simpa using h)
-- the content of a part
def zkr(fu n:Nat)(hfu:90000000<=fu)(t:TP):∀(ab aa:List aq),aa.length<n->ab.length+aa.length<100000000->(∀x∈aa,x.1.length<=4000000/\x.2.length<=4000000) ->
  qgh fu n (ab++aa) ((ab.length+aa.length:Nat):Int) (ab.length:Int) t=some (jt Tr.decR (b9 aa da) t.val.2):=by
 induction n with
 |zero=>intro ab aa h;omega|succ n ih=>
  intro ab aa h hb hs;rw[qgh,quw];simp only[fk]
  cases aa with
  |nil=>
   rw[au,Tr.decode_eq fu t.val.2 _ (by simp;omega) (by simp[maxLen]),qB]
   rfl
  |cons y aa=>
   simp only[qL]at h hb;obtain⟨y1,y2⟩:=hs y qH;rw[ag (by simp only[qL];omega),bt,qB,l8 fu hfu _ _ y1 (by simp),qB,ay _,w3]
   have ih:=ih (ab++[y]) aa (by omega) (by simp;omega) (fun x hx=>hs x (qE _ hx))
   simp only[qM,qL,qZ,qS,wM,wO]at ih;rw[show ab.length+(y::aa).length=ab.length+1+aa.length by simp only[qL];omega]
   cases e:lk y.1 da
   ·rw[d5,qW (by show ¬lk y.1 da=true;rw[e];simp)]
    exact ih
   ·rw[de,qX (show(y.1.map lo==da.map lo)=true from e),Tr.decode_eq fu t.val.2 y.2 (by omega) (by simp only[maxLen];omega),qB,dt,jt]
    by_cases h18:(Tr.decR t.val.2 y.2).1.1≠18
    ·rw[qX h18,qX h18]
    ·rw[qW h18,qW h18];exact ih
def zkq(fu:Nat)(hfu:90000000<=fu)(t:TP)(hl:t.val.1.length<=4000000)(hs:∀x∈t.val.1,x.1.length<=4000000/\x.2.length<=4000000):ql6 fu t=some (jt Tr.decR (b9 t.val.1 da) t.val.2):=by
 unfold ql6;simp only[fk];have:=zkr fu fu hfu t [] t.val.1 (by omega) (by simp;omega) hs
 simpa using this
def Fo(t:TP):Prop:=t.val.1.length<=60/\(∀x∈t.val.1,x.1.length<=60/\x.2.length<=4000)/\(t.kids.length=0->t.val.2.length<=12000)/\t.kids.length<=100000000
def Fo.text{t:TP}(h:Fo t):(f9 Tr.decR t).length<=300000:=by
 unfold f9;split
 ·rename_i hk;have h1:=q5k (jt Tr.decR (b9 t.val.1 da) t.val.2);have h2:=qwn t.val.2 (h.2.2.1 hk) (b9 t.val.1 da);omega
 ·simp
def Fo.ffl{t:TP}(h:Fo t):(ffl t.val.1).length<=300000:=by
 have h1:=q68 4060 t.val.1 fun x hx=>by have:=h.2.1 x hx;omega
 have:=h.1;have h2:(4060+3)*t.val.1.length<=(4060+3)*60:=Nat.mul_le_mul_left _ this;omega
def qxp(n:Nat)(h:n<=90000000000000000:=by omega):mh (n:Int)=some (Lib.decDigits n):=by
 unfold mh;rw[ag,qxr]
def q7w(fu:Nat)(t:TP)(x out fl:Bs)(hk:t.kids.length<=100000000)(hx:x.length<=1000000)(hf:fl.length<=1000000)(ho:out.length<=1000000000) :
  qej fu t x out fl=some (out++((Lib.decDigits t.kids.length++[32]++Lib.decDigits fl.length++[32]++Lib.decDigits x.length++[13,10])++fl++x)):=by
 have d1:=qck t.kids.length
 have d2:=qck fl.length
 have d3:=qck x.length
 unfold qej;rw[qxp _,qB,ag (by simp only[bc,qL,qZ];omega),qxp _,qB,
  ag (by simp only[bc,qM,qL,qZ];omega),ag (by simp only[bc,qM,qL,qZ];omega),qxp _,qB,
  ag (by simp only[bc,qM,qL,qZ];omega),ag (by simp only[bc,qM,qL,qZ];omega),
  ag (by simp only[ax,qM,qL,qZ];omega),ag (by simp only[ax,qM,qL,qZ];omega),ag (by simp only[ax,qM,qL,qZ];omega)]
 simp only[qS]
def zlx(y:aq)(l:List aq):ffl (y::l)=if vp y=true then tn y++ffl l else ffl l:=by
 unfold ffl;rw[List.filter_cons];split
 ·rw[List.flatMap_cons]
 ·rfl
def zmb(fu n:Nat)(hfu:90000000<=fu)(t:TP)(ht:Fo t)(out:Bs)(ho:out.length<=1000000000):∀(ab aa:List aq)(fl:Bs),aa.length<n->ab.length+aa.length<=60->(∀x∈aa,x.1.length<=60/\x.2.length<=4000)->fl.length+5000*aa.length<=400000 ->
  uq fu n (ab++aa) ((ab.length+aa.length:Nat):Int) (ab.length:Int) t out fl
   = some (out++((Lib.decDigits t.kids.length++[32]++Lib.decDigits (fl++ffl aa).length++[32]++Lib.decDigits (f9 Tr.decR t).length++[13,10])++(fl++ffl aa)++f9 Tr.decR t)):=by
 obtain⟨t1,t2,t3,t4⟩:=ht
 induction n with
 |zero=>intro ab aa fl h;omega|succ n ih=>
  intro ab aa fl h hb hs hf;rw[uq,qru];simp only[fk]
  cases aa with
  |nil=>
   have e:ffl []=[]:=rfl;simp only[qZ]at hf;rw[au,e,List.append_nil]
   by_cases hk:t.kids.length=0
   ·have hx:f9 Tr.decR t=oc (jt Tr.decR (b9 t.val.1 da) t.val.2):=by unfold f9;rw[qX hk]
    have hc:=qwn t.val.2 (t3 hk) (b9 t.val.1 da);have hb2:=q5k (jt Tr.decR (b9 t.val.1 da) t.val.2);rw[fe,qX,zkq fu hfu t (by omega) (fun x hx=>by have:=t2 x hx;omega),qB,zj6 fu _,qB,q7w fu t _ out fl t4 (by omega) (by omega) ho,hx]
   ·have hx:f9 Tr.decR t=[]:=by unfold f9;rw[qW hk]
    rw[fe,qW (by omega),q7w fu t [] out fl t4 (by simp) (by omega) ho,hx]
  |cons y aa=>
   simp only[qL]at h hb hf;obtain⟨y1,y2⟩:=hs y qH;have hff:=q69 y;have ih:=fun fl=>ih (ab++[y]) aa fl (by omega) (by simp;omega) (fun x hx=>hs x (qE _ hx))
   simp only[qM,qL,qZ,qS,wM,wO]at ih;have step:∀fl,fl.length+5000*aa.length<=400000->qek fu (uq fu n) (ab++y::aa) ((ab.length+(y::aa).length:Nat):Int) (ab.length:Int) t fl out
     = some (out++((Lib.decDigits t.kids.length++[32]++Lib.decDigits (fl++ffl aa).length++[32]++Lib.decDigits (f9 Tr.decR t).length++[13,10])++(fl++ffl aa)++f9 Tr.decR t)):=fun fl hfl=>by
    unfold qek;simp only[fk];rw[ay _,show ab.length+(y::aa).length=ab.length+1+aa.length by simp only[qL];omega,ih fl hfl]
    simp only[qM,qS,wK,List.nil_append,wM]
   rw[ag (by simp only[qL];omega),bt,qB,l8 fu hfu _ _ (by omega) (by simp),qB,zlx]
   have p1:xm fu (uq fu n) (ab++y::aa) ((ab.length+(y::aa).length:Nat):Int) (ab.length:Int) true t y out fl
     = some (out++((Lib.decDigits t.kids.length++[32]++Lib.decDigits (fl++(tn y++ffl aa)).length++[32]++Lib.decDigits (f9 Tr.decR t).length++[13,10])++(fl++(tn y++ffl aa))++f9 Tr.decR t)):=by
    unfold xm;simp only[fk];rw[a8 rfl,zj9 fu y hfu ⟨by omega,by omega⟩,qB,show q51 y=tn y from rfl,ag (by simp only[ax,qM];omega),step _ (by rw[qM];omega)]
    simp only[qS]
   have p0:xm fu (uq fu n) (ab++y::aa) ((ab.length+(y::aa).length:Nat):Int) (ab.length:Int) false t y out fl
     = some (out++((Lib.decDigits t.kids.length++[32]++Lib.decDigits (fl++ffl aa).length++[32]++Lib.decDigits (f9 Tr.decR t).length++[13,10])++(fl++ffl aa)++f9 Tr.decR t)):=by
    unfold xm;simp only[fk];rw[a7 rfl,step _ (by omega)]
   cases e:lk y.1 p7
   ·rw[d5,l8 fu hfu _ _ (by omega) (by simp),qB]
    cases e2:lk y.1 da
    ·rw[show(!false)=true from rfl,p1,qX (by unfold vp;rw[e,e2];rfl)]
    ·rw[show(!true)=false from rfl,p0,qW (by unfold vp;rw[e,e2];simp)]
   ·rw[de,p0,qW (by unfold vp;rw[e];simp)]
def zl9(fu:Nat)(hfu:90000000<=fu)(i:Int)(t:TP)(ht:Fo t)(out:Bs)(ho:out.length<=1000000000:=by omega):qkc fu i t.val.1 t.val.2 t.kids out=some (out++ja Tr.decR t):=by
 have h:=zmb fu fu hfu t ht out ho [] t.val.1 [] (by have:=ht.1;omega) (by simpa using ht.1) ht.2.1 (by simp only[qZ];have:=ht.1;omega)
 unfold qkc;rw[show((Tree.node (t.val.1,t.val.2) t.kids:TP))=t from fk t]
 simp only[List.nil_append,qZ,wO]at h;rw[show((0:Nat):Int)=0 from rfl]at h
 rw[h];rfl
def q7v{t:TP}(h:Fo t):(ja Tr.decR t).length<=1000000:=by
 have h1:=h.text;have h2:=h.ffl;have h4:=h.2.2.2;have d1:=qck t.kids.length
 have d2:=qck (ffl t.val.1).length
 have d3:=qck (f9 Tr.decR t).length
 unfold ja;simp only[qM,qL,qZ];omega
def zlm(fu:Nat)(hfu:90000000<=fu):∀(n:Nat)(t:TP)(d i:Nat)(out:Bs),cf t<=n->cf t+d<=70000000->(∀x∈bm n t (d:Int),Fo x.1)->i+cf t<=70000000->out.length+1000000*(bm n t (d:Int)).length<=900000000 ->
  qbo fu n t (d:Int) (i:Int) out=some (((i+(bm n t (d:Int)).length:Nat):Int),out++(bm n t (d:Int)).flatMap fun x=>ja Tr.decR x.1):=by
 intro n
 induction n with
 |zero=>intro t d i out h;have:=qiv t;omega|succ n ih=>
  intro t d i out hz hd hs hi ho;have htp:=qiv t;have hft:Fo t:=hs (t,(d:Int)) (by rw[bm];exact qH)
  have ac:=q7v hft;rw[bm]at hs ho ⊢;rw[qL,Nat.mul_succ]at ho;rw[qbo,qk7,qsr,zl9 fu hfu _ t hft out,qB,qB,ay i]
  have loop:∀(m:Nat)(ab aa:List TP)(i:Nat)(out:Bs),t.kids=ab++aa->aa.length<m->i+(aa.map cf).sum<=70000000->(∀x∈aa.flatMap fun k=>bm n k ((d:Int)+1),Fo x.1)->out.length+1000000*(aa.flatMap fun k=>bm n k ((d:Int)+1)).length<=900000000 ->
    qfm (qbo fu n) fu m (d:Int) t.kids (t.kids.length:Int) (ab.length:Int) (i:Int) out=some (((i+(aa.flatMap fun k=>bm n k ((d:Int)+1)).length:Nat):Int),out++(aa.flatMap fun k=>bm n k ((d:Int)+1)).flatMap fun x=>ja Tr.decR x.1):=by
   intro m
   induction m with
   |zero=>intro ab aa i out _ h;omega|succ m ihm=>
    intro ab aa i out hk h hi hf ho;have ac:t.kids.length=ab.length+aa.length:=by rw[hk];simp
    have hks:=qae t;rw[qfm,qsx]
    cases aa with
    |nil=>rw[au (by simp only[qZ]at ac;omega)];simp|cons k aa=>
     simp only[qL]at h ac;simp only[List.map_cons,List.sum_cons]at hi;have hkm:k∈t.kids:=by rw[hk];simp
     have hx:am t.kids (ab.length:Int)=some k:=by rw[hk];exact bt ab k aa
     have hkz:=qiu hkm;have hfl:=q7h n k ((d:Int)+1);rw[List.flatMap_cons,qM,Nat.mul_add]at ho;rw[List.flatMap_cons]at hf;have hlk:((bm n k ((d:Int)+1)).flatMap fun x=>ja Tr.decR x.1).length<=1000000*(bm n k ((d:Int)+1)).length:=by
      have:∀L:List (TP×Int),(∀x∈L,Fo x.1)->(L.flatMap fun x=>ja Tr.decR x.1).length<=1000000*L.length:=by
       intro L
       induction L with
       |nil=>simp|cons x L ih=>
        intro h;have h1:=q7v (h x qH);have h2:=ih fun y hy=>h y (qE _ hy)
        rw[List.flatMap_cons,qM,qL,Nat.mul_succ];omega
      exact this _ fun x hx=>hf x (List.mem_append_left _ hx)
     rw[ag,hx,qB,fk,ay d,List.flatMap_cons]
     have g1:=ih k (d+1) i out (by omega) (by omega) (fun x hx=>hf x (List.mem_append_left _ (by rw[show((d+1:Nat):Int)=(d:Int)+1 by omega]at hx;exact hx))) (by omega) (by rw[show((d+1:Nat):Int)=(d:Int)+1 by omega];omega)
     rw[g1,qB,show((d+1:Nat):Int)=(d:Int)+1 by omega,ay _]
     have:=ihm (ab++[k]) aa (i+(bm n k ((d:Int)+1)).length) (out++(bm n k ((d:Int)+1)).flatMap fun x=>ja Tr.decR x.1) (by rw[hk];simp) (by omega) (by omega) (fun x hx=>hf x (List.mem_append_right _ hx)) (by rw[qM];omega)
     rw[qM,wD]at this;rw[this,qM,List.flatMap_append,qS,Nat.add_assoc]
  have hks:=qae t;have hsum:(t.kids.map cf).sum+2<=cf t:=by cases t;rw[ue];show(List.map cf _).sum+2<=_;simp only[Tree.kids];omega
  have:=loop fu [] t.kids (i+1) (out++ja Tr.decR t) rfl (by omega) (by omega) (fun x hx=>hs x (qE _ hx)) (by rw[qM];omega)
  rw[show((([]:List TP).length:Nat):Int)=0 from rfl]at this
  rw[this,List.flatMap_cons,qS,qL,show i+1+(t.kids.flatMap fun k=>bm n k ((d:Int)+1)).length=i+((t.kids.flatMap fun k=>bm n k ((d:Int)+1)).length+1) by omega]
def zgz{t:TP}{d:Int}(hk:t.kids.length<=100000000)(h:je t d=0):Fo t:=⟨(qyp h).1,(qyp h).2.1,(qyp h).2.2,hk⟩
def qux(fu:Nat)(hfu:90000000<=fu)(m:List aq×Bs)(hs:ml m):xl fu m=some (if(dn fu m).2.1≠0 then((dn fu m).2,[]) else((0,0),vk Tr.decR fu (dn fu m).1)):=by
 unfold xl;rw[zsq fu hfu m hs,qB,ip,qB,dt];by_cases h:(dn fu m).2.1≠0
 ·rw[qX h,qX h]
 ·rw[qW h,qW h];have h:(dn fu m).2.1=0:=by simpa using h
  have hg:=zso fu m;have hp:(kv fu (dn fu m).1).1=0:=zsp h;generalize (dn fu m).1=t at hg hp;obtain⟨q1,q2,_⟩:=zac hp;have hz:=hg.1;unfold qsp;simp only[fk];rw[qB];unfold qsq qbl qsy q3a;simp only[fk,qB];have:=zlm fu hfu fu t 0 0 [] (by omega) (by omega) (fun x hx=>zgz (by
   have h1:=q7i fu t _ x hx;have h2:=qae x.1;omega) (q2 x hx)) (by omega) (by rw[show((0:Nat):Int)=0 from rfl];simp only[qZ];omega)
  rw[show((0:Nat):Int)=0 from rfl]at this
  rw[this];simp only[qB,fk];rfl
def q38(fu:Nat)(hfu:90000000<=fu)(m m':List aq×Bs)(hs:ml m)(hs':ml m'):qa1 fu m m'=some (if(dn fu m).2.1≠0 then(false,(dn fu m).2) else if(dn fu m').2.1≠0 then(false,((dn fu m').2.1,-10)) else(vk Tr.decR fu (dn fu m).1==vk Tr.decR fu (dn fu m').1,(0,0))):=by
 unfold qa1;rw[qux fu hfu m hs,qB];by_cases h:(dn fu m).2.1≠0
 ·rw[qX h,qX h,ip,qB,dt,qX h]
 ·rw[qW h,qW h,ip,qB,dt,qW (by simp),qux fu hfu m' hs',qB]
  by_cases h':(dn fu m').2.1≠0
  ·rw[qX h',qX h',ip,qB,dt,qX h',oo];rfl
  ·rw[qW h',qW h',ip,qB,dt,qW (by simp)];rfl
def qzh{fu:Nat}{m:List aq×Bs}(h:(ft m).1≠0):dn fu m=(emT,ft m):=by unfold dn;rw[qX h]
def q70:∀l:List aq,l.length<=(l.map kh).sum
 |[]=>by simp|x::l=>by
  have:=q70 l;rw[List.map_cons,List.sum_cons,qL];unfold kh at this ⊢;omega
def zqg:∀(n:Nat)(s:Bs)(col:Nat),s.length<=n->(Tr.qe col s).length<=8*s.length:=by
 intro n
 induction n with
 |zero=>intro s col h;have:s=[]:=List.eq_nil_of_length_eq_zero (by omega);subst this;simp[Tr.qe]|succ n ih=>
  intro s col h
  match s,h with
  |[],_=>simp[Tr.qe]|[c],_=>
   have h1:=Tr.sgn_len c true;rw[Tr.qe];split<;>simp only[qM,qL,qZ]<;>omega
  |c::d::r,h=>
   simp only[qL]at h;have h1:=Tr.sgn_len c (Tr.isL (d::r));have i1:=fun col=>ih (d::r) col (by simp only[qL];omega)
   have i2:=ih r 0 (by omega)
   simp only[qL]at i1;rw[Tr.qe];split
   ·simp only[qL];omega
   ·generalize (if Tr.isL (d::r)=true then 76 else 75)=M
    split
    ·have:=i1 (Tr.sgn c (Tr.isL (d::r))).length;simp only[qM,qL,qZ];omega
    ·have:=i1 (col+(Tr.sgn c (Tr.isL (d::r))).length);simp only[qM,qL];omega
def zno:∀(n:Nat)(s:Bs),s.length<=n->(Tr.lines76 s).length<=3*s.length:=by
 intro n
 induction n with
 |zero=>intro s h;have:s=[]:=List.eq_nil_of_length_eq_zero (by omega);subst this;rw[Tr.lines76_eq];simp|succ n ih=>
  intro s h;rw[Tr.lines76_eq];split
  ·have:=ih (s.drop 76) (by rw[List.length_drop];omega)
   simp only[qM,List.length_take,qL,qZ];rw[List.length_drop]at this;omega
  ·split
   ·simp
   ·rename_i h0;have:s.length≠0:=fun q=>h0 (List.eq_nil_of_length_eq_zero q)
    simp only[qM,qL,qZ];omega
def q6y(b name:Bs):(Tr.encR b name).2.length<=200000:=by
 unfold Tr.encR;split
 ·simp
 ·split
  ·simp
  ·rename_i h12;split
   ·split
    ·simp
    ·simp only;omega
   ·split
    ·split
     ·simp
     ·simp only;omega
    ·split
     ·have h1:=zno _ (Tr.e64 b) (wF _);rw[Tr.e64_len]at h1;simp only;omega
     ·have:=zqg _ b 0 (wF _);simp only;omega
def znt(m:List aq×Bs)(v:Bs)(at_:Int)(hs:ml m)(hl:m.1.length<=9000000)(hv:v.length<=10000000):qat 100000000 m v at_=some true:=by
 unfold qat;rw[q50,qB,de,qux _ (by omega) m hs,qB,dt]
 by_cases h:(dn 100000000 m).2.1≠0
 ·rw[qX h,qX h];rfl
 ·rw[qW h,qW (by simp)]
  have h0:(dn 100000000 m).2.1=0:=by simpa using h
  have hin:ul at_ 0 (m.1.length:Int)=some (decide (0<=at_/\at_<=(m.1.length:Int))):=by
   unfold ul;by_cases q:0<=at_
   ·rw[ag q];simp[q]
   ·rw[au q];simp[q]
  rw[hin,qB];by_cases q:0<=at_/\at_<=(m.1.length:Int)
  ·rw[decide_eq_true q];obtain⟨l,b⟩:=m;obtain⟨k,rfl⟩:∃k:Nat,at_=(k:Int):=⟨at_.toNat,by omega⟩
   simp only at q hl;have hkl:k<=l.length:=by omega
   unfold qj0;rw[show(!true)=false from rfl,a7 rfl]
   unfold qq0;rw[ag q,ag (by simp only[ax,List.length_take,qY];omega),ag (by simp only[ax,qM,List.length_take,qY,qL,qZ];omega),ag q,
    ag (by simp only[ax,qM,List.length_take,List.length_drop,qY,qL,qZ];omega)]
   simp only[qY];have hins:gx (p7,v) l ((l.take k++[(p7,v)])++l.drop k):=⟨l.take k,l.drop k,(List.take_append_drop k l).symm,by simp⟩
   have hs':ml ((l.take k++[(p7,v)])++l.drop k,b):=by
    refine⟨⟨?_,fun x hx => ?_⟩,hs.2⟩
    ·rw[hins.len];omega
    ·rcases hins.mem hx with rfl|hx
     ·exact⟨by simp,hv⟩
     ·exact hs.1.2 x hx
   generalize (l.take k++[(p7,v)])++l.drop k=l' at hins hs';rw[q38 _ (by omega) _ _ hs hs',qB,qW h]
   by_cases hm:(ft (l',b)).1≠0
   ·have e:=qzh (fu:=100000000) hm;rw[qX (by rw[e];exact hm)]
    simp only;rw[dt,qX (by rw[e];exact hm),d5,qno _ (by omega) _ hs',qB]
    congr 1;simpa using hm
   ·obtain⟨ks,g,g',b',e1,e2,e3⟩:=zsr (fu:=100000000) (by omega) hins (show lk p7 bp=false by decide) h0 (by simpa using hm)
    rw[e3,qW (by simp)]
    simp only;rw[dt,qW (by simp),e1,zma _ (by omega) e2 (show lk p7 da=false by decide) (show(!lk p7 p7 && !lk p7 da)=false by decide)]
    simp
  ·rw[decide_eq_false q];rfl
def zns(x:(List aq×Bs)×Bs×Int×Unit)(h:bks [τP,.str,.int .i64] x<=1048576):qat 100000000 x.1 x.2.1 x.2.2.1=some true:=by
 obtain⟨m,v,k,_⟩:=x;have h:τP.bk m+((v.length+1)+((Ty.int .i64).bk k+0))<=1048576:=h;have hb:τP.bk m<=1048576:=by omega
 have hm:=q39 m hb;have hl:m.1.length<=9000000:=by
  obtain⟨l,b⟩:=m;have:=q70 l;have hb2:((l.map kh).sum+1)+(b.length+1)<=1048576:=Nat.le_trans (Nat.le_of_eq (bkP l b).symm) hb;simp only;omega
 exact znt m v k hm hl (by omega)
def znq(b a c:Bs)(hb:a.length<=1048576:=by omega)(hc:c.length<=1048576:=by omega):qau 100000000 b a c=some true:=by
 unfold qau;rw[q50,qB,de,Tr.encode_eq _ b a (by omega) (by simp only[maxLen];omega),qB,Tr.encode_eq _ b c (by omega) (by simp only[maxLen];omega),qB,dt]
 by_cases h1:(Tr.encR b a).1.1≠0
 ·rw[qX h1];unfold qeb;rw[a8 rfl,fe,qW h1,Tr.enc_fault b a h1];rfl
 ·rw[qW h1];have h1:(Tr.encR b a).1.1=0:=by simpa using h1
  unfold qeb;by_cases h2:(Tr.encR b c).1.1≠0
  ·rw[dt,qX h2,fe,qX h1]
  ·rw[dt,qW h2];have h2:(Tr.encR b c).1.1=0:=by simpa using h2
   have e1:=q6y b a;have e2:=q6y b c;have d1:=Tr.dec_enc b a h1;have d2:=Tr.dec_enc b c h2;generalize (Tr.encR b a).2=x at e1 d1;generalize (Tr.encR b c).2=y at e2 d2;unfold qq1;have s1:ml ([(da,a),eg],x):=⟨⟨by simp,fun z hz=>by simp at hz;rcases hz with rfl|rfl<;>simp;omega⟩,by simp only;omega⟩
   have s2:ml ([eg,(od,c)],y):=⟨⟨by simp,fun z hz=>by simp at hz;rcases hz with rfl|rfl<;>simp;omega⟩,by simp only;omega⟩
   rw[show qa1 100000000 ([(([67,111,110,116,101,110,116,45,84,114,97,110,115,102,101,114,45,69,110,99,111,100,105,110,103]:Bs),a),(([65]:Bs),([98]:Bs))],x) ([(([65]:Bs),([98]:Bs)),(([99,111,110,116,101,110,116,45,116,114,97,110,115,102,101,114,45,101,110,99,111,100,105,110,103]:Bs),c)],y)=_ from q38 _ (by omega) ([(da,a),eg],x) ([eg,(od,c)],y) s1 s2,qB]
   by_cases hm:(ft ([(da,a),eg],x)).1≠0
   ·have e:=qzh (fu:=100000000) hm;rw[qX (by rw[e];exact hm),e]
    simp only;rw[dt,qX hm,d5,show se 100000000 ([(([67,111,110,116,101,110,116,45,84,114,97,110,115,102,101,114,45,69,110,99,111,100,105,110,103]:Bs),a),(([65]:Bs),([98]:Bs))],x)=_ from qno _ (by omega) _ s1,qB,dt,qX hm]
   ·have hm:(ft ([(da,a),eg],x)).1=0:=by simpa using hm
    rw[zcm (by omega) hm (znv a),qW (by simp)]
    by_cases hn:(ft ([eg,(od,c)],y)).1≠0
    ·have e:=qzh (fu:=100000000) hn;rw[qX (by rw[e];exact hn),e]
     simp only;rw[dt,qX hn,d5,show se 100000000 ([(([67,111,110,116,101,110,116,45,84,114,97,110,115,102,101,114,45,69,110,99,111,100,105,110,103]:Bs),a),(([65]:Bs),([98]:Bs))],x)=_ from qno _ (by omega) _ s1,qB,dt,qW (by rw[hm];simp),
      show se 100000000 ([(([65]:Bs),([98]:Bs)),(([99,111,110,116,101,110,116,45,116,114,97,110,115,102,101,114,45,101,110,99,111,100,105,110,103]:Bs),c)],y)=_ from qno _ (by omega) _ s2,qB]
     congr 1;simpa using hn
    ·have hn:(ft ([eg,(od,c)],y)).1=0:=by simpa using hn
     obtain⟨_,_,_,k1,_⟩:=qh0 hm;obtain⟨_,_,_,k2,_⟩:=qh0 hn;simp only at k1 k2;rw[zcm (by omega) hn (znw c),qW (by simp)]
     simp only;rw[dt,qW (by simp),q7x _ (by omega),q7x _ (by omega),znx _ a c x y b (d1 (by omega)) (d2 (by omega))]
     simp
def znr(x:Bs×Bs×Bs×Unit)(h:bks [.list .byte,.str,.str] x<=1048576):qau 100000000 x.1 x.2.1 x.2.2.1=some true:=by
 obtain⟨b,a,c,_⟩:=x;have h:(Ty.list .byte).bk b+((a.length+1)+((c.length+1)+0))<=1048576:=h;exact znq b a c
end Go.Sym
