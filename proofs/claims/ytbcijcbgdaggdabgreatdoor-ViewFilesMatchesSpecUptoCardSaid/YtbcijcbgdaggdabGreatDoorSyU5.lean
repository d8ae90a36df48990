/- What the claim rests on, part 5: gathered texts. -/
import Derived.Sort.AssemblyPlain
import Derived.Test.YtbcijcbgdaggdabGreatDoorSyU3
set_option maxRecDepth 100000
set_option linter.defProp false
set_option linter.unusedSimpArgs false
set_option linter.unusedVariables false
namespace Go.Sym
def d8{x:Int}(h1 : -9223372036854775808<=x:=by omega)(h2:x<9223372036854775808:=by omega):af x=x:=by
 unfold af IntKind.wrap;simp[IntKind.signed,IntKind.bits];omega
def au{α:Type}{b:Bool}{x y:α}(h:b=true:=by first|rfl|simp;done):(bif b then x else y)=x:=by subst h;rfl
def ay{α:Type}{b:Bool}{x y:α}(h:b=false):(bif b then x else y)=y:=by subst h;rfl
def cv{α:Type}{p:Prop}[Decidable p]{x y:α}:(bif decide p then x else y)=if p then x else y:=by by_cases h:p<;>simp[h]
def ag{α:Type}{p:Prop}[Decidable p]{x y:α}(h:p:=by first|omega|simp;done|simp;omega):(bif decide p then x else y)=x:=au (decide_eq_true h)
def ap{α:Type}{p:Prop}[Decidable p]{x y:α}(h:¬p:=by first|omega|simp;done|simp;omega):(bif decide p then x else y)=y:=ay (decide_eq_false h)
def q5t{α:Type}{b:Bool}{x y:α}:(bif !b then x else y)=if b=false then x else y:=by cases b<;>rfl
def fj{α:Type}{a b:Int}{x y:α}:(bif a != b then x else y)=if a≠b then x else y:=by
 by_cases h:a=b
 ·rw[ay (by simp[h]),qW (by simp[h])]
 ·rw[au (by simp[h]),qX h]
def iy{α:Type}{a b:Int}{x y:α}:(bif a==b then x else y)=if a=b then x else y:=by
 by_cases h:a=b
 ·rw[au (by simp[h]),qX h]
 ·rw[ay (by simp[h]),qW h]
def kh{α:Type}{a b:UInt8}{x y:α}:(bif a==b then x else y)=if a=b then x else y:=by
 by_cases h:a=b
 ·rw[au (by simp[h]),qX h]
 ·rw[ay (by simp[h]),qW h]
def qbf{α:Type}{a b:UInt8}{x y:α}:(bif a != b then x else y)=if a≠b then x else y:=by
 by_cases h:a=b
 ·rw[ay (by simp[h]),qW (by simp[h])]
 ·rw[au (by simp[h]),qX h]
def qze{α:Type}{p:Prop}[Decidable p]{x y:α}:(if p then some x else some y)=some (if p then x else y):=by split<;>rfl
def jl{α β:Type}(l:List α)(i:Int)(f:α->Option β):(bif decide (0<=i/\i.toNat<List.length l) then(l[i.toNat]?).bind f else none)=(am l i).bind f:=by
 unfold am;by_cases h:0<=i
 ·by_cases h2:i.toNat<l.length
  ·simp[h,h2]
  ·simp[h,h2]
 ·simp[h]
def uk{α:Type}(l:List α)(k:Nat)(h:k<l.length):am l (k:Int)=some l[k]:=by
 unfold am;rw[qX (by omega)];simp[h]
def bm{α:Type}(ab:List α)(c:α)(aa:List α):am (ab++c::aa) (ab.length:Int)=some c:=by
 unfold am;rw[qX (by omega)];simp
def qb3{α:Type}(ab:List α)(c:α)(aa:List α):(ab++c::aa)[((ab.length:Nat):Int).toNat]? = some c:=by simp
def qzd{α:Type}(ab:List α)(c d:α)(aa:List α):List.set (ab++c::aa) ((ab.length:Nat):Int).toNat d=ab++d::aa:=by simp
def aw(k:Nat)(h:k<9223372036854775807:=by omega):af ((k:Int)+1)=((k+1:Nat):Int):=by rw[d8];omega
def si(P:UInt8->Prop)(h:∀n:_root_.Fin 256,P (UInt8.ofNat n.val))(c:UInt8):P c:=by
 have:=h ⟨c.toNat,c.toNat_lt⟩;simpa using this
def lo(c:UInt8):UInt8:=if 65<=c/\c<=90 then c+32 else c
def bl(c:UInt8):Bool:=c==32||c==9
def gv(l:List UInt8):List UInt8:=(l.reverse.dropWhile bl).reverse
def a8(l:List UInt8):List UInt8:=l.dropWhile bl
def qw(l:List UInt8):List UInt8:=gv (a8 l)
def qhz(t:List UInt8)(c:UInt8):gv (t++[c])=if bl c then gv t else t++[c]:=by
 unfold gv;rw[List.reverse_append,List.reverse_singleton,wM,List.dropWhile];cases bl c
 ·simp
 ·simp
def pc(n:Nat)(h:n<1000000000:=by omega):af (((n+1:Nat):Int)-1)=(n:Int):=by rw[d8];omega
def qb7{α:Type}(t:List α)(c:α):am (t++[c]) (t.length:Int)=some c:=bm t c []
def qop{α:Type}(t:List α)(c:α):List.take ((t.length:Nat):Int).toNat (t++[c])=t:=by simp
def ou{α:Type}(t:List α)(c:α):((t++[c]).length:Int)=((t.length+1:Nat):Int):=by simp
def xg{α:Type}(ab:List α)(aa:List α):List.drop ((ab.length:Nat):Int).toNat (ab++aa)=aa:=by simp
def yq{α:Type}(ab:List α)(aa:List α):List.take ((ab.length:Nat):Int).toNat (ab++aa)=ab:=by simp
def qmn{α:Type}(ab:List α)(c:α)(aa:List α):List.drop ((ab.length+1:Nat):Int).toNat (ab++c::aa)=aa:=by
 rw[show((ab.length+1:Nat):Int).toNat=(ab++[c]).length by simp,show ab++c::aa=(ab++[c])++aa by simp]
 simp
def cw{α:Type}(ab:List α)(c:α)(aa:List α):((ab++c::aa).length:Int)=((ab.length+aa.length+1:Nat):Int):=by simp;omega
def qno{α:Type}(ab:List α)(aa:List α):((ab++aa).length:Int)=((ab.length+aa.length:Nat):Int):=by simp
def qb5(k:UInt8)(t r:List UInt8)(h:∀x∈t,x≠k):Lib.indexByte (t++k::r) k=(t.length:Int):=by
 induction t with
 |nil=>simp[Lib.indexByte]|cons c t ih=>
  have hc:=h c qH;rw[wK,Lib.indexByte,ih (fun x hx=>h x (qE _ hx)),qW (by simpa using hc),qW (by simp<;>omega)]
  simp
def qb6(k:UInt8)(t:List UInt8)(h:∀x∈t,x≠k):Lib.indexByte t k = -1:=by
 induction t with
 |nil=>rfl|cons c t ih=>
  have hc:=h c qH;rw[Lib.indexByte,ih (fun x hx=>h x (qE _ hx)),qW (by simpa using hc),qX (by decide)]
def ym(k:UInt8):∀(s:List UInt8),(∃t r,s=t++k::r/\∀x∈t,x≠k)\/∀x∈s,x≠k
 |[] => .inr (fun _ h=>by cases h)
 |c::s=>by
  by_cases hc:c=k
  ·subst hc;exact .inl ⟨[],s,rfl,fun _ h=>by cases h⟩
  ·rcases ym k s with⟨t,r,rfl,h⟩|h
   ·exact .inl ⟨c::t,r,rfl,fun x hx=>(List.mem_cons.1 hx).elim (fun e=>e▸hc) (h x)⟩
   ·exact .inr fun x hx=>(List.mem_cons.1 hx).elim (fun e=>e▸hc) (h x)
def q7t(k:UInt8)(s:List UInt8):(0<=Lib.indexByte s k)↔k∈s:=by
 rcases ym k s with⟨t,r,rfl,h⟩|h
 ·rw[qb5 k t r h];simp
 ·rw[qb6 k s h];constructor
  ·intro h;omega
  ·intro hk;exact absurd rfl (h k hk)
def dh{α:Type}{x y:α}:(bif !false then x else y)=x:=rfl
def cf{α:Type}{x y:α}:(bif !true then x else y)=y:=rfl
def ql8(a b:UInt8):(a==b)=(b==a):=by
 by_cases h:a=b
 ·rw[h]
 ·rw[beq_false_of_ne h,beq_false_of_ne (Ne.symm h)]
def q5z{a b:Nat}(h:a<b):Nat.blt a b=true:=Nat.ble_eq_true_of_le h
def q5y{a b:Nat}(h:¬a<b):Nat.blt a b=false:=by
 cases hq:Nat.blt a b
 ·rfl
 ·exact absurd (Nat.le_of_ble_eq_true hq) h
def qxg(l:List UInt8)(k:Nat)(c:UInt8)(h:l[k]? = some c):(⟨l.toArray⟩:ByteArray).get! k=c:=by
 obtain⟨hk,rfl⟩:=List.getElem?_eq_some_iff.1 h;show(l.toArray)[k]! = _;simp[hk]
def zpt(l:List UInt8):(⟨l.toArray⟩:ByteArray).size=l.length:=by simp[ByteArray.size]
def q9z(s:List UInt8)(p:Nat)(c:UInt8)(h:s[p]? = some c)(hc:c.toNat<128):d6 s p=(c.toNat,1):=by
 unfold d6 Utf8.decode;simp only[Nat.add_zero,qxg s p c h,hc,if_true]
def zn2(s:List UInt8)(p:Nat)(c:UInt8)(h:s[p]? = some c)(hc:128<=c.toNat):128<=(d6 s p).1/\1<=(d6 s p).2/\∀j,j<(d6 s p).2->∃d,s[p+j]? = some d/\128<=d.toNat:=by
 have hn:¬c.toNat<128:=by omega
 have cont:∀k,(decide (p+k<(⟨s.toArray⟩:ByteArray).size)&&((⟨s.toArray⟩:ByteArray).get! (p+k)).toNat/64==2)=true->∃d,s[p+k]? = some d/\128<=d.toNat:=by
  intro k hk;simp only[qA,decide_eq_true_eq,beq_iff_eq,zpt]at hk;obtain⟨h1,h2⟩:=hk;refine⟨s[p+k],by simp[h1],?_⟩
  rw[qxg s (p+k) s[p+k] (by simp[h1])]at h2
  omega
 have z:∀j,j<1->∃d,s[p+j]? = some d/\128<=d.toNat:=fun j hj=>by
  obtain rfl:j=0:=by omega
  exact⟨c,h,hc⟩
 unfold d6 Utf8.decode;simp only[Nat.add_zero,qxg s p c h,hn,if_false];split
 ·rename_i hk;simp only[qA]at hk;have c1:=cont 1 (by simpa using hk.2)
  split
  ·rename_i hge;refine⟨hge,by simp,fun j hj => ?_⟩
   match j,hj with|0,_=>exact⟨c,h,hc⟩|1,_=>exact c1
  ·exact⟨by simp[Utf8.runeError],wF _,z⟩
 ·split
  ·rename_i hk;simp only[qA]at hk;have c1:=cont 1 (by simpa using hk.1.2)
   have c2:=cont 2 (by simpa using hk.2)
   split
   ·rename_i hge;simp only[qA,decide_eq_true_eq]at hge;refine⟨by simp only;omega,by simp,fun j hj => ?_⟩
    match j,hj with|0,_=>exact⟨c,h,hc⟩|1,_=>exact c1|2,_=>exact c2
   ·exact⟨by simp[Utf8.runeError],wF _,z⟩
  ·split
   ·rename_i hk;simp only[qA]at hk;have c1:=cont 1 (by simpa using hk.1.1.2)
    have c2:=cont 2 (by simpa using hk.1.2)
    have c3:=cont 3 (by simpa using hk.2)
    split
    ·rename_i hge;simp only[qA,decide_eq_true_eq]at hge;refine⟨by simp only;omega,by simp,fun j hj => ?_⟩
     match j,hj with|0,_=>exact⟨c,h,hc⟩|1,_=>exact c1|2,_=>exact c2|3,_=>exact c3
    ·exact⟨by simp[Utf8.runeError],wF _,z⟩
   ·exact⟨by simp[Utf8.runeError],wF _,z⟩
def zn3(n:Int)(h:128<=n):∃t c,nf n=t++[c]/\128<=c.toNat/\t.length<=3:=by
 unfold nf Utf8.encode;have hc:∀c:Nat,(if Utf8.valid n=true then n.toNat else Utf8.runeError)=c->128<=c:=by
  intro c hc;split at hc
  ·omega
  ·subst hc;decide
 have last:∀m:Nat,128<=(UInt8.ofNat (0x80+m%64)).toNat:=fun m=>by
  simp only[UInt8.toNat_ofNat'];omega
 generalize hq:(if Utf8.valid n=true then n.toNat else Utf8.runeError)=c
 have hc:=hc c hq;simp only[];rw[qW (by omega)]
 split
 ·exact⟨[_],_,rfl,last _,by simp⟩
 ·split
  ·exact⟨[_,_],_,rfl,last _,by simp⟩
  ·exact⟨[_,_,_],_,rfl,last _,by simp⟩
def zlj(c:UInt8):(c+97)-65=c+32:=by
 rw[UInt8.sub_eq_add_neg,UInt8.add_assoc];rfl
def q8c(fu:Nat):∀(n:Nat)(ab aa:List UInt8),aa.length<n->ab.length+aa.length<=9223372036854775807 ->
  qag fu n ((ab.length+aa.length:Nat):Int) (ab.length:Int) (ab++aa)=some (ab++aa.map lo)
 |0,_,_,h,_=>absurd h (by omega)|n+1,ab,[],_,_=>by simp[qag,qj2]|n+1,ab,c::aa,h,hb=>by
  simp only[qL]at h hb;have ih:=fun d=>q8c fu n (ab++[d]) aa (by omega) (by simp;omega)
  simp only[qM,qL,qZ,qS,wM,wO]at ih;have e:((ab.length+(c::aa).length:Nat):Int)=((ab.length+1+aa.length:Nat):Int):=by simp only[qL];omega
  have hl:0<=(ab.length:Int)/\(ab.length:Int).toNat<(ab++c::aa).length:=by simp
  rw[e];simp only[qag,qj2];rw[ag,ag hl,qb3,qB,qzd,aw _,cv,cv,ih,ih,ag hl,qB]
  unfold lo;simp only[List.map_cons,zlj];by_cases h1:(65:UInt8)<=c
  ·by_cases h2:c<=90
   ·simp[h1,h2]
   ·simp[h1,h2]
  ·simp[h1]
def q8b(fu:Nat)(s:List UInt8)(h:s.length<fu)(hb:s.length<=maxLen):qe6 fu s=some (s.map lo):=by
 unfold qe6;rw[ag hb];have:=q8c fu fu [] s h (by simpa [maxLen] using hb)
 simpa using this
def ma(x a b:Int):fa x a b=some (decide (a<=x/\x<=b)):=by
 unfold fa;by_cases h:a<=x<;>simp[h]
def zbv(a b:UInt8):((a.toNat:Int)<=(b.toNat:Int))↔a<=b:=by rw[UInt8.le_iff_toNat_le];omega
def q9w(fu:Nat):∀(n:Nat)(ab aa:List UInt8),aa.length<n->ab.length+aa.length<=9223372036854775807 ->
  zf fu n (ab.length:Int) (ab++aa)=some (ab++aa.map lo)
 |0,_,_,h,_=>absurd h (by omega)|n+1,ab,[],_,_=>by simp[zf,qjd]|n+1,ab,c::aa,h,hb=>by
  simp only[qL]at h hb;have ih:=fun d=>q9w fu n (ab++[d]) aa (by omega) (by simp;omega)
  simp only[qM,qL,qZ,qS,wM,wO]at ih;have hl:0<=(ab.length:Int)/\(ab.length:Int).toNat<(ab++c::aa).length:=by simp
  simp only[zf,qjd];rw[ag,ag hl,qb3,qB,ma,qB,aw _,cv,ag hl,qB,ag hl,qB,qzd,ih,ih]
  unfold lo;simp only[List.map_cons];have e1:=zbv 65 c;have e2:=zbv c 90;have q1:((65:UInt8).toNat:Int)=65:=rfl;have q2:((90:UInt8).toNat:Int)=90:=rfl;rw[q1]at e1;rw[q2]at e2;by_cases h1:(65:UInt8)<=c/\c<=90
  ·rw[qX ⟨e1.2 h1.1,e2.2 h1.2⟩,qX h1]
  ·rw[qW (fun q=>h1 ⟨e1.1 q.1,e2.1 q.2⟩),qW h1]
def qn8(fu:Nat)(s:List UInt8)(h:s.length<fu)(hb:s.length<=maxLen):ti fu s=some (s.map lo):=by
 unfold ti;rw[ag hb];have:=q9w fu fu [] s h (by simpa [maxLen] using hb)
 simpa using this
def zh4(fu:Nat)(a b:List UInt8)(ha:a.length<fu)(hb:b.length<fu)(ha':a.length<=maxLen)(hb':b.length<=maxLen):ep fu a b=some (a.map lo==b.map lo):=by
 unfold ep;rw[iy,q8b fu a ha ha',q8b fu b hb hb'];by_cases h:(a.length:Int)=b.length
 ·rw[qX h];rfl
 ·rw[qW h];have:(a.map lo==b.map lo)=false:=by
   rw[beq_eq_false_iff_ne];intro q;apply h;have:=congrArg List.length q;simp only[wC]at this;omega
  rw[this]
def q5d(fu:Nat)(a b:List UInt8)(ha:a.length<fu)(hb:b.length<fu)(ha':a.length<=maxLen)(hb':b.length<=maxLen):jf fu a b=some (a.map lo==b.map lo):=by
 unfold jf;rw[qn8 fu a ha ha',qn8 fu b hb hb'];rfl
def zqv(c:UInt8):fh (c.toNat:Int)=c:=by
 unfold fh;have:=c.toNat_lt;rw[show((c.toNat:Int)%256).toNat=c.toNat by omega]
 simp
def zba(s:List UInt8)(c:UInt8):qf5 s c=some (Lib.indexByte s c):=rfl
def zkt(fu:Nat)(cs:List UInt8)(c:UInt8)(h:c.toNat<128):t8 fu cs (c.toNat:Int)=some (Lib.indexByte cs c):=by
 unfold t8 qf6;rw[ag,ag,zqv,zba];rfl
def zkr(fu n:Nat):∀(cs:List UInt8)(p:Nat),(∀c∈cs,c.toNat<128)->cs.length-p<n->p<=cs.length->qf7 fu n cs p=some (-1):=by
 induction n with
 |zero=>intro cs p _ h;omega|succ n ih=>
  intro cs p hA h hp;rw[qf7,qtx];by_cases hlt:p<cs.length
  ·have e:cs[p]? = some cs[p]:=List.getElem?_eq_getElem hlt;have hc:=hA cs[p] (List.getElem_mem hlt);rw[au (q5z hlt),q9z cs p _ e hc,iy,qW (by simp only;omega)]
   exact ih cs (p+1) hA (by omega) (by omega)
  ·rw[ay (q5y hlt)]
def zks(fu:Nat)(cs:List UInt8)(r:Int)(hr:128<=r)(hA:∀c∈cs,c.toNat<128)(hfu:cs.length<fu)(hb:cs.length<1000):t8 fu cs r=some (-1):=by
 unfold t8 qf6;rw[ag,ap,iy]
 by_cases h1:r=65533
 ·rw[qX h1];exact zkr fu fu cs 0 hA (by omega) (by omega)
 rw[qW h1];have hv:∃b,qlg r=some b:=by
  unfold qlg;simp only[cv]
  repeat' split
  all_goals exact⟨_,rfl⟩
 obtain⟨b,hv⟩:=hv;rw[hv,qB];cases b
 ·rfl
 rw[show(!true)=false from rfl,qF]
 obtain⟨t,c,e,hc,ht⟩:=zn3 r hr;rw[e,ou,pc _]
 obtain⟨n,rfl⟩:∃n,fu=n+1:=⟨fu-1,by omega⟩
 rw[qk9,qty];by_cases hl:t.length<cs.length
 ·have hcs:=hA cs[t.length] (List.getElem_mem hl);have hne:cs[t.length]≠c:=fun e=>by rw[e]at hcs;omega
  rw[ag,uk _ _ hl,qB,qb7,qB,qbf,qX hne,aw _,ag,qB,zba,qB,qb6,ag (by decide)]
  intro x hx e;have:=hA x (List.mem_of_mem_drop hx);rw[e]at this;omega
 ·rw[ap]
def jz(cs:List UInt8):List Bool:=cs.foldl (fun m c=>m.set c.toNat true) (List.replicate 256 false)
structure AC(cs:List UInt8):Prop where
 two:2<=cs.length
 few:cs.length<100
 low:∀c∈cs,c.toNat<128
 set:∀n,qf8 (n+100) cs=some (jz cs,true)
 get:∀c:UInt8,(jz cs)[c.toNat]? = some (cs.contains c)
 len:(jz cs).length=256
def qwj{cs:List UInt8}(A:AC cs)(c:UInt8):qax c (jz cs)=some (cs.contains c,jz cs):=by
 unfold qax;rw[A.get];rfl
def zkf{cs:List UInt8}(A:AC cs)(fu n:Nat):∀(ab aa:List UInt8),aa.length<n->ab.length+aa.length<1000000000 ->
  ∃r,qf3 fu n (ab++aa) (ab.length:Int) (jz cs)=some r/\decide (0<=r)=aa.any cs.contains:=by
 induction n with
 |zero=>intro ab aa h;omega|succ n ih=>
  intro ab aa h hb;rw[qf3,qtu]
  cases aa with
  |nil=>rw[ap];exact⟨-1,rfl,rfl⟩|cons c aa=>
   simp only[qL]at h hb;rw[cw,ag,bm,qB,qwj A,qB]
   cases hc:cs.contains c
   ·obtain⟨r,h1,h2⟩:=ih (ab++[c]) aa (by omega) (by simp;omega)
    refine⟨r,?_,by rw[h2,List.any_cons,hc,Bool.false_or]⟩
    rw[aw _]
    simpa using h1
   ·exact⟨_,rfl,by rw[List.any_cons,hc,Bool.true_or];exact decide_eq_true (by omega)⟩
def zkg{cs:List UInt8}(A:AC cs)(fu:Nat)(hfu:100<=fu)(s:List UInt8):∀(n p:Nat),s.length-p<n->p<=s.length ->
  ∃r,qf4 fu n cs s p=some r/\decide (0<=r)=(s.drop p).any cs.contains:=by
 intro n
 induction n with
 |zero=>intro p h;omega|succ n ih=>
  intro p h hp;rw[qf4,qtv];by_cases hlt:p<s.length
  ·have e:s[p]? = some s[p]:=List.getElem?_eq_getElem hlt;have hd:s.drop p=s[p]::s.drop (p+1):=List.drop_eq_getElem_cons hlt;rw[au (q5z hlt)];by_cases hc:s[p].toNat<128
   ·rw[q9z s p _ e hc];simp only;rw[zkt fu cs _ hc,qB,cv,hd,List.any_cons];by_cases hm:s[p]∈cs
    ·rw[qX ((q7t _ _).2 hm)];exact⟨_,rfl,by rw[show cs.contains s[p]=true by simpa using hm,Bool.true_or];exact decide_eq_true (by omega)⟩
    ·rw[qW (fun h=>hm ((q7t _ _).1 h))]
     obtain⟨r,h1,h2⟩:=ih (p+1) (by omega) (by omega)
     exact⟨r,h1,by rw[h2,show cs.contains s[p]=false by simpa using hm,Bool.false_or]⟩
   ·obtain⟨q1,q2,q3⟩:=zn2 s p _ e (by omega)
    rw[zks fu cs _ (by omega) A.low (by have:=A.few;omega) (by have:=A.few;omega),qB,ap (by decide)]
    have hle:p+(d6 s p).2<=s.length:=by
     obtain⟨d,hd,_⟩:=q3 ((d6 s p).2-1) (by omega)
     have:=(List.getElem?_eq_some_iff.1 hd).1;omega
    obtain⟨r,h1,h2⟩:=ih (p+(d6 s p).2) (by omega) hle
    refine⟨r,h1,?_⟩;rw[h2];have:∀w,(∀j,j<w->∃d,s[p+j]? = some d/\128<=d.toNat)->(s.drop (p+w)).any cs.contains=(s.drop p).any cs.contains:=by
     intro w
     induction w with
     |zero=>intro _;rfl|succ w ihw=>
      intro hw;rw[← ihw (fun j hj=>hw j (by omega))]
      obtain⟨d,hd,hd2⟩:=hw w (by omega)
      obtain⟨k1,k2⟩:=List.getElem?_eq_some_iff.1 hd;rw[List.drop_eq_getElem_cons k1,k2,List.any_cons,show cs.contains d=false by
       simp only[List.contains_eq_mem,decide_eq_false_iff_not];intro hm;have:=A.low d hm;omega,Bool.false_or]
      rfl
    exact this _ q3
  ·rw[ay (q5y hlt)];exact⟨-1,rfl,by rw[List.drop_eq_nil_of_le (by omega)];rfl⟩
def zik{cs:List UInt8}(A:AC cs)(fu:Nat)(s:List UInt8)(hfu:100<=fu)(h:s.length<fu)(hb:s.length<1000000000):qk2 fu s cs=some (s.any cs.contains):=by
 unfold qk2;have:∃r,qk7 fu s cs=some r/\decide (0<=r)=s.any cs.contains:=by
  unfold qk7;have h2:=A.two;rw[ay (by cases cs with
   |nil=>simp at h2| cons a b=>rfl),iy,qW (by omega)]
  unfold qt7;rw[qB,cv];split
  ·obtain⟨n,rfl⟩:∃n,fu=n+100:=⟨fu-100,by omega⟩
   rw[A.set,qB];simp only[A.len];rw[au (by rw[List.length_replicate];rfl),au]
   have:=zkf A (n+100) (n+100) [] s (by omega) (by simpa using hb)
   simpa using this
  ·have:=zkg A fu hfu s fu 0 (by omega) (by omega)
   simpa [qk8] using this
 obtain⟨r,h1,h2⟩:=this;rw[h1,qB,h2]
def zgj:∀n:_root_.Fin 256,(jz [13,10,0])[(UInt8.ofNat n.val).toNat]? = some (([13,10,0]:List UInt8).contains (UInt8.ofNat n.val)):=by decide +kernel
def ac1:AC [13,10,0]:=⟨by decide,by decide,by decide,fun n=>by kernel_rfl,fun c=>si (fun c=>(jz [13,10,0])[c.toNat]? = some (([13,10,0]:List UInt8).contains c)) zgj c,by decide +kernel⟩
def zgk:∀n:_root_.Fin 256,(jz [32,9])[(UInt8.ofNat n.val).toNat]? = some (([32,9]:List UInt8).contains (UInt8.ofNat n.val)):=by decide +kernel
def ac3:AC [32,9]:=⟨by decide,by decide,by decide,fun n=>by kernel_rfl,fun c=>si (fun c=>(jz [32,9])[c.toNat]? = some (([32,9]:List UInt8).contains c)) zgk c,by decide +kernel⟩
def q5x(c:UInt8):([32,9]:List UInt8).contains c=bl c:=by rw[Bool.eq_iff_iff];simp[bl]
def zas(c:UInt8)(s:List UInt8):gv (c::s)=if gv s=[] then(if bl c then[] else[c]) else c::gv s:=by
 unfold gv;rw[List.reverse_cons];generalize s.reverse=r
 induction r with
 |nil=>simp[List.dropWhile];cases bl c<;>rfl
 |cons x r ih=>
  rw[wK,List.dropWhile,List.dropWhile];cases bl x
  ·simp
  ·simpa using ih
def oy(c:UInt8)(s:List UInt8):a8 (c::s)=if bl c then a8 s else c::s:=by
 unfold a8;rw[List.dropWhile];cases bl c<;>rfl
def zb2:∀s:List UInt8,a8 (gv s)=qw s
 |[]=>rfl|c::s=>by
  unfold qw;have ih:=zb2 s;unfold qw at ih;rw[zas,oy];cases hc:bl c
  ·simp only[wJ,if_false];rw[zas,hc];simp only[wJ,if_false];split
   ·rw[oy,hc];rfl
   ·rw[oy,hc];rfl
  ·simp only[if_true];rw[← ih];split
   ·rename_i h;rw[h]
   ·rw[oy,hc];rfl
def zat(s:List UInt8):(gv s).length<=s.length:=by
 unfold gv;rw[List.length_reverse];have:=(List.dropWhile_sublist bl (l:=s.reverse)).length_le;simpa using this
def ku(s:List UInt8):(a8 s).length<=s.length:=(List.dropWhile_sublist bl).length_le
def xh(s:List UInt8):Bool := !(s.head?.any bl) && !(s.getLast?.any bl)
def zq3(s:List UInt8):decide (qw s=s)=xh s:=by
 unfold xh;cases hf:s.head?.any bl
 ·cases hl:s.getLast?.any bl
  ·rw[decide_eq_true];rfl;unfold qw;have h1:a8 s=s:=by
    cases s with|nil=>rfl|cons c s=>rw[oy];simp at hf;rw[hf];rfl
   rw[h1];rcases List.eq_nil_or_concat s with rfl|⟨t,c,rfl⟩
   ·rfl
   ·rw[List.concat_eq_append]at *;rw[qhz];simp at hl;rw[hl];rfl
  ·rw[decide_eq_false];rfl;rw[← zb2];rcases List.eq_nil_or_concat s with rfl|⟨t,c,rfl⟩
   ·simp at hl
   ·rw[List.concat_eq_append]at *;simp at hl;rw[qhz,hl,qX rfl];intro e;have:=Nat.le_trans (ku (gv t)) (zat t);rw[e]at this;simp at this;omega
 ·rw[decide_eq_false];rfl
  cases s with
  |nil=>simp at hf|cons c s=>
   simp at hf;unfold qw;rw[oy,hf,qX rfl];intro e;have:=Nat.le_trans (zat (a8 s)) (ku s);rw[e]at this;simp at this;omega
def qma(c:UInt8):we c=some (bl c):=by unfold we bl;cases c==32<;>rfl
def qck(c:UInt8):rl c=some (bl c):=by unfold rl bl;cases c==32<;>rfl
def qd(f:Int×Int):e9 f=some (f.1 != 0):=rfl
def sw(c:UInt8):Bool:=decide (33<=c)&&decide (c<=126)&&c != 58
def ol(s:List UInt8):Bool:=s != []&&decide (s.length<=60)&&s.all sw
def zlx(c:UInt8):qj7 c=some (sw c):=by
 unfold qj7 sw;cases decide (33<=c)<;>cases decide (c<=126)<;>rfl
def zgs(fu n:Nat):∀(ab aa:List UInt8),aa.length<n->ab.length+aa.length<1000000000 ->
  qe2 fu n (ab++aa) ((ab.length+aa.length:Nat):Int) (ab.length:Int)=some (aa.all sw):=by
 induction n with
 |zero=>intro ab aa h;omega|succ n ih=>
  intro ab aa h hb;rw[qe2,qrr]
  cases aa with
  |nil=>rw[ap];rfl|cons c aa=>
   simp only[qL]at h hb ⊢;rw[ag,bm,qB,zlx,qB,List.all_cons]
   cases hc:sw c
   ·rfl
   ·have:=ih (ab++[c]) aa (by omega) (by simp;omega)
    rw[aw _]
    simp only[qS,wM,qM,qL,qZ]at this;rw[show ab.length+0+1+aa.length=ab.length+(aa.length+1) by omega]at this
    simpa using this
def zjt(fu:Nat)(s:List UInt8)(h:61<fu:=by omega):qj6 fu s=some (ol s):=by
 unfold qj6 ol
 cases s with
 |nil=>rfl|cons c s=>
  rw[show(!c::s==([]:List UInt8))=true from rfl,show(c::s != ([]:List UInt8))=true from rfl,qT,cv]
  split
  ·rename_i hl;simp only[qL]at hl;unfold qrq;have:=zgs fu fu [] (c::s) (by simp only[qL];omega) (by simp only[qL,qZ];omega)
   simp only[List.nil_append,qZ,wO]at this;rw[show(0:Int)=((0:Nat):Int) from rfl,this,decide_eq_true (by simp only[qL];omega)]
   rfl
  ·rename_i hl;rw[decide_eq_false (by omega)]
   rfl
def zak(a b c:Int):fa a b c=some (decide (b<=a)&&decide (a<=c)):=by
 unfold fa;rw[cv];split
 ·rename_i h;rw[decide_eq_true h];rfl
 ·rename_i h;rw[decide_eq_false h];rfl
def zlz:∀n:_root_.Fin 256,(decide ((33:Int)<=((UInt8.ofNat n.val).toNat:Int))&&decide (((UInt8.ofNat n.val).toNat:Int)<=126) && !((UInt8.ofNat n.val)==58))=sw (UInt8.ofNat n.val):=by decide +kernel
def zly(c:UInt8):(decide ((33:Int)<=(c.toNat:Int))&&decide ((c.toNat:Int)<=126) && !(c==58))=sw c:=si (fun c=>(decide ((33:Int)<=(c.toNat:Int))&&decide ((c.toNat:Int)<=126) && !(c==58))=sw c) zlz c
def zos(fu n:Nat):∀(ab aa:List UInt8),aa.length<n->ab.length+aa.length<1000000000 ->
  qdn fu n (ab++aa) (ab.length:Int)=some (aa.all sw&&(decide (1<=ab.length+aa.length)&&decide (ab.length+aa.length<=60))):=by
 induction n with
 |zero=>intro ab aa h;omega|succ n ih=>
  intro ab aa h hb;rw[qdn,qp3]
  cases aa with
  |nil=>
   rw[ap,zak,List.all_nil,Bool.true_and]
   simp only[List.append_nil,qZ,Nat.add_zero,qB];congr 2
   ·rw[Bool.eq_iff_iff];simp only[decide_eq_true_eq];omega
   ·rw[Bool.eq_iff_iff];simp only[decide_eq_true_eq];omega
  |cons c aa=>
   simp only[qL]at h hb ⊢;rw[cw,ag,bm,qB,zak,qB,qB,List.all_cons,← zly]
   cases decide ((33:Int)<=(c.toNat:Int))&&decide ((c.toNat:Int)<=126)
   ·rfl
   ·cases c==58
    ·have:=ih (ab++[c]) aa (by omega) (by simp;omega)
     rw[aw _]
     simp only[qS,wM,qM,qL,qZ]at this;rw[show ab.length+(0+1)+aa.length=ab.length+(aa.length+1) by omega]at this
     simpa using this
    ·rfl
def zor(fu:Nat)(s:List UInt8)(h:s.length<fu)(hb:s.length<1000000000):qi2 fu s=some (ol s):=by
 unfold qi2 ol;have:=zos fu fu [] s h (by simpa using hb)
 rw[show(0:Int)=(([]:List UInt8).length:Int) from rfl,show s=[]++s from rfl,this]
 simp only[qZ,wO,List.nil_append];congr 1
 cases s with
 |nil=>rfl|cons c s=>
  rw[show(c::s != ([]:List UInt8))=true from rfl,decide_eq_true (show 1<=(c::s).length by simp)]
  simp only[Bool.true_and];exact Bool.and_comm _ _
def qb2(s:List UInt8):Bool := !(s.any ([13,10,0]:List UInt8).contains)&&xh s
def q7o(fu:Nat)(s:List UInt8)(hfu:100<=fu)(h:s.length<fu)(hb:s.length<1000000000):qka fu s=some (qb2 s):=by
 unfold qka qsh qb2;rw[zik ac1 fu s hfu h hb,qB,qB];cases s.any ([13,10,0]:List UInt8).contains
 ·rw[dh];unfold xh
  cases s with
  |nil=>rfl|cons c t=>
   rw[ay (by rfl),show am (c::t) (0:Int)=some c from rfl,qB,qma,qB]
   rw[show(c::t).head?.any bl=bl c from rfl]
   cases bl c
   ·rw[dh];rcases List.eq_nil_or_concat (c::t) with e|⟨u,d,e⟩
    ·cases e
    ·rw[List.concat_eq_append]at e;rw[e]at hb ⊢;simp only[qM,qL,qZ]at hb;rw[ou,pc _,qb7,qB,qma,qB]
     simp
   ·rfl
 ·rfl
def zar(fu:Nat)(_r0:Nat->List UInt8->Option (List UInt8))(n:Nat):∀(s:List UInt8),s.length<n->s.length<1000000000->qef fu n s=some (gv s):=by
 induction n with
 |zero=>intro s h;omega|succ n ih=>
  intro s h hb;rw[qef,qqs];rcases List.eq_nil_or_concat s with rfl|⟨t,c,rfl⟩
  ·rw[ap];rfl
  ·rw[List.concat_eq_append]at *;simp only[qM,qL,qZ]at h hb;rw[ou,ag,pc _,qb7,qB,qck,qB,qop,ag,ih t (by omega) (by omega),qhz]
   cases bl c<;>rfl
def zns(fu n:Nat):∀(s:List UInt8),s.length<n->s.length<fu->s.length<1000000000->qed fu n s=some (qw s):=by
 induction n with
 |zero=>intro s h;omega|succ n ih=>
  intro s h hf hb;rw[qed,qqr]
  cases s with
  |nil=>
   rw[ap]
   unfold qee;rw[ay (by rfl),zar fu (fun _ _=>none) fu [] hf hb];rfl
  |cons c s=>
   rw[ag,show am (c::s) (0:Int)=some c from rfl,qB,qck,qB]
   unfold qee qw;rw[oy];simp only[qL]at h hf hb;cases bl c
   ·rw[ay (by rfl),zar fu (fun _ _=>none) fu (c::s) (by simp only[qL];omega) (by simp only[qL];omega)];rfl
   ·rw[au]
    unfold qqt;rw[ag (by simp only[qL];omega)]
    exact ih s (by omega) (by omega) (by omega)
def znr(fu:Nat)(s:List UInt8)(h:s.length<fu)(hb:s.length<1000000000):qqq fu s=some (qw s):=zns fu fu s h h hb
def zqz(fu n:Nat):∀(s:List UInt8),s.length<n->s.length<1000000000->qga fu n s (jz [32,9])=some (gv s,jz [32,9]):=by
 induction n with
 |zero=>intro s h;omega|succ n ih=>
  intro s h hb;rw[qga,qud];rcases List.eq_nil_or_concat s with rfl|⟨t,c,rfl⟩
  ·rw[ap];rfl
  ·rw[List.concat_eq_append]at *;simp only[qM,qL,qZ]at h hb;rw[ou,ag,pc _,qb7,qB,qwj ac3,qB,qop,ag,ih t (by omega) (by omega),qhz,q5x]
   cases bl c<;>rfl
def zq2(fu:Nat)(s:List UInt8)(hfu:100<=fu:=by omega)(h:s.length<fu:=by omega)(hb:s.length<1000000000:=by omega):qld fu s [32,9]=some (gv s):=by
 unfold qld
 cases s with
 |nil=>rfl|cons c s=>
  rw[ay (by rfl)]
  unfold qle;rw[ay (by rfl)]
  unfold qt4;rw[ay (by decide)]
  unfold qlf;rw[ay (by rfl)]
  unfold qt5;obtain⟨n,rfl⟩:∃n,fu=n+100:=⟨fu-100,by omega⟩
  rw[ac3.set,qB];simp only[ac3.len];rw[au (by rw[List.length_replicate];rfl),au]
  unfold quc;rw[zqz _ _ _ h hb];rfl
def zmf(fu:Nat)(hfu:10<=fu)(c a b d:UInt8):tm fu c [a,b,d]=some (([a,b,d]:List UInt8).contains c):=by
 obtain⟨n,rfl⟩:∃n,fu=n+10:=⟨fu-10,by omega⟩
 unfold tm;simp only[zo,qjg];rw[au,show am [a,b,d] (0:Int)=some a from rfl,qB]
 simp only[List.contains_cons,List.contains_nil,Bool.or_false];rw[ql8 a c,show(af (0+1))=(1:Int) from rfl]
 cases c==a
 ·rw[ay (by rfl),au,show am [a,b,d] (1:Int)=some b from rfl,qB,ql8 b c,show(af (1+1))=(2:Int) from rfl]
  cases c==b
  ·rw[ay (by rfl),au,show am [a,b,d] (2:Int)=some d from rfl,qB,ql8 d c,show(af (2+1))=(3:Int) from rfl]
   cases c==d
   ·rfl
   ·rfl
  ·rfl
 ·rfl
def znz(fu n:Nat)(hfu:10<=fu):∀(ab aa:List UInt8),aa.length<n->ab.length+aa.length<1000000000->ab.length+aa.length<fu ->
  zb fu n (ab++aa) (ab.length:Int)=some (if aa.any ([13,10,0]:List UInt8).contains || !xh (ab++aa) then 11 else 0):=by
 induction n with
 |zero=>intro ab aa h;omega|succ n ih=>
  intro ab aa h hb hf;rw[zb,qp2]
  cases aa with
  |nil=>
   rw[ap,List.append_nil,znr fu ab (by simpa using hf) (by simpa using hb),qB,← zq3,List.any_nil,Bool.false_or]
   by_cases e:qw ab=ab
   ·rw[decide_eq_true e,e];simp
   ·rw[decide_eq_false e,au (by simpa using e)];rfl
  |cons c aa=>
   simp only[qL]at h hb hf;rw[cw,ag,bm,qB,zmf fu hfu,qB,List.any_cons]
   cases hc:([13,10,0]:List UInt8).contains c
   ·have:=ih (ab++[c]) aa (by omega) (by simp;omega) (by simp;omega)
    rw[ay (by rfl),aw _,Bool.false_or]
    simpa using this
   ·rfl
def oe(n v:List UInt8):Int:=if ol n then(if 4000<v.length then 1 else if qb2 v then 0 else 11) else 10
def zny(fu:Nat)(n v:List UInt8)(hfu:10<=fu)(hn:n.length<fu)(hv:v.length<fu)(hnb:n.length<1000000000)(hvb:v.length<1000000000):qdm fu n v=some (oe n v):=by
 unfold qdm oe;rw[zor fu n hn hnb,qB];cases ol n
 ·rfl
 ·rw[ay (by rfl),qX rfl,cv]
  split
  ·rename_i h;rw[qX (by omega)]
  ·rename_i h;rw[qW (by omega)]
   have:=znz fu fu hfu [] v hv (by simpa using hvb) (by simpa using hv)
   simp only[List.nil_append,qZ]at this;have this:zb fu fu v 0=some (if(v.any ([13,10,0]:List UInt8).contains || !xh v)=true then 11 else 0):=this
   rw[this];unfold qb2;cases v.any ([13,10,0]:List UInt8).contains<;>cases xh v<;>rfl
def tk(c:UInt8):Bool:=decide (33<=c)&&decide (c<=126) && !([40,41,60,62,64,44,59,58,92,34,47,91,93,63,61,42,37,39]:Bs).contains c
def zqu:∀n:_root_.Fin 256,nr (UInt8.ofNat n.val)=some (tk (UInt8.ofNat n.val)):=by decide +kernel
def qib(c:UInt8):nr c=some (tk c):=si (fun c=>nr c=some (tk c)) zqu c
def zmg(fu n:Nat)(c:UInt8):∀(ab aa:Bs),aa.length<n->ab.length+aa.length<1000000000 ->
  zo fu n c (ab++aa) (ab.length:Int)=some (aa.contains c):=by
 induction n with
 |zero=>intro ab aa h;omega|succ n ih=>
  intro ab aa h hb;rw[zo,qjg]
  cases aa with
  |nil=>rw[ap];rfl|cons d aa=>
   simp only[qL]at h hb;rw[cw,ag,bm,qB,aw _,kh,List.contains_cons]
   have:=ih (ab++[d]) aa (by omega) (by simp;omega)
   simp only[qM,qL,qZ,qS,wM]at this;by_cases e:d=c
   ·rw[qX e];simp[e]
   ·rw[qW e,this];have:(c==d)=false:=by simp;exact fun h=>e h.symm
    rw[this,Bool.false_or]
def q89(fu:Nat)(c:UInt8)(l:Bs)(h:l.length<fu:=by omega)(hb:l.length<1000000000:=by omega):tm fu c l=some (l.contains c):=by
 have:=zmg fu fu c [] l h (by simpa using hb)
 simpa [tm] using this
def qy8(fu:Nat)(hfu:100<=fu)(c:UInt8):zq fu c=some (tk c):=by
 unfold zq;rw[ma,qB,q89 fu c _ (by simp;omega) (by simp),qB]
 unfold tk;have h1:(33<=(c.toNat:Int)/\(c.toNat:Int)<=126)↔(33<=c/\c<=126):=by
  rw[UInt8.le_iff_toNat_le,UInt8.le_iff_toNat_le];show _↔(33<=c.toNat/\c.toNat<=126);omega
 by_cases h2:33<=c/\c<=126
 ·rw[decide_eq_true (h1.2 h2),au rfl,decide_eq_true h2.1,decide_eq_true h2.2];rfl
 ·rw[decide_eq_false (fun h=>h2 (h1.1 h)),ay rfl]
  by_cases h3:33<=c
  ·have h4:¬c<=126:=fun h=>h2 ⟨h3,h⟩
   rw[decide_eq_false h4];simp
  ·rw[decide_eq_false h3];simp
def w8(P:UInt8->Option Bool):Nat->Bs->Int->Int->Option Bool|0,_,_,_=>none|n+1,s0,s7,s8=>bif decide (s8<s7) then(am s0 s8).bind fun c1=>(P c1).bind fun x2=>bif !x2 then some false else w8 P n s0 s7 (af (s8+(1:Int))) else some true
def zgr(P:UInt8->Option Bool)(p:UInt8->Bool)(hP:∀c,P c=some (p c))(n:Nat):∀(ab aa:Bs),aa.length<n->ab.length+aa.length<9223372036854775807 ->
  w8 P n (ab++aa) ((ab.length+aa.length:Nat):Int) (ab.length:Int)=some (aa.all p):=by
 induction n with
 |zero=>intro ab aa h;omega|succ n ih=>
  intro ab aa h hb;rw[w8]
  cases aa with
  |nil=>rw[ap];rfl|cons d aa=>
   simp only[qL]at h hb ⊢;rw[ag,bm,qB,hP,qB,aw _,List.all_cons]
   have:=ih (ab++[d]) aa (by omega) (by simp;omega)
   simp only[qM,qL,qZ,qS,wM]at this;cases p d
   ·rfl
   ·rw[ay (by rfl),Bool.true_and,show((ab.length+(aa.length+1):Nat):Int)=((ab.length+1+aa.length:Nat):Int) by omega]
    exact this
def qvt(P:UInt8->Option Bool)(p:UInt8->Bool)(hP:∀c,P c=some (p c))(n:Nat)(s:Bs)(h:s.length<n)(hb:s.length<9223372036854775807):w8 P n s (s.length:Int) 0=some (s.all p):=by
 have:=zgr P p hP n [] s h (by simpa using hb)
 simpa using this
def zgo(fu:Nat)(s:Bs)(h:s.length<fu)(hb:s.length<9223372036854775807):qjy fu s=some (s.all tk):=by
 have e:∀n,qe3 fu n=w8 nr n:=by
  intro n;induction n with|zero=>rfl|succ n ih=>rw[qe3,ih];funext a b c;rfl
 unfold qjy;rw[e];exact qvt _ _ qib _ _ h hb
def ej(s:Bs):Bool := !s.isEmpty&&decide (s.length<=60)&&s.all tk
def qos(fu:Nat)(s:Bs)(h:s.length<fu:=by omega)(hb:s.length<9223372036854775807:=by omega):wk fu s=some (ej s):=by
 unfold wk ej;rw[zgo fu s h hb]
 cases s with
 |nil=>rfl|cons c s=>
  rw[au]
  by_cases h1:(c::s).length<=60
  ·rw[ag,decide_eq_true h1];simp
  ·rw[ap,decide_eq_false h1];simp
def zo8(fu n:Nat)(hfu:100<=fu):∀(ab aa:Bs),aa.length<n->ab.length+aa.length<1000000000 ->
  qec fu n (ab++aa) (ab.length:Int)=some (aa.all tk&&decide (1<=ab.length+aa.length/\ab.length+aa.length<=60)):=by
 induction n with
 |zero=>intro ab aa h;omega|succ n ih=>
  intro ab aa h hb;rw[qec,qqp]
  cases aa with
  |nil=>
   rw[ap,ma,qB]
   simp only[List.append_nil,List.all_nil,Bool.true_and,qZ,Nat.add_zero];congr 1;apply decide_eq_decide.2;omega
  |cons d aa=>
   simp only[qL]at h hb;rw[cw,ag,bm,qB,qy8 fu hfu,qB,aw _,List.all_cons]
   have:=ih (ab++[d]) aa (by omega) (by simp;omega)
   simp only[qM,qL,qZ,qS,wM]at this;cases tk d
   ·rfl
   ·rw[ay (by rfl),Bool.true_and]
    refine this.trans ?_;simp only[qL];congr 2;apply decide_eq_decide.2;omega
def qok(fu:Nat)(hfu:100<=fu)(s:Bs)(h:s.length<fu:=by omega)(hb:s.length<1000000000:=by omega):vz fu s=some (ej s):=by
 have:=zo8 fu fu hfu [] s h (by simpa using hb)
 simp only[List.nil_append,qZ,wO]at this;unfold vz;refine this.trans ?_;unfold ej
 cases s with
 |nil=>rfl|cons c s=>
  congr 1;rw[Bool.and_comm];congr 1;show decide _=(true&&decide _);rw[Bool.true_and];apply decide_eq_decide.2;simp only[qL];omega
open Go.Lib (decodeL decodeN decodeL_N validD validD_step decodeL_le decodeL_width)
def rn(l:Bs):Int×Int:=if(decodeL l).1=65533/\(decodeL l).2=1 then(-1,1) else(((decodeL l).1:Nat),((decodeL l).2:Nat))
def ni(a b:Nat)(h:a+b<9223372036854775808:=by omega):af ((a:Int)+(b:Int))=((a+b:Nat):Int):=by rw[d8];omega
def zki{α:Type}(ab l:List α)(k:Nat)(h:k<l.length):am (ab++l) ((ab.length+k:Nat):Int)=some l[k]:=by
 rw[uk _ _ (by simp;omega)];simp
def zkj(ab l:Bs)(k:Nat)(h:k<l.length):am (ab++l) ((ab.length+k:Nat):Int)=some (l.getD k 0):=by
 rw[zki ab l k h];simp[List.getD,h]
def qch(fu n:Nat)(ab l:Bs)(size v least k:Nat)(hk:k<size:=by omega)(hl:k<l.length:=by omega)(hv:v<10000000:=by omega)(hb:ab.length+l.length<1000000000:=by omega)(hs:size<=4:=by omega) :
  rq fu (n+1) (ab++l) (ab.length:Int) (size:Int) (v:Int) (least:Int) (k:Int) =
   if 128<=(l.getD k 0).toNat/\(l.getD k 0).toNat<=191 then rq fu n (ab++l) (ab.length:Int) (size:Int) ((64*v+(l.getD k 0).toNat-128:Nat):Int) (least:Int) ((k+1:Nat):Int) else some (-1,1):=by
 have hc:(l.getD k 0).toNat<256:=(l.getD k 0).toNat_lt;rw[rq,qjk,ag,ni _ _,zkj ab l k hl,qB,ma,qB,aw k]
 generalize (l.getD k 0).toNat=x at hc;by_cases h:128<=x/\x<=191
 ·rw[qX h,decide_eq_true (by omega),cf,show(64:Int)*(v:Int)=((64*v:Nat):Int) by omega,d8 (x:=((64*v:Nat):Int)) (by omega) (by omega),d8 (x:=((64*v:Nat):Int)+(x:Int)) (by omega) (by omega),d8]
  congr 1;omega
 ·rw[qW h,decide_eq_false (by omega),dh]
def qyi(fu n:Nat)(s:Bs)(i:Int)(size v least:Nat) :
  rq fu (n+1) s i (size:Int) (v:Int) (least:Int) (size:Int)=if v<least\/1114111<v\/(55296<=v/\v<=57343) then some (-1,1) else some ((v:Int),(size:Int)):=by
 rw[rq,qjk,ap]
 by_cases h1:v<least
 ·rw[ag,qX (.inl h1)]
 rw[ap]
 by_cases h2:1114111<v
 ·rw[ag,qX (.inr (.inl h2))]
 rw[ap,ma,qB]
 by_cases h3:55296<=v/\v<=57343
 ·rw[ag,qX (.inr (.inr h3))]
 ·rw[ap,qW (by omega)]
def qyh(fu:Nat)(ab l:Bs)(size v least:Nat)(h:l.length<size)(hs:size<=4:=by omega)(hb:ab.length+l.length<1000000000:=by omega):rp fu (ab++l) (ab.length:Int) (size:Int) (v:Int) (least:Int)=some (-1,1):=by
 rw[rp,iy,qW (by omega),ni _ _,qd9,ag (by rw[qno];omega)]
def qyg(fu:Nat)(ab l:Bs)(size v least:Nat)(h:¬l.length<size)(h0:size≠0:=by omega)(hs:size<=4:=by omega)(hb:ab.length+l.length<1000000000:=by omega):rp fu (ab++l) (ab.length:Int) (size:Int) (v:Int) (least:Int)=rq fu fu (ab++l) (ab.length:Int) (size:Int) (v:Int) (least:Int) ((1:Nat):Int):=by
 rw[rp,iy,qW (by omega),ni _ _,qd9,ap (by rw[qno];omega)];rfl
def qg5(x:Nat×Nat):Int×Int:=if x.1=65533/\x.2=1 then(-1,1) else((x.1:Nat),(x.2:Nat))
def qby:qg5 (65533,1)=(-1,1):=rfl
def qw8(x k:Nat)(h:k≠1):qg5 (x,k)=((x:Int),(k:Int)):=qW (fun q=>h q.2)
def nh(n b0 b1 b2 b3:Nat):Int×Int:=qg5 (decodeN n b0 b1 b2 b3)
def zpk(n b0 b1 b2 b3:Nat)(h:b0<128):nh n b0 b1 b2 b3=((b0:Int),1):=by
 unfold nh decodeN;rw[qX h];unfold qg5;rw[qW (fun q=>by have:=q.1;simp only at this;omega)];rfl
def zpl(n b0 b1 b2 b3:Nat)(h:192<=b0/\b0<=223)(h1:b1<256):nh n b0 b1 b2 b3=if n<2 then(-1,1) else if 128<=b1/\b1<=191 then(if(64*(b0-192)+b1-128)<128\/1114111<(64*(b0-192)+b1-128)\/(55296<=(64*(b0-192)+b1-128)/\(64*(b0-192)+b1-128)<=57343) then(-1,1) else(((64*(b0-192)+b1-128:Nat):Int),2)) else(-1,1):=by
 unfold nh decodeN;rw[qW (c:=b0<128) (by omega)]
 by_cases a1:b0/32=6/\(1<n/\b1/64=2)
 ·rw[qX a1,qW (c:=n<2) (by omega),qX (c:=128<=b1/\b1<=191) (by omega)]
  obtain⟨z,hz⟩:∃z,b0%32*64+b1%64=z:=⟨_,rfl⟩;obtain⟨y,hy⟩:∃y,64*(b0-192)+b1-128=y:=⟨_,rfl⟩;have hzy:z=y:=by omega
  have hm:y<2048:=by omega
  rw[hz,hy,hzy];by_cases a2:y ≥ 128
  ·rw[qX a2,qw8 _ _ (by decide),qW (by omega)];rfl
  ·rw[qW a2,qby,qX (by omega)]
 ·rw[qW a1,qW (c:=b0/16=14/\_) (by omega),qW (c:=b0/8=30/\_) (by omega),qby]
  by_cases a3:n<2
  ·rw[qX a3]
  ·rw[qW a3,qW (by omega)]
def zpm(n b0 b1 b2 b3:Nat)(h:224<=b0/\b0<=239)(h1:b1<256)(h2:b2<256):nh n b0 b1 b2 b3=if n<3 then(-1,1) else if 128<=b1/\b1<=191 then(if 128<=b2/\b2<=191 then(if(64*(64*(b0-224)+b1-128)+b2-128)<2048\/1114111<(64*(64*(b0-224)+b1-128)+b2-128)\/(55296<=(64*(64*(b0-224)+b1-128)+b2-128)/\(64*(64*(b0-224)+b1-128)+b2-128)<=57343) then(-1,1) else(((64*(64*(b0-224)+b1-128)+b2-128:Nat):Int),3)) else(-1,1)) else(-1,1):=by
 unfold nh decodeN;rw[qW (c:=b0<128) (by omega),qW (c:=b0/32=6/\_) (by omega)]
 by_cases a1:b0/16=14/\(1<n/\b1/64=2)/\(2<n/\b2/64=2)
 ·rw[qX a1,qW (c:=n<3) (by omega),qX (c:=128<=b1/\b1<=191) (by omega),qX (c:=128<=b2/\b2<=191) (by omega)]
  obtain⟨z,hz⟩:∃z,b0%16*4096+b1%64*64+b2%64=z:=⟨_,rfl⟩;obtain⟨y,hy⟩:∃y,64*(64*(b0-224)+b1-128)+b2-128=y:=⟨_,rfl⟩;have hzy:z=y:=by omega
  have hm:y<65536:=by omega
  rw[hz,hy,hzy];by_cases a2:y ≥ 2048/\(y<55296\/(57344<=y/\y<=1114111))
  ·rw[qX a2,qw8 _ _ (by decide),qW (by omega)];rfl
  ·rw[qW a2,qby,qX (by omega)]
 ·rw[qW a1,qW (c:=b0/8=30/\_) (by omega),qby]
  by_cases a3:n<3
  ·rw[qX a3]
  ·rw[qW a3];by_cases a4:128<=b1/\b1<=191
   ·rw[qX a4,qW (by omega)]
   ·rw[qW a4]
def zpn(n b0 b1 b2 b3:Nat)(h:240<=b0/\b0<=247)(h1:b1<256)(h2:b2<256)(h3:b3<256):nh n b0 b1 b2 b3=if n<4 then(-1,1) else if 128<=b1/\b1<=191 then(if 128<=b2/\b2<=191 then(if 128<=b3/\b3<=191 then(if(64*(64*(64*(b0-240)+b1-128)+b2-128)+b3-128)<65536\/1114111<(64*(64*(64*(b0-240)+b1-128)+b2-128)+b3-128)\/(55296<=(64*(64*(64*(b0-240)+b1-128)+b2-128)+b3-128)/\(64*(64*(64*(b0-240)+b1-128)+b2-128)+b3-128)<=57343) then(-1,1) else(((64*(64*(64*(b0-240)+b1-128)+b2-128)+b3-128:Nat):Int),4)) else(-1,1)) else(-1,1)) else(-1,1):=by
 unfold nh decodeN;rw[qW (c:=b0<128) (by omega),qW (c:=b0/32=6/\_) (by omega),qW (c:=b0/16=14/\_) (by omega)]
 by_cases a1:b0/8=30/\(1<n/\b1/64=2)/\(2<n/\b2/64=2)/\(3<n/\b3/64=2)
 ·rw[qX a1,qW (c:=n<4) (by omega),qX (c:=128<=b1/\b1<=191) (by omega),qX (c:=128<=b2/\b2<=191) (by omega),qX (c:=128<=b3/\b3<=191) (by omega)]
  obtain⟨z,hz⟩:∃z,b0%8*262144+b1%64*4096+b2%64*64+b3%64=z:=⟨_,rfl⟩;obtain⟨y,hy⟩:∃y,64*(64*(64*(b0-240)+b1-128)+b2-128)+b3-128=y:=⟨_,rfl⟩;have hzy:z=y:=by omega
  rw[hz,hy,hzy];by_cases a2:y ≥ 65536/\(y<55296\/(57344<=y/\y<=1114111))
  ·rw[qX a2,qw8 _ _ (by decide),qW (by omega)];rfl
  ·rw[qW a2,qby,qX (by omega)]
 ·rw[qW a1,qby];by_cases a3:n<4
  ·rw[qX a3]
  ·rw[qW a3];by_cases a4:128<=b1/\b1<=191
   ·rw[qX a4];by_cases a5:128<=b2/\b2<=191
    ·rw[qX a5,qW (by omega)]
    ·rw[qW a5]
   ·rw[qW a4]
def zpo(n b0 b1 b2 b3:Nat)(h:(128<=b0/\b0<192)\/248<=b0)(hb:b0<256):nh n b0 b1 b2 b3=(-1,1):=by
 unfold nh decodeN;rw[qW (c:=b0<128) (by omega),qW (c:=b0/32=6/\_) (by omega),qW (c:=b0/16=14/\_) (by omega),qW (c:=b0/8=30/\_) (by omega)];rfl
def zoq(l:Bs):rn l=nh l.length (l.getD 0 0).toNat (l.getD 1 0).toNat (l.getD 2 0).toNat (l.getD 3 0).toNat:=by unfold rn nh qg5;rw[decodeL_N]
def za2(fu:Nat)(hfu:10<=fu)(ab:Bs)(c:UInt8)(t:Bs)(hb:ab.length+t.length<100000000:=by omega):qd8 fu (ab++c::t) (ab.length:Int)=some (rn (c::t)):=by
 have hl:(c::t).length=t.length+1:=rfl;obtain⟨n,rfl⟩:∃n,fu=n+10:=⟨fu-10,by omega⟩
 rw[zoq,show(c::t).getD 0 0=c from rfl]
 generalize hl2:c::t=l at *;have b1:=(l.getD 1 0).toNat_lt;have b2:=(l.getD 2 0).toNat_lt;have b3:=(l.getD 3 0).toNat_lt;have hc:=c.toNat_lt;unfold qd8;rw[show am (ab++l) (ab.length:Int)=some c by rw[← hl2];exact bm ab c t,qB]
 by_cases h0:c.toNat<128
 ·rw[ag,zpk _ _ _ _ _ h0]
 rw[ap,ma,qB]
 by_cases h2:192<=c.toNat/\c.toNat<=223
 ·rw[ag,zpl _ _ _ _ _ h2 b1,d8,show(c.toNat:Int)-192=((c.toNat-192:Nat):Int) by omega]
  by_cases g:l.length<2
  ·rw[qX g];exact qyh (n+10) ab l 2 _ 128 g
  ·rw[qW g];refine(qyg (n+10) ab l 2 _ 128 g).trans ?_
   rw[qch (n+10) (n+9) ab l 2 _ 128 1]
   by_cases g1:128<=(l.getD 1 0).toNat/\(l.getD 1 0).toNat<=191
   ·rw[qX g1,qX g1];refine(qyi (n+10) (n+8) _ _ 2 _ 128).trans ?_;rw[qze];rfl
   ·rw[qW g1,qW g1]
 rw[ap,ma,qB]
 by_cases h3:224<=c.toNat/\c.toNat<=239
 ·rw[ag,zpm _ _ _ _ _ h3 b1 b2,d8,show(c.toNat:Int)-224=((c.toNat-224:Nat):Int) by omega]
  by_cases g:l.length<3
  ·rw[qX g];exact qyh (n+10) ab l 3 _ 2048 g
  ·rw[qW g];refine(qyg (n+10) ab l 3 _ 2048 g).trans ?_
   rw[qch (n+10) (n+9) ab l 3 _ 2048 1]
   by_cases g1:128<=(l.getD 1 0).toNat/\(l.getD 1 0).toNat<=191
   ·rw[qX g1,qX g1,qch (n+10) (n+8) ab l 3 _ 2048 2]
    by_cases g2:128<=(l.getD 2 0).toNat/\(l.getD 2 0).toNat<=191
    ·rw[qX g2,qX g2];refine(qyi (n+10) (n+7) _ _ 3 _ 2048).trans ?_;rw[qze];rfl
    ·rw[qW g2,qW g2]
   ·rw[qW g1,qW g1]
 rw[ap,ma,qB]
 by_cases h4:240<=c.toNat/\c.toNat<=247
 ·rw[ag,zpn _ _ _ _ _ h4 b1 b2 b3,d8,show(c.toNat:Int)-240=((c.toNat-240:Nat):Int) by omega]
  by_cases g:l.length<4
  ·rw[qX g];exact qyh (n+10) ab l 4 _ 65536 g
  ·rw[qW g];refine(qyg (n+10) ab l 4 _ 65536 g).trans ?_
   rw[qch (n+10) (n+9) ab l 4 _ 65536 1]
   by_cases g1:128<=(l.getD 1 0).toNat/\(l.getD 1 0).toNat<=191
   ·rw[qX g1,qX g1,qch (n+10) (n+8) ab l 4 _ 65536 2]
    by_cases g2:128<=(l.getD 2 0).toNat/\(l.getD 2 0).toNat<=191
    ·rw[qX g2,qX g2,qch (n+10) (n+7) ab l 4 _ 65536 3]
     by_cases g3:128<=(l.getD 3 0).toNat/\(l.getD 3 0).toNat<=191
     ·rw[qX g3,qX g3];refine(qyi (n+10) (n+6) _ _ 4 _ 65536).trans ?_;rw[qze];rfl
     ·rw[qW g3,qW g3]
    ·rw[qW g2,qW g2]
   ·rw[qW g1,qW g1]
 rw[ap,zpo _ _ _ _ _ (by omega) hc]
 rfl
def qog(l:Bs):(rn l).1<0↔((decodeL l).1=65533/\(decodeL l).2=1):=by
 unfold rn;split
 ·rename_i h;exact⟨fun _=>h,fun _=>by decide⟩
 ·rename_i h;exact⟨fun q=>absurd q (by simp only;omega),fun q=>absurd q h⟩
def qy5(l:Bs):(rn l).2=((decodeL l).2:Int):=by
 unfold rn;split
 ·rename_i h;rw[h.2];rfl
 ·rfl
def zrj(fu n:Nat)(hfu:10<=fu):∀(ab aa:Bs),aa.length<n->ab.length+aa.length<100000000->qei fu n (ab++aa) (ab.length:Int)=some (validD aa):=by
 induction n with
 |zero=>intro ab aa h;omega|succ n ih=>
  intro ab aa h hb;rw[qei,qqx]
  cases aa with
  |nil=>rw[ap];rfl|cons c t=>
   have hw:=decodeL_width (c::t);have hle:=decodeL_le (c::t) (by simp)
   simp only[qL]at h hb;rw[ag (by rw[cw];omega),za2 fu hfu ab c t,qB,validD_step (c::t) (by simp)]
   by_cases hbad:(decodeL (c::t)).1=65533/\(decodeL (c::t)).2=1
   ·rw[ag ((qog _).2 hbad),qX hbad]
   ·rw[ap (fun q=>hbad ((qog _).1 q)),qW hbad,qy5,ni _ _ (by simp only[qL]at hle;omega)]
    have:=ih (ab++(c::t).take (decodeL (c::t)).2) ((c::t).drop (decodeL (c::t)).2) (by rw[List.length_drop];simp only[qL];omega) (by rw[qM,List.length_take,List.length_drop];simp only[qL]at hle ⊢;omega)
    rw[qS,List.take_append_drop,qM,List.length_take,Nat.min_eq_left hle]at this;exact this
def zpq(fu:Nat)(hfu:10<=fu)(s:Bs)(h:s.length<fu:=by omega)(hb:s.length<100000000:=by omega):qeh fu s=some (validD s):=by
 have:=zrj fu fu hfu [] s h (by simpa using hb)
 simpa [qeh] using this
def zrf:qqu (-1)=some [239,191,189]:=by rfl
def zrt(n:Nat):∀(b:Bool)(l:Bs),(vu [239,191,189] n b l).length<=3*l.length:=by
 induction n with
 |zero=>intro b l;simp[vu]|succ n ih=>
  intro b l
  cases l with
  |nil=>simp[vu]|cons c t=>
   rw[vu];split
   ·have:=ih true t;rw[qM];simp only[qL];cases b<;>simp<;>omega
   ·have:=ih false ((c::t).drop (decodeL (c::t)).2);have hle:=decodeL_le (c::t) (by simp)
    rw[qM,List.length_take];rw[List.length_drop]at this;omega
def qcz(rep:Bs):∀(n:Nat)(b:Bool)(l:Bs),l.length<=n->vu rep n b l=vu rep l.length b l:=by
 intro n
 induction n using Nat.strongRecOn with
 |ind n ih=>
  intro b l h
  cases l with
  |nil=>cases n<;>rfl
  |cons c t=>
   obtain⟨m,rfl⟩:∃m,n=m+1:=⟨n-1,by simp only[qL]at h;omega⟩
   simp only[qL]at h ⊢;have hw:=decodeL_width (c::t);rw[vu,vu];have hd:((c::t).drop (decodeL (c::t)).2).length<=t.length:=by rw[List.length_drop];simp only[qL];omega
   rw[ih m (by omega) true t (by omega),ih m (by omega) false _ (by omega)]
   by_cases hm:t.length<m+1
   ·rw[ih t.length (by omega) true t (wF _),ih t.length (by omega) false _ hd]
   ·omega
def zn5(fu n:Nat)(hfu:10<=fu):∀(ab aa out:Bs)(bad:Bool),aa.length<n->ab.length+aa.length<100000000->out.length+3*aa.length<400000000 ->
  qep fu n (ab++aa) out bad (ab.length:Int)=some (out++vu [239,191,189] aa.length bad aa):=by
 induction n with
 |zero=>intro ab aa out bad h;omega|succ n ih=>
  intro ab aa out bad h hb ho;rw[qep,qq2]
  cases aa with
  |nil=>rw[ap];simp[vu]|cons c t=>
   have hw:=decodeL_width (c::t);have hle:=decodeL_le (c::t) (by simp)
   simp only[qL]at h hb ho;rw[ag (by rw[cw];omega),za2 fu hfu ab c t,qB]
   show _=some (out++vu [239,191,189] (t.length+1) bad (c::t));rw[vu];by_cases hbad:(decodeL (c::t)).1=65533/\(decodeL (c::t)).2=1
   ·have hneg:=(qog _).2 hbad;rw[ap,qX hbad,decide_eq_true hneg,qy5,hbad.2,zrf,qB,ni _ _]
    have:=fun o=>ih (ab++[c]) t o true (by omega) (by simp;omega)
    simp only[qM,qL,qZ,qS,wM,wO]at this;cases bad
    ·rw[dh,ag (by simp[aq];omega)]
     refine(this (out++[239,191,189]) (by simp;omega)).trans ?_
     simp
    ·rw[cf];refine(this out (by omega)).trans ?_
     simp
   ·have hneg:¬(rn (c::t)).1<0:=fun q=>hbad ((qog _).1 q)
    have hle':=hle;simp only[qL]at hle';rw[ag,qW hbad,decide_eq_false hneg,qy5,ni _ _,ag (by rw[cw];omega)]
    have e:List.take (((ab.length+(decodeL (c::t)).2:Nat):Int).toNat-((ab.length:Nat):Int).toNat) (List.drop ((ab.length:Nat):Int).toNat (ab++c::t))=(c::t).take (decodeL (c::t)).2:=by
     rw[xg];congr 1;omega
    rw[e,ag (by rw[List.length_take,Nat.min_eq_left hle];simp[aq];omega)]
    have:=ih (ab++(c::t).take (decodeL (c::t)).2) ((c::t).drop (decodeL (c::t)).2) (out++(c::t).take (decodeL (c::t)).2) false (by rw[List.length_drop];simp only[qL];omega) (by rw[qM,List.length_take,List.length_drop];simp only[qL]at hle ⊢;omega) (by rw[qM,List.length_take,List.length_drop];simp only[qL]at hle ⊢;omega)
    rw[qS,List.take_append_drop,qM,List.length_take,Nat.min_eq_left hle]at this;refine this.trans ?_;rw[qS,qcz _ t.length false ((c::t).drop (decodeL (c::t)).2) (by rw[List.length_drop];simp only[qL];omega)]
def zn7(fu:Nat)(hfu:10<=fu)(s:Bs)(h:s.length<fu:=by omega)(hb:s.length<100000000:=by omega):qjn fu s=some (vu [239,191,189] s.length false s):=by
 have:=zn5 fu fu hfu [] s [] false h (by simpa using hb) (by simp;omega)
 simpa [qjn] using this
def zqw(s:Bs)(h:s.length<=1000000):ws s [239,191,189]=some (vu [239,191,189] s.length false s):=by
 unfold ws;rw[ag ⟨h,by simp⟩]
def zrg(s:Bs)(h:s.length<=1000000:=by omega):wt s=some (validD s):=by
 unfold wt;rw[ag]
end Go.Sym
namespace Go.Sym
open Go.Lib (validD)
abbrev cd:Type:=Bs×Bs
abbrev dt:Type:=Bs×Bs×List cd
def jg(l:List cd):Prop:=l.length<=4000000/\∀x∈l,x.1.length<=4000000/\x.2.length<=4000000
def ru(m:dt):Prop:=m.1.length<=4000000/\m.2.1.length<=4000000/\jg m.2.2
def lk(a b:Bs):Bool:=a.map lo==b.map lo
def qxt(a b:Bs):lk a b=lk b a:=by unfold lk;rw[Bool.eq_iff_iff];simp only[beq_iff_eq];exact⟨Eq.symm,Eq.symm⟩
def qxu(a:Bs):lk a a=true:=by unfold lk;simp
def qr(fu:Nat)(hfu:90000000<=fu)(a b:Bs)(ha:a.length<=4000000)(hb:b.length<=4000000):ep fu a b=some (lk a b):=
 zh4 fu a b (by omega) (by omega) (by simp[maxLen];omega) (by simp[maxLen];omega)
def w7(fu:Nat)(hfu:90000000<=fu)(a b:Bs)(ha:a.length<=4000000)(hb:b.length<=4000000):jf fu a b=some (lk a b):=
 q5d fu a b (by omega) (by omega) (by simp[maxLen];omega) (by simp[maxLen];omega)
def zk2(fu n:Nat)(hfu:90000000<=fu)(p:cd)(hp:p.1.length<=4000000):∀(ab aa:List cd),aa.length<n->ab.length+aa.length<100000000->(∀x∈aa,x.1.length<=4000000) ->
  ∃i:Int,qf1 fu n (ab++aa) ((ab.length+aa.length:Nat):Int) (ab.length:Int) p=some (i,p)/\decide (0<=i)=aa.any (fun x=>lk x.1 p.1):=by
 induction n with
 |zero=>intro ab aa h;omega|succ n ih=>
  intro ab aa h hb hs;rw[qf1,qtr]
  cases aa with
  |nil=>rw[ap];exact⟨_,rfl,rfl⟩|cons d aa=>
   simp only[qL]at h hb;rw[ag (by simp only[qL];omega),bm,qB,qsp,qr fu hfu _ _ (hs d qH) hp,qB,qB,aw _]
   obtain⟨i,h1,h2⟩:=ih (ab++[d]) aa (by omega) (by simp;omega) (fun x hx=>hs x (qE _ hx))
   simp only[qM,qL,qZ,qS,wM,wO]at h1;cases e:lk d.1 p.1
   ·simp only[qF,List.any_cons,e,Bool.false_or];rw[show(ab.length+(d::aa).length:Nat)=ab.length+1+aa.length by simp only[qL];omega]
    exact⟨i,h1,h2⟩
   ·simp only[qT,List.any_cons,e,Bool.true_or];exact⟨_,rfl,decide_eq_true (by omega)⟩
def zia(fu:Nat)(hfu:90000000<=fu)(l:List cd)(p:cd)(hp:p.1.length<=4000000)(hs:jg l):qk0 fu l p=some (l.any (fun x=>lk x.1 p.1),p):=by
 obtain⟨i,h1,h2⟩:=zk2 fu fu hfu p hp [] l (by have:=hs.1;omega) (by have:=hs.1;simp;omega) (fun x hx=>(hs.2 x hx).1)
 simp only[List.nil_append,qZ,wO]at h1;unfold qk0 qtq;rw[← h2];exact(congrArg (fun q=>Option.bind q fun x1=>some (decide ((0:Int)<=x1.1),x1.2)) h1).trans rfl
def qn:List cd->List cd->Int×Int
 |_,[]=>(0,0)|ab,p::l=>if ej p.1=false\/20<p.1.length then(10,ab.length) else if ab.any (fun x=>lk x.1 p.1)=true then(7,ab.length) else if 500<p.2.length then(1,ab.length)
  else if validD p.2=false then(5,ab.length) else qn (ab++[p]) l
def fe(m:dt):Int×Int:=if ej m.1=false\/ej m.2.1=false then(10,-2) else if 60<m.2.2.length then(2,-3) else qn [] m.2.2
def jg.mono{l l':List cd}(h:jg l)(h1:l'.length<=l.length)(h2:∀x∈l',x∈l):jg l':=⟨Nat.le_trans h1 h.1,fun x hx=>h.2 x (h2 x hx)⟩
def oz(a b:Int):ch a b=some (a,b):=rfl
def ur(a b:Int):gp a b=some (a,b):=rfl
def zlq:ee=some ((0:Int),(0:Int)):=rfl
def zlw(fu n:Nat)(hfu:90000000<=fu)(m:dt)(z:Int×Int):∀(ab aa:List cd),m.2.2=ab++aa->aa.length<n->jg (ab++aa) ->
  qak fu n (ab++aa) ((ab.length+aa.length:Nat):Int) (ab.length:Int) m z=some (qn ab aa):=by
 induction n with
 |zero=>intro ab aa _ h;omega|succ n ih=>
  intro ab aa hm h hs;rw[qak,qsq]
  cases aa with
  |nil=>rw[ap];rfl|cons p aa=>
   have hp:=hs.2 p (by simp)
   have hl:=hs.1;simp only[qL,qM]at h hl;rw[ag (by simp only[qL];omega),bm,qB,qos fu _,qB,qn]
   have hp3:wi fu (qak fu n) (ab.length:Int) (ab++p::aa) ((ab.length+(p::aa).length:Nat):Int) (ab.length:Int) false m z p =
     some (if ab.any (fun x=>lk x.1 p.1)=true then(7,(ab.length:Int)) else if 500<p.2.length then(1,(ab.length:Int)) else if validD p.2=false then(5,(ab.length:Int)) else qn (ab++[p]) aa):=by
    rw[wi,ay rfl,ag (by rw[hm,cw];omega),hm,yq,zia fu hfu ab p hp.1 (hs.mono (by simp) (fun x hx=>by simp[hx])),qB]
    simp only[];by_cases h1:ab.any (fun x=>lk x.1 p.1)=true
    ·rw[qX h1,au h1,oz];rfl
    rw[qW h1,ay (by simpa using h1)]
    by_cases h2:500<p.2.length
    ·rw[qX h2,ag,oz];rfl
    rw[qW h2,ap,zrg _,qB]
    cases h3:validD p.2
    ·rw[dh,qX rfl,oz];rfl
    ·rw[cf,qW (by simp),aw _]
     have:=ih (ab++[p]) aa (by rw[hm];simp) (by omega) (by simpa using hs)
     simp only[qM,qL,qZ,qS,wM,wO]at this;rw[show(ab.length+(p::aa).length:Nat)=ab.length+1+aa.length by simp only[qL];omega]
     exact this
   cases h0:ej p.1
   ·rw[dh,qX (.inl rfl),wi,au rfl,oz];rfl
   rw[cf];by_cases h20:20<p.1.length
   ·rw[decide_eq_true (by omega),qX (.inr h20),wi,au rfl,oz];rfl
   ·rw[decide_eq_false (p:=(20:Int)<(List.length p.1:Int)) (by omega),hp3,qW (c:=true=false\/20<p.1.length) (by simp;omega)]
def qx3(fu:Nat)(hfu:90000000<=fu)(m:dt)(hs:ru m):rr fu m=some (fe m):=by
 obtain⟨h1,h2,h3⟩:=hs;unfold rr fe;rw[qos fu m.1,qB,qos fu m.2.1]
 cases g1:ej m.1
 ·rw[dh,qaj,au rfl,oz,qX (.inl rfl)];rfl
 rw[cf,qB];cases g2:ej m.2.1
 ·rw[qaj,dh,oz,qX (.inr rfl)];rfl
 rw[qaj,cf,qsr,qW (by simp)]
 by_cases g3:60<m.2.2.length
 ·rw[ag,qX g3,oz];rfl
 ·rw[ap,qW g3]
  have:=zlw fu fu hfu m (0,0) [] m.2.2 rfl (by have:=h3.1;omega) h3
  simpa using this
def zon(fu n:Nat)(hfu:90000000<=fu)(r2:(Int->(Bs×Bs×(List (Bs×Bs)))->(Int×Int)->Option ((Int×Int))))(m:dt)(z:Int×Int)(p:cd)(rest:List cd)(hp:p.1.length<=4000000):∀(ab aa:List cd),m.2.2=ab++aa++p::rest->aa.length<n->jg m.2.2 ->
  qdt fu r2 n ((ab.length+aa.length:Nat):Int) (ab.length:Int) m z p =
   if aa.any (fun x=>lk x.1 p.1)=true then some (7,((ab.length+aa.length:Nat):Int)) else bif decide ((500:Int)<(List.length p.2:Int)) then(gp (1:Int) ((ab.length+aa.length:Nat):Int)).bind fun x4=>some x4 else(qeh fu p.2).bind fun x5=>bif !x5 then(gp (5:Int) ((ab.length+aa.length:Nat):Int)).bind fun x6=>some x6 else r2 (af (((ab.length+aa.length:Nat):Int)+(1:Int))) m z:=by
 induction n with
 |zero=>intro ab aa _ h;omega|succ n ih=>
  intro ab aa hm h hs;rw[qdt,qp9]
  cases aa with
  |nil=>rw[ap,qW (by simp)]|cons d aa=>
   have hl:=hs.1;rw[hm]at hl;simp only[qL,qM]at h hl;rw[ag (by simp only[qL];omega)]
   have hx:am m.2.2 (ab.length:Int)=some d:=by rw[hm,qS,wK];exact bm ab d _
   rw[hx,qB,w7 fu hfu _ _ (hs.2 d (by rw[hm];simp)).1 hp,qB,aw _]
   have:=ih (ab++[d]) aa (by rw[hm];simp) (by omega) hs
   simp only[qM,qL,qZ,qS,wM,wO]at this;cases e:lk d.1 p.1
   ·simp only[qF,List.any_cons,e,Bool.false_or];rw[show(ab.length+(d::aa).length:Nat)=ab.length+1+aa.length by simp only[qL];omega]
    exact this
   ·simp only[qT,List.any_cons,e,Bool.true_or,if_true];rfl
def zom(fu n:Nat)(hfu:90000000<=fu)(m:dt)(z:Int×Int)(hs:jg m.2.2):∀(ab aa:List cd),m.2.2=ab++aa->aa.length<n ->
  vm fu n (ab.length:Int) m z=some (qn ab aa):=by
 induction n with
 |zero=>intro ab aa _ h;omega|succ n ih=>
  intro ab aa hm h;rw[vm,qp8,hm]
  cases aa with
  |nil=>rw[ap];rfl|cons p aa=>
   have hp:=hs.2 p (by rw[hm];simp)
   have hl:=hs.1;rw[hm]at hl;simp only[qL,qM]at h hl;rw[ag (by rw[cw];omega),bm,qB,qok fu (by omega) _,qB,qn]
   have hp3:vn fu (vm fu n) (ab.length:Int) false m z p =
     some (if ab.any (fun x=>lk x.1 p.1)=true then(7,(ab.length:Int)) else if 500<p.2.length then(1,(ab.length:Int)) else if validD p.2=false then(5,(ab.length:Int)) else qn (ab++[p]) aa):=by
    rw[vn,ay rfl,qqb];have:=zon fu fu hfu (vm fu n) m z p aa hp.1 [] ab (by rw[hm];simp) (by omega) hs
    simp only[qZ,wO]at this;refine(this:_=_).trans ?_;by_cases h1:ab.any (fun x=>lk x.1 p.1)=true
    ·rw[qX h1,qX h1]
    rw[qW h1,qW h1];by_cases h2:500<p.2.length
    ·rw[qX h2,ag];rfl
    rw[qW h2,ap,zpq fu (by omega) _,qB]
    cases h3:validD p.2
    ·rw[dh,qX rfl];rfl
    ·rw[cf,qW (by simp),aw _]
     have:=ih (ab++[p]) aa (by rw[hm];simp) (by omega)
     simpa only [qM,qL,qZ,wO] using this
   cases h0:ej p.1
   ·rw[dh,qX (.inl rfl),vn,au rfl,ur];rfl
   rw[cf];by_cases h20:20<p.1.length
   ·rw[decide_eq_true (by omega),qX (.inr h20),vn,au rfl,ur];rfl
   ·rw[decide_eq_false (p:=(20:Int)<(List.length p.1:Int)) (by omega),hp3,qW (c:=true=false\/20<p.1.length) (by simp;omega)]
def zal(fu:Nat)(hfu:90000000<=fu)(m:dt)(hs:ru m):qds fu m=some (fe m):=by
 obtain⟨h1,h2,h3⟩:=hs;unfold qds fe;rw[qok fu (by omega) m.1,qB,qok fu (by omega) m.2.1]
 cases g1:ej m.1
 ·rw[dh,zg,au rfl,ur,qX (.inl rfl)];rfl
 rw[cf,qB];cases g2:ej m.2.1
 ·rw[zg,dh,ur,qX (.inr rfl)];rfl
 rw[zg,cf,qqa,qW (by simp)]
 by_cases g3:60<m.2.2.length
 ·rw[ag,qX g3,ur];rfl
 ·rw[ap,qW g3]
  exact zom fu fu hfu m (0,0) h3 [] m.2.2 rfl (by have:=h3.1;omega)
def par(l:List cd)(nm:Bs):Option Bs:=(l.find? fun x=>lk x.1 nm).map (·.2)
def bp(l:List cd)(nm:Bs):Bs×Bool:=match par l nm with|some v=>(v,true)|none=>([],false)
def qyk(p:cd)(l:List cd)(nm:Bs):bp (p::l) nm=if lk p.1 nm=true then(p.2,true) else bp l nm:=by
 unfold bp par;rw[List.find?_cons];cases lk p.1 nm<;>rfl
def zls(fu n:Nat)(hfu:90000000<=fu)(nm:Bs)(hn:nm.length<=4000000)(z:Int×Int):∀(ab aa:List cd),aa.length<n->jg (ab++aa) ->
  qfd fu n nm (ab++aa) ((ab.length+aa.length:Nat):Int) (ab.length:Int) z=some ((bp aa nm).1,((bp aa nm).2,(0,0))):=by
 induction n with
 |zero=>intro ab aa h;omega|succ n ih=>
  intro ab aa h hs;rw[qfd,qsn]
  cases aa with
  |nil=>rw[ap];rfl|cons p aa=>
   have hl:=hs.1;simp only[qL,qM]at h hl;rw[ag (by simp only[qL];omega),bm,qB,qr fu hfu _ _ (hs.2 p (by simp)).1 hn,qB,aw _,qyk]
   have:=ih (ab++[p]) aa (by omega) (by simpa using hs)
   simp only[qM,qL,qZ,qS,wM,wO]at this;cases e:lk p.1 nm
   ·rw[ay rfl,show(ab.length+(p::aa).length:Nat)=ab.length+1+aa.length by simp only[qL];omega]
    exact this
   ·rfl
def qx2(fu:Nat)(hfu:90000000<=fu)(m:dt)(nm:Bs)(hn:nm.length<=4000000)(hs:ru m):po fu m nm=some (if(fe m).1≠0 then([],(false,fe m)) else((bp m.2.2 nm).1,((bp m.2.2 nm).2,(0,0)))):=by
 unfold po;rw[qx3 fu hfu m hs,qB,qd,qB,fj];by_cases h:(fe m).1≠0
 ·rw[qX h,qX h]
 ·rw[qW h,qW h];have:=zls fu fu hfu nm hn (0,0) [] m.2.2 (by have:=hs.2.2.1;omega) hs.2.2
  simpa using this
def zoz(fu n:Nat)(hfu:90000000<=fu)(nm:Bs)(hn:nm.length<=4000000)(m:dt)(hs:jg m.2.2):∀(ab aa:List cd),m.2.2=ab++aa->aa.length<n ->
  qd3 fu n nm (ab.length:Int) m=some (bp aa nm):=by
 induction n with
 |zero=>intro ab aa _ h;omega|succ n ih=>
  intro ab aa hm h;rw[qd3,qqk,hm]
  cases aa with
  |nil=>rw[ap];rfl|cons p aa=>
   have hl:=hs.1;rw[hm]at hl;simp only[qL,qM]at h hl;rw[ag (by rw[cw];omega),bm,qB,w7 fu hfu _ _ (hs.2 p (by rw[hm];simp)).1 hn,qB,aw _,qyk]
   have:=ih (ab++[p]) aa (by rw[hm];simp) (by omega)
   simp only[qM,qL,qZ,wO]at this;cases e:lk p.1 nm
   ·rw[ay rfl];exact this
   ·rfl
def qhy(fu:Nat)(hfu:90000000<=fu)(m:dt)(nm:Bs)(hn:nm.length<=4000000)(hs:jg m.2.2):vv fu m nm=some (bp m.2.2 nm):=
 zoz fu fu hfu nm hn m hs [] m.2.2 rfl (by have:=hs.1;omega)
end Go.Sym
namespace Go.Sym
def zq0(fu n:Nat):∀(s:List UInt8),s.length<n->s.length<1000000000->qf9 fu n s (jz [32,9])=some (a8 s,jz [32,9]):=by
 induction n with
 |zero=>intro s h;omega|succ n ih=>
  intro s h hb;rw[qf9,qt9]
  cases s with
  |nil=>rw[ap];rfl|cons c s=>
   simp only[qL]at h hb;rw[ag,show am (c::s) (0:Int)=some c from rfl,qB,qwj ac3,qB,q5x,oy]
   cases bl c
   ·rfl
   ·rw[cf,ag (by simp only[qL];omega)]
    exact ih s (by omega) (by omega)
def qcc(s:Bs):a8 (a8 s)=a8 s:=by
 induction s with
 |nil=>rfl|cons c s ih=>
  rw[oy];by_cases h:bl c=true
  ·rw[qX h];exact ih
  ·rw[qW h,oy,qW h]
def qk(s:Bs):a8 s <:+ s:=List.dropWhile_suffix _
def zq1(fu:Nat)(s:List UInt8)(hfu:100<=fu:=by omega)(h:s.length<fu:=by omega)(hb:s.length<1000000000:=by omega):qla fu s [32,9]=some (a8 s):=by
 unfold qla
 cases s with
 |nil=>rfl|cons c s=>
  rw[ay (by rfl)]
  unfold qlb;rw[ay (by rfl)]
  unfold qt2;rw[ay (by decide)]
  unfold qlc;rw[ay (by rfl)]
  unfold qt3;obtain⟨n,rfl⟩:∃n,fu=n+100:=⟨fu-100,by omega⟩
  rw[ac3.set,qB];simp only[ac3.len];rw[au (by rw[List.length_replicate];rfl),au]
  unfold qt8;rw[zq0 _ _ _ h hb];rfl
def qbg(fu:Nat)(hfu:90000000<=fu)(s:Bs)(h:s.length<=4000000):tz fu s=some (a8 s):=by
 unfold tz;rw[zq1 fu s];rfl
def bt(p:UInt8->Bool)(s:Bs):Bs×Bs:=((a8 s).takeWhile p,(a8 s).dropWhile p)
def dm(c:UInt8):Bool:=tk c||c==42
def jq(c:UInt8):Bool:=tk c||(c==37||(c==39||c==42))
def vb(P:UInt8->Option Bool):Nat->Int->Bs->Option (Bs×Bs)
 |0,_,_=>none|n+1,s5,m0=>bif decide (s5<(List.length m0:Int)) then(am m0 s5).bind fun c1=>(P c1).bind fun x2=>(bif x2 then vb P n (af (s5+(1:Int))) m0 else bif decide (0<=s5/\s5<=(List.length m0:Int)) then bif decide (0<=s5/\s5<=(List.length m0:Int)) then some (List.take s5.toNat m0,List.drop s5.toNat m0) else none else none)
  else(bif false then vb P n (af (s5+(1:Int))) m0 else bif decide (0<=s5/\s5<=(List.length m0:Int)) then bif decide (0<=s5/\s5<=(List.length m0:Int)) then some (List.take s5.toNat m0,List.drop s5.toNat m0) else none else none)
def zqn(P:UInt8->Option Bool)(p:UInt8->Bool)(hP:∀c,P c=some (p c))(n:Nat):∀(ab aa:Bs),aa.length<n->ab.length+aa.length<9223372036854775807 ->
  vb P n (ab.length:Int) (ab++aa)=some (ab++aa.takeWhile p,aa.dropWhile p):=by
 induction n with
 |zero=>intro ab aa h;omega|succ n ih=>
  intro ab aa h hb;rw[vb]
  cases aa with
  |nil=>rw[ap,ay rfl,ag,ag,yq,xg];simp|cons d aa=>
   simp only[qL]at h hb;rw[ag (by rw[cw];omega),bm,qB,hP,qB,aw _,yq,xg,List.takeWhile_cons,List.dropWhile_cons]
   have:=ih (ab++[d]) aa (by omega) (by simp;omega)
   simp only[qM,qL,qZ,qS,wM,wO]at this;cases p d
   ·rw[ay rfl,ag (by rw[cw];omega),ag (by rw[cw];omega)];simp
   ·rw[au rfl];simpa using this
def qzr(P:UInt8->Option Bool)(p:UInt8->Bool)(hP:∀c,P c=some (p c))(fu:Nat)(hfu:90000000<=fu)(s:Bs)(h:s.length<=4000000):vb P fu 0 (a8 s)=some (bt p s):=by
 have hl:=ku s;have:=zqn P p hP fu [] (a8 s) (by omega) (by simp;omega)
 simpa [bt] using this
def zbq(fu:Nat)(hfu:90000000<=fu)(s:Bs)(h:s.length<=4000000:=by omega):qfq fu s=some (bt tk s):=by
 have e:∀n,qfr fu n=vb nr n:=by
  intro n;induction n with|zero=>rfl|succ n ih=>rw[qfr,ih];funext a b;rfl
 unfold qfq;rw[qbg fu hfu s h,qB,e];exact qzr _ tk qib fu hfu s h
def zqs(c:UInt8):qfp c=some (dm c):=by
 unfold qfp dm;rw[qib,qB];cases tk c<;>rfl
def zqt(c:UInt8):qfu c=some (jq c):=by
 unfold qfu jq;rw[qib,qB];cases tk c
 ·cases c==37
  ·cases c==39<;>rfl
  ·rfl
 ·rfl
def zql(fu:Nat)(hfu:90000000<=fu)(s:Bs)(h:s.length<=4000000):qkk fu s=some (bt dm s):=by
 have e:∀n,qfs fu n=vb qfp n:=by
  intro n;induction n with|zero=>rfl|succ n ih=>rw[qfs,ih];funext a b;rfl
 unfold qkk;rw[qbg fu hfu s h,qB,e];exact qzr _ dm zqs fu hfu s h
def zqm(fu:Nat)(hfu:90000000<=fu)(s:Bs)(h:s.length<=4000000:=by omega):qkl fu s=some (bt jq s):=by
 have e:∀n,qft fu n=vb qfu n:=by
  intro n;induction n with|zero=>rfl|succ n ih=>rw[qft,ih];funext a b;rfl
 unfold qkl;rw[qbg fu hfu s h,qB,e];exact qzr _ jq zqt fu hfu s h
def c7(c:UInt8)(s:Bs):Bool×Bs:=match a8 s with|[]=>(false,[])|d::t=>if d=c then(true,t) else(false,d::t)
def qnx(fu:Nat)(hfu:90000000<=fu)(c:UInt8)(s:Bs)(h:s.length<=4000000:=by omega):wj fu c s=some (c7 c s):=by
 unfold wj c7;rw[qbg fu hfu s h,qB]
 cases a8 s with
 |nil=>rfl|cons d t=>
  rw[ay (by rfl),show am (d::t) (0:Int)=some d from rfl,qB,qbf]
  by_cases hd:d=c
  ·rw[qW (by simp[hd]),ag (by simp only[qL];omega)];simp[hd]
  ·rw[qX hd];simp[hd]
def qv:Bs->Bs->Option (Bs×Bs)
 |_,[]=>none| out,c::t=>if c=34 then some (out,t) else if c=92 then(match t with
  |[]=>none| d::t'=>qv (out++[d]) t') else qv (out++[c]) t
def qcj(out:Bs)(c:UInt8)(t:Bs):qv out (c::t)=if c=34 then some (out,t) else if c=92 then(match t with
  |[]=>none| d::t'=>qv (out++[d]) t') else qv (out++[c]) t:=by cases t<;>rfl
def lb:4000000000<=bg:=by decide
def znq(fu n:Nat):∀(ab aa out:Bs),aa.length<n->ab.length+aa.length<100000000->out.length+aa.length<100000000 ->
  qfv fu n (ab.length:Int) (ab++aa) out=some (match qv out aa with|some (v,t)=>(v,(true,t))|none=>([],(false,ab++aa))):=by
 have hrm:=lb
 induction n using Nat.strongRecOn with
 |ind n ih=>
  intro ab aa out h hb ho;obtain⟨n,rfl⟩:∃m,n=m+1:=⟨n-1,by omega⟩
  rw[qfv,qs4]
  cases aa with
  |nil=>rw[ap];rfl|cons c t=>
   simp only[qL]at h hb ho;rw[ag (by rw[cw];omega),bm,qB,aw _,kh]
   have ih1:=ih n (by omega) (ab++[c]) t (out++[c]) (by omega) (by simp;omega) (by simp;omega)
   simp only[qM,qL,qZ,qS,wM,wO]at ih1;by_cases h1:c=34
   ·rw[qX h1,ag (by rw[cw];omega),qmn,qcj,qX h1]
   rw[qW h1,kh];by_cases h2:c=92
   ·rw[qX h2,iy,cw]
    cases t with
    |nil=>rw[qX (by simp),qcj,qW h1,qX h2]|cons d t=>
     simp only[qL]at h hb ho ⊢;rw[qW (by omega),show am (ab++c::d::t) ((ab.length+1:Nat):Int)=some d by have:=bm (ab++[c]) d t;simpa using this,qB,ag,aw _,qcj,qW h1,qX h2]
     have ih2:=ih n (by omega) (ab++[c,d]) t (out++[d]) (by omega) (by simp;omega) (by simp;omega)
     simp only[qM,qL,qZ,qS,wK,List.nil_append,wO]at ih2;exact ih2
   ·rw[qW h2,ag,qcj,qW h1,qW h2]
    exact ih1
def vd(s:Bs):Option (Bs×Bs):=if(c7 34 s).1=true then qv [] (c7 34 s).2 else some (bt jq (c7 34 s).2)
def qcp(c:UInt8)(s:Bs):(c7 c s).2.length<=s.length:=by
 have:=ku s;unfold c7
 cases h:a8 s with
 |nil=>simp|cons d t=>
  rw[h]at this;simp only[qL]at this;by_cases hd:d=c
  ·simp only[qX hd];omega
  ·simp only[qW hd,qL];omega
def zrn(fu:Nat)(hfu:90000000<=fu)(s:Bs)(h:s.length<=4000000:=by omega):∃r,qkm fu s=some (match vd s with|some (v,t)=>(v,(true,t))|none=>([],(false,r))):=by
 have hl:=qcp 34 s;unfold qkm vd;rw[qnx fu hfu 34 s h,qB];cases hs:(c7 34 s).1
 ·rw[dh,zqm fu hfu _,qW (by simp)]
  exact⟨[],rfl⟩
 ·rw[cf,qX rfl];have:=znq fu fu [] (c7 34 s).2 [] (by omega) (by simp;omega) (by simp;omega)
  exact⟨(c7 34 s).2,by simpa using this⟩
def ow(s:Bs):Option ((Bs×Bs)×Bs):=if(c7 61 (bt dm s).2).1=true then(vd (c7 61 (bt dm s).2).2).map fun x=>(((bt dm s).1,x.1),x.2) else none
def yp(p:UInt8->Bool)(s:Bs):(bt p s).1.length+(bt p s).2.length<=s.length:=by
 have:=ku s;have h:=congrArg List.length (List.takeWhile_append_dropWhile (p:=p) (l:=a8 s));rw[qM]at h;unfold bt;simp only;omega
def q9v:∀(out s v t:Bs),qv out s=some (v,t)->v.length+t.length<out.length+s.length/\t <:+ s:=by
 intro out s
 induction s using WellFounded.induction (r:=fun(a b:Bs)=>a.length<b.length) (hwf:=InvImage.wf List.length Nat.lt_wfRel.wf) generalizing out with
 |_ s ih=>
  intro v t h
  cases s with
  |nil=>cases h
  |cons c s=>
   rw[qcj]at h;by_cases h1:c=34
   ·rw[qX h1]at h;cases h;exact⟨by simp,List.suffix_cons _ _⟩
   rw[qW h1]at h;by_cases h2:c=92
   ·rw[qX h2]at h
    cases s with
    |nil=>cases h
    |cons d s=>
     obtain⟨g1,g2⟩:=ih s (by simp;omega) (out++[d]) v t h
     refine⟨by simp at g1 ⊢;omega,g2.trans ((List.suffix_cons _ _).trans (List.suffix_cons _ _))⟩
   ·rw[qW h2]at h;obtain⟨g1,g2⟩:=ih s (by simp) (out++[c]) v t h
    exact⟨by simp at g1 ⊢;omega,g2.trans (List.suffix_cons _ _)⟩
def zbb(c:UInt8)(s:Bs):(c7 c s).2 <:+ s:=by
 have:=qk s;unfold c7
 cases h:a8 s with
 |nil=>simp|cons d t=>
  rw[h]at this;by_cases hd:d=c
  ·simp only[qX hd];exact(List.suffix_cons _ _).trans this
  ·simp only[qW hd];exact this
def zbr(p:UInt8->Bool)(s:Bs):(bt p s).2 <:+ s:=(List.dropWhile_suffix _).trans (qk s)
def zrh{s v t:Bs}(h:vd s=some (v,t)):v.length+t.length<=s.length/\t <:+ s:=by
 have hl:=qcp 34 s;have hx:=zbb 34 s;unfold vd at h;by_cases hs:(c7 34 s).1=true
 ·rw[qX hs]at h;obtain⟨g1,g2⟩:=q9v [] _ _ _ h;exact⟨by simp at g1;omega,g2.trans hx⟩
 ·rw[qW hs]at h;have e:=qJ h;have g1:=yp jq (c7 34 s).2;have g2:=zbr jq (c7 34 s).2;rw[e]at g1 g2;simp only at g1 g2;exact⟨by omega,g2.trans hx⟩
def qxs{s n v t:Bs}(h:ow s=some ((n,v),t)):n.length+v.length+t.length<=s.length/\t <:+ s:=by
 have h1:=yp dm s;have h1':=zbr dm s;have h2:=qcp 61 (bt dm s).2;have h2':=zbb 61 (bt dm s).2;unfold ow at h;by_cases hs:(c7 61 (bt dm s).2).1=true
 ·rw[qX hs]at h
  cases hv:vd (c7 61 (bt dm s).2).2 with
  |none=>rw[hv]at h;cases h
  |some x=>
   rw[hv]at h;obtain⟨g1,g2⟩:=zrh (v:=x.1) (t:=x.2) hv;have e:=qJ h;obtain⟨rfl,e2⟩:=Prod.mk.inj (Prod.mk.inj e).1;obtain rfl:=(Prod.mk.inj e).2;subst e2;exact⟨by omega,g2.trans (h2'.trans h1')⟩
 ·rw[qW hs]at h;cases h
def pos(s r:Bs):Int:=((s.length-r.length:Nat):Int)
def qhq{s r:Bs}(h:r <:+ s):List.drop (pos s r).toNat s=r:=(List.suffix_iff_eq_drop.1 h).symm
def q9n{s r:Bs}(h:r <:+ s):∃p,s=p++r/\pos s r=(p.length:Int):=by
 obtain⟨p,rfl⟩:=h;exact⟨p,rfl,by unfold pos;simp⟩
def uz{s:Bs}{c:UInt8}{t:Bs}(h:(c::t) <:+ s):am s (pos s (c::t))=some c:=by
 obtain⟨p,rfl,e⟩:=q9n h;rw[e];exact bm p c t
def o6{s:Bs}{c:UInt8}{t:Bs}(h:(c::t) <:+ s)(hb:s.length<1000000000:=by omega):af (pos s (c::t)+1)=pos s t:=by
 have:=h.length_le;simp only[qL]at this;unfold pos;rw[aw _];simp only[qL];omega
def l8{s:Bs}{c:UInt8}{t:Bs}(h:(c::t) <:+ s):pos s (c::t)<(s.length:Int):=by
 have:=h.length_le;simp only[qL]at this;unfold pos;simp only[qL];omega
def ij(s:Bs):pos s []=(s.length:Int):=by unfold pos;simp
def qyr(s:Bs):pos s s=0:=by unfold pos;simp
def sy(s r:Bs):0<=pos s r/\pos s r<=(s.length:Int):=by unfold pos;omega
def qys{s r r':Bs}(h2:r' <:+ r):pos s r<=pos s r':=by have:=h2.length_le;unfold pos;omega
def qyt{s r r':Bs}(h:r <:+ s)(h2:r' <:+ r):List.take ((pos s r').toNat-(pos s r).toNat) (List.drop (pos s r).toNat s)=r.take (r.length-r'.length):=by
 rw[qhq h];have:=h.length_le;have:=h2.length_le;congr 1;unfold pos;omega
def zqo(p:UInt8->Bool)(r:Bs):r.take (r.length-(r.dropWhile p).length)=r.takeWhile p:=by
 have h:r.takeWhile p++r.dropWhile p=r:=List.takeWhile_append_dropWhile;have h2:=congrArg List.length h;rw[qM]at h2;rw[show r.length-(r.dropWhile p).length=(r.takeWhile p).length by omega]
 have e:r.take (r.takeWhile p).length=(r.takeWhile p++r.dropWhile p).take (r.takeWhile p).length:=by rw[h]
 rw[e,List.take_left]
def zpu(fu n:Nat)(s:Bs)(hb:s.length<100000000):∀(r:Bs),r <:+ s->r.length<n->qer fu n s (pos s r)=some (pos s (a8 r)):=by
 induction n with
 |zero=>intro r _ h;omega|succ n ih=>
  intro r hr h;rw[qer,qq4]
  cases r with
  |nil=>rw[ij,ap];simp[a8,ij]|cons c t=>
   rw[ag (l8 hr),uz hr,qB,qck,qB,o6 hr,oy]
   cases hc:bl c
   ·rfl
   ·rw[au rfl,qX rfl];exact ih t ((List.suffix_cons _ _).trans hr) (by simp only[qL]at h;omega)
def u7(fu:Nat)(hfu:90000000<=fu){s r:Bs}(h:s.length<=4000000)(hr:r <:+ s):pm fu s (pos s r)=some (pos s (a8 r)):=
 zpu fu fu s (by omega) r hr (by have:=hr.length_le;omega)
def zpg(fu n:Nat)(hfu:90000000<=fu)(more:Bs)(hm:more.length<100)(s:Bs)(hb:s.length<100000000):∀(r:Bs),r <:+ s->r.length<n->qeq fu n s (pos s r) more=some (pos s (r.dropWhile fun c=>tk c||more.contains c)):=by
 induction n with
 |zero=>intro r _ h;omega|succ n ih=>
  intro r hr h;rw[qeq,qq3]
  cases r with
  |nil=>rw[ij,ap];simp[ij]|cons c t=>
   rw[ag (l8 hr),uz hr,qB,qy8 fu (by omega),qB,o6 hr,List.dropWhile_cons]
   have:=ih t ((List.suffix_cons _ _).trans hr) (by simp only[qL]at h;omega)
   cases hc:tk c
   ·rw[ay rfl,qB,q89 fu c more,qB,Bool.false_or]
    cases hd:more.contains c
    ·rfl
    ·rw[au rfl];exact this
   ·rw[au rfl];exact this
def qh0(fu:Nat)(hfu:90000000<=fu)(more:Bs)(hm:more.length<100){s r:Bs}(h:s.length<=4000000)(hr:r <:+ s)(p:UInt8->Bool)(hp:∀c,(tk c||more.contains c)=p c) :
  zw fu s (pos s r) more=some (pos s (r.dropWhile p)):=by
 have:=zpg fu fu hfu more hm s (by omega) r hr (by have:=hr.length_le;omega)
 rw[show(fun c=>tk c||more.contains c)=p from funext hp]at this
 exact this
open Go.Lib (decDigits nDigits itoa atoiAll parseUint10 parseMag NumEnd)
def qg1(d:Nat)(h:d<10:=by omega):(UInt8.ofNat (48+d)).toNat=48+d:=by
 rw[UInt8.toNat_ofNat'];omega
def qbp(u:Nat)(h:u<10):decDigits u=[UInt8.ofNat (48+u)]:=by rw[decDigits,dif_pos h]
def qbo(u:Nat)(h:¬u<10):decDigits u=decDigits (u/10)++[UInt8.ofNat (48+u%10)]:=by rw[decDigits,dif_neg h]
def q6r(u:Nat):decDigits u≠[]:=by
 by_cases h:u<10
 ·rw[qbp u h];simp
 ·rw[qbo u h];simp
def q6q(u:Nat):∀c∈decDigits u,48<=c.toNat/\c.toNat<=57:=by
 induction u using Nat.strongRecOn with
 |ind u ih=>
  intro c hc;by_cases h:u<10
  ·rw[qbp u h]at hc;rw[List.mem_singleton.1 hc,qg1 u h];omega
  ·rw[qbo u h]at hc;rcases List.mem_append.1 hc with hc|hc
   ·exact ih (u/10) (by omega) c hc
   ·rw[List.mem_singleton.1 hc,qg1 _];omega
def qgy(k:Nat):∀u,u<10 ^ k->1<=k->(decDigits u).length<=k:=by
 induction k with
 |zero=>intro u _ h;omega|succ k ih=>
  intro u hu _;by_cases h:u<10
  ·rw[qbp u h];simp
  ·rw[qbo u h,qM,wD];have hk:1<=k:=by
    rcases Nat.eq_zero_or_pos k with h0|h0
    ·subst h0;simp at hu;omega
    ·exact h0
   have:=ih (u/10) (by rw[Nat.pow_succ]at hu;omega) hk
   omega
def qc(a:Nat)(l:Bs):Nat:=l.foldl (fun a c=>10*a+(c.toNat-48)) a
def zi5(u:Nat):qc 0 (decDigits u)=u:=by
 induction u using Nat.strongRecOn with
 |ind u ih=>
  by_cases h:u<10
  ·rw[qbp u h];show 10*0+((UInt8.ofNat (48+u)).toNat-48)=u;rw[qg1 u h];omega
  ·rw[qbo u h];unfold qc;rw[List.foldl_append];have:=ih (u/10) (by omega)
   unfold qc at this;rw[this];show 10*(u/10)+((UInt8.ofNat (48+u%10)).toNat-48)=u;rw[qg1 _];omega
def zms:∀(l:Bs)(a:Nat)(c:UInt8),parseUint10 a (l++[c])=match parseUint10 a l with | .ok b=>parseUint10 b [c]|e=>e:=by
 intro l
 induction l with
 |nil=>intro a c;rfl|cons d l ih=>
  intro a c;rw[wK,parseUint10,parseUint10];by_cases h1:48<=d.toNat/\d.toNat<=57
  ·rw[qX h1,qX h1];by_cases h2:1844674407370955162<=a
   ·rw[qX h2,qX h2]
   ·rw[qW h2,qW h2];by_cases h3:18446744073709551616<=a*10+(d.toNat-48)
    ·rw[qX h3,qX h3]
    ·rw[qW h3,qW h3,ih]
  ·rw[qW h1,qW h1]
def zmt(u:Nat):u<9223372036854775808->parseUint10 0 (decDigits u) = .ok u:=by
 induction u using Nat.strongRecOn with
 |ind u ih=>
  intro hu;have step:∀a d,a*10+d=u->d<10->parseUint10 a [UInt8.ofNat (48+d)] = .ok u:=by
   intro a d h1 h2;rw[parseUint10,qg1 d h2,qX (by omega),qW (by omega),qW (by omega),parseUint10]
   congr 1;omega
  by_cases h:u<10
  ·rw[qbp u h];exact step 0 u (by omega) h
  ·rw[qbo u h,zms,ih (u/10) (by omega) (by omega)]
   exact step (u/10) (u%10) (by omega) (by omega)
def zhg(u:Nat)(hu:u<9223372036854775808:=by omega):atoiAll (decDigits u) = .ok (u:Int):=by
 have hd:=q6q u;have hp:=zmt u hu;have hne:=q6r u
 cases hl:decDigits u with
 |nil=>exact absurd hl hne|cons c r=>
  rw[hl]at hd hp;have hc:=hd c qH;unfold atoiAll;simp only[];rw[qW (c:=c.toNat=43\/c.toNat=45) (by omega),parseMag,qW (by simp),hp]
  simp only[];rw[qW (by omega),qW (by omega),qW (by omega)]
def qxl(u:Nat):itoa (u:Int)=decDigits u:=by unfold itoa;rw[qW (by omega)];simp
def zl9(u:Nat)(most:Int)(h:(u:Int)<=most)(hm:most<9223372036854775808):ge (decDigits u) most=((u:Int),true):=by
 unfold ge;rw[zhg u]
 simp only[];rw[qX ⟨qxl u,by omega,h⟩]
def qyb{s:Bs}{most:Int}(h:(ge s most).2=true):∃u:Nat,s=decDigits u/\(u:Int)<=most/\ge s most=((u:Int),true):=by
 have h0:=h;unfold ge at h;split at h
 ·rename_i v hv;by_cases hc:itoa v=s/\0<=v/\v<=most
  ·obtain⟨u,rfl⟩:∃u:Nat,v=u:=⟨v.toNat,by omega⟩
   refine⟨u,by rw[← hc.1,qxl],hc.2.2,?_⟩
   unfold ge;rw[hv];simp only[];rw[qX hc]
  ·rw[qW hc]at h;cases h
 ·cases h
def qov{x:Int}(h1:0<=x:=by omega)(h2:x<18446744073709551616:=by omega):IntKind.u64.wrap x=x:=by
 unfold IntKind.wrap;simp[IntKind.signed,IntKind.bits];omega
def q6u(d:Nat)(h:d<10):List.take (d+1-d) (List.drop d ([48,49,50,51,52,53,54,55,56,57]:Bs))=[UInt8.ofNat (48+d)]:=by
 have:∀d:_root_.Fin 10,List.take (d.val+1-d.val) (List.drop d.val ([48,49,50,51,52,53,54,55,56,57]:Bs))=[UInt8.ofNat (48+d.val)]:=by decide
 exact this ⟨d,h⟩
def ziu(fu:Nat)(k:Nat):∀(n u:Nat),k<=n->u<10 ^ k->1<=k->u<9223372036854775808->qek fu n (u:Int)=some (decDigits u):=by
 induction k with
 |zero=>intro n u _ _ h;omega|succ k ih=>
  intro n u hn hu _ hb;obtain⟨n,rfl⟩:∃m,n=m+1:=⟨n-1,by omega⟩
  rw[qek,qjl];by_cases h:u<10
  ·rw[ag,show(u:Int)+1=((u+1:Nat):Int) by omega,qov,ag,qbp u h]
   simp only[qY];rw[q6u u h]
  ·have hk:1<=k:=by
    rcases Nat.eq_zero_or_pos k with h0|h0
    ·subst h0;simp at hu;omega
    ·exact h0
   have e1:Int.tdiv (u:Int) 10=((u/10:Nat):Int):=by rw[Int.tdiv_eq_ediv_of_nonneg (by omega)];omega
   have e2:Int.tmod (u:Int) 10=((u%10:Nat):Int):=by rw[Int.tmod_eq_emod_of_nonneg (by omega)];omega
   have hr:=ih n (u/10) (by omega) (by rw[Nat.pow_succ]at hu;omega) hk (by omega)
   have ac:(decDigits (u/10)).length<=19:=qgy 19 _ (by omega) (by omega)
   rw[ap,e1,qov,hr,qB,e2,show((u%10:Nat):Int)+1=((u%10+1:Nat):Int) by omega,qov,ag]
   simp only[qY];simp only[q6u (u%10) (Nat.mod_lt _ (by decide))]
   rw[ag (by simp[aq];omega),qbo u h]
def qyc(fu:Nat)(hfu:100<=fu)(u:Nat)(hu:u<9223372036854775808:=by omega):tl fu (u:Int)=some (decDigits u):=by
 unfold tl qqz;rw[ap,qov,ziu fu 19 fu u (by omega) (by omega) (by omega) hu];rfl
def ziy(fu n:Nat):∀(ab aa:Bs)(a:Nat),aa.length<n->ab.length+aa.length<100000000->ab.length<=9->a<10 ^ ab.length ->
  qem fu n (ab++aa) 1 9 (a:Int) (ab.length:Int)=some (if(∀c∈aa,48<=c.toNat/\c.toNat<=57)/\1<=ab.length+aa.length/\ab.length+aa.length<=9 then(qc a aa:Int) else -1):=by
 induction n with
 |zero=>intro ab aa a h;omega|succ n ih=>
  intro ab aa a h hb hp ha;have hpow:10 ^ ab.length<=10 ^ 9:=Nat.pow_le_pow_right (by omega) hp
  rw[qem,qq0]
  cases aa with
  |nil=>
   rw[ap,ma,qB]
   simp only[List.append_nil,qZ,Nat.add_zero,List.not_mem_nil,false_implies,implies_true,true_and];by_cases h1:1<=ab.length/\ab.length<=9
   ·rw[decide_eq_true (by omega),cf,qX h1];rfl
   ·rw[decide_eq_false (by omega),dh,qW h1]
  |cons c t=>
   simp only[qL]at h hb;rw[ag (by rw[cw];omega),bm,qB,ma,qB]
   by_cases hc:48<=c.toNat/\c.toNat<=57
   ·rw[decide_eq_true (by omega),cf,qen]
    by_cases h9:9<=ab.length
    ·rw[ag,qW (by simp only[qL];omega)]
    ·rw[ap,qq1,bm,qB,aw _]
     have hsub:(c-48).toNat=c.toNat-48:=by
      rw[UInt8.toNat_sub_of_le _ _ (by rw[UInt8.le_iff_toNat_le];show 48<=_;omega)];rfl
     rw[hsub,show(10:Int)*(a:Int)=((10*a:Nat):Int) by omega,d8 (x:=((10*a:Nat):Int)) (by omega) (by omega),ni _ _]
     have:=ih (ab++[c]) t (10*a+(c.toNat-48)) (by omega) (by simp;omega) (by simp;omega) (by simp only[qM,qL,qZ,wO,Nat.pow_succ];omega)
     simp only[qM,qL,qZ,qS,wM,wO]at this;refine this.trans ?_;congr 1;by_cases hq:(∀x∈t,48<=x.toNat/\x.toNat<=57)/\1<=ab.length+1+t.length/\ab.length+1+t.length<=9
     ·rw[qX hq,qX ⟨fun x hx=>(List.mem_cons.1 hx).elim (fun e=>e▸hc) (hq.1 x),by simp only[qL];omega,by simp only[qL];omega⟩];rfl
     ·rw[qW hq,qW (fun g=>hq ⟨fun x hx=>g.1 x (qE _ hx),by have:=g.2;simp only[qL]at this;omega,by have:=g.2;simp only[qL]at this;omega⟩)]
   ·rw[decide_eq_false (by omega),dh,qen,au rfl,qW (fun g=>hc (g.1 c qH))]
def zix(fu:Nat)(s:Bs)(h:s.length<fu)(hb:s.length<100000000):qel fu s 1 9=some (if(∀c∈s,48<=c.toNat/\c.toNat<=57)/\1<=s.length/\s.length<=9 then(qc 0 s:Int) else -1):=by
 have:=ziy fu fu [] s 0 h (by simpa using hb) (by simp) (by simp)
 simpa [qel] using this
def zi6:∀(s:Bs)(a k:Nat),(∀c∈s,48<=c.toNat/\c.toNat<=57)->a<10 ^ k->qc a s<10 ^ (k+s.length):=by
 intro s
 induction s with
 |nil=>intro a k _ h;exact h|cons c s ih=>
  intro a k hd h;have hc:=hd c qH;have:=ih (10*a+(c.toNat-48)) (k+1) (fun x hx=>hd x (qE _ hx)) (by rw[Nat.pow_succ];omega)
  rw[qL,show k+(s.length+1)=k+1+s.length by omega];exact this
def ya(s:Bs):Option Int:=if(ge s 1099511627776).2=true/\(ge s 1099511627776).1<1000000000 then some (ge s 1099511627776).1 else none
def zl8(fu:Nat)(hfu:1000<=fu)(s:Bs)(h:s.length<fu:=by omega)(hb:s.length<100000000:=by omega):∃x:Int,qel fu s 1 9=some x /\
  ((ya s=some x/\0<=x/\tl fu x=some s)\/(ya s=none/\(x<0\/(0<=x/\∃t,tl fu x=some t/\t≠s)))):=by
 refine⟨_,zix fu s h hb,?_⟩;by_cases hq:(∀c∈s,48<=c.toNat/\c.toNat<=57)/\1<=s.length/\s.length<=9
 ·rw[qX hq];have hlt:qc 0 s<1000000000:=by
   have h1:=zi6 s 0 0 hq.1 (by simp)
   have h2:10 ^ (0+s.length)<=10 ^ 9:=Nat.pow_le_pow_right (by omega) (by omega)
   omega
  have hN:=qyc fu (by omega) (qc 0 s)
  by_cases he:decDigits (qc 0 s)=s
  ·refine .inl ⟨?_,by omega,by rw[hN,he]⟩
   have:=zl9 (qc 0 s) 1099511627776 (by omega) (by decide)
   rw[he]at this;unfold ya;rw[this,qX ⟨rfl,by simp only;omega⟩]
  ·refine .inr ⟨?_,.inr ⟨by omega,_,hN,he⟩⟩
   unfold ya;rw[qW];rintro⟨g1,_⟩
   obtain⟨u,rfl,_,_⟩:=qyb g1;exact he (by rw[zi5])
 ·rw[qW hq];refine .inr ⟨?_,.inl (by omega)⟩
  unfold ya;rw[qW];rintro⟨g1,g2⟩
  obtain⟨u,rfl,_,g3⟩:=qyb g1;rw[g3]at g2;simp only at g2;refine hq ⟨q6q u,?_,qgy 9 u (by omega) (by omega)⟩
  have:=q6r u
  cases hd:decDigits u with|nil=>exact absurd hd this|cons=>simp
end Go.Sym
namespace Go.Sym
def hv(c:UInt8):Option UInt8:=if 48<=c/\c<=57 then some (c-48) else if 65<=c/\c<=70 then some (c-65+10) else if 97<=c/\c<=102 then some (c-97+10) else none
def hx(a b:UInt8):Option UInt8:=(hv a).bind fun x=>(hv b).map fun y=>16*x+y
def zhq:∀n:_root_.Fin 256,qaf (UInt8.ofNat n.val)=some ((hv (UInt8.ofNat n.val)).getD 0,(hv (UInt8.ofNat n.val)).isSome):=by decide +kernel
def zhr(c:UInt8):qaf c=some ((hv c).getD 0,(hv c).isSome):=si (fun c=>qaf c=some ((hv c).getD 0,(hv c).isSome)) zhq c
def ot(c:UInt8):Int:=match hv c with|some x=>(x.toNat:Int)|none => -1
def mt:List UInt8:=[48,49,50,51,52,53,54,55,56,57,65,66,67,68,69,70]
def qhb(c:UInt8):Nat->Nat->Int|0,_ => -1|m+1,k=>if mt.getD k 0=c then(k:Int) else if(mt.map lo).getD k 0=c then(k:Int) else qhb c m (k+1)
def zj8:∀n:_root_.Fin 256,qhb (UInt8.ofNat n.val) 16 0=ot (UInt8.ofNat n.val):=by decide +kernel
def zok(fu:Nat)(hfu:16<fu)(c:UInt8):∀(m k n:Nat),m+k=16->m<n->ze fu n c (k:Int)=some (qhb c m k):=by
 intro m
 induction m with
 |zero=>
  intro k n hk hn;obtain⟨n,rfl⟩:∃j,n=j+1:=⟨n-1,by omega⟩
  rw[ze,qjc,ap];rfl
 |succ m ih=>
  intro k n hk hn;obtain⟨n,rfl⟩:∃j,n=j+1:=⟨n-1,by omega⟩
  have h1:k<mt.length:=by show k<16;omega
  have h2:k<(mt.map lo).length:=by show k<16;omega
  have i1:am mt (k:Int)=some (mt.getD k 0):=by rw[uk _ _ h1];exact congrArg some (List.getElem_eq_getD 0)
  have i2:am (mt.map lo) (k:Int)=some ((mt.map lo).getD k 0):=by rw[uk _ _ h2];exact congrArg some (List.getElem_eq_getD 0)
  rw[ze,qjc,ag]
  rw[show([48,49,50,51,52,53,54,55,56,57,65,66,67,68,69,70]:List UInt8)=mt from rfl]
  rw[i1,qB,kh,qhb];by_cases q:mt.getD k 0=c
  ·rw[qX q,qX q]
  ·rw[qW q,qW q,qn8 fu mt (by show 16<fu;omega) (by decide),qB,i2,qB,kh]
   by_cases q2:(mt.map lo).getD k 0=c
   ·rw[qX q2,qX q2]
   ·rw[qW q2,qW q2,aw _,ih (k+1) n (by omega) (by omega)]
def qof(fu:Nat)(hfu:17<fu)(c:UInt8):vl fu c=some (ot c):=by
 have:=zok fu (by omega) c 16 0 fu rfl (by omega)
 unfold vl;rw[show(0:Int)=((0:Nat):Int) from rfl,this,si (fun c=>qhb c 16 0=ot c) zj8 c]
def zkb:∀n:_root_.Fin 256,(hv (UInt8.ofNat n.val)).all (fun x=>decide (x.toNat<16))=true:=by decide +kernel
def qnf(c x:UInt8)(h:hv c=some x):x.toNat<16:=by
 have:=si (fun c=>(hv c).all (fun x=>decide (x.toNat<16))=true) zkb c
 rw[h]at this;simpa using this
def zq7:∀x y:_root_.Fin 16,(o9 (UInt8.ofNat x.val) (min (4:Int).toNat 8))|||UInt8.ofNat y.val=16*UInt8.ofNat x.val+UInt8.ofNat y.val/\fh (af ((af ((16:Int)*((UInt8.ofNat x.val).toNat:Int)))+((UInt8.ofNat y.val).toNat:Int)))=16*UInt8.ofNat x.val+UInt8.ofNat y.val:=by decide +kernel
def zb4(x y:UInt8)(hx1:x.toNat<16)(hy1:y.toNat<16):(o9 x (min (4:Int).toNat 8))|||y=16*x+y/\fh (af ((af ((16:Int)*(x.toNat:Int)))+(y.toNat:Int)))=16*x+y:=by
 have:=zq7 ⟨x.toNat,hx1⟩ ⟨y.toNat,hy1⟩;simpa using this
def qci:Bs->Option UInt8|a::b::_=>hx a b|_=>none
def zmk(r:Bs):∃v,qah r=some (v,(qci r).isSome)/\∀x,qci r=some x->v=x:=by
 match r with
 |[]=>exact⟨0,rfl,fun x h=>by cases h⟩
 |[_]=>exact⟨0,rfl,fun x h=>by cases h⟩
 |a::b::t=>
  have e:qah (a::b::t)=some ((o9 ((hv a).getD 0) (min (4:Int).toNat 8))|||(hv b).getD 0,(hv a).isSome&&(hv b).isSome):=by
   unfold qah;rw[ap (by simp only[qL];omega),show am (a::b::t) 0=some a from rfl,show am (a::b::t) 1=some b from rfl]
   simp only[qB,zhr];cases (hv a).isSome<;>rfl
  rw[e,show qci (a::b::t)=hx a b from rfl]
  unfold hx
  cases ha:hv a with
  |none=>exact⟨_,rfl,fun x h=>by cases h⟩
  |some x=>
   cases hb:hv b with
   |none=>exact⟨_,rfl,fun x h=>by cases h⟩
   |some y=>exact⟨_,rfl,fun z h=>by cases h;exact(zb4 x y (qnf a x ha) (qnf b y hb)).1⟩
def ei:Bs->Bs|[]=>[]|[c]=>[c]|[c,d]=>[c,d]|c::a::b::r=>if c=37 then(match hx a b with|some x=>x::ei r|none=>c::ei (a::b::r)) else c::ei (a::b::r)
def qym(c:UInt8)(r:Bs)(h:c≠37):ei (c::r)=c::ei r:=by
 match r with|[]=>rfl|[_]=>rfl|_::_::_=>rw[ei,qW h]
def qyl(r:Bs):ei (37::r)=match qci r with|some x=>x::ei (r.drop 2)|none=>37::ei r:=by
 match r with
 |[]=>rfl|[_]=>rfl|a::b::t=>
  rw[ei,qX rfl];show _=match hx a b with|some x=>x::ei t|none=>37::ei (a::b::t)
  cases hx a b<;>rfl
def q9l:∀(n:Nat)(s:Bs),s.length<=n->(ei s).length<=s.length:=by
 intro n
 induction n with
 |zero=>intro s h;have:s=[]:=List.eq_nil_of_length_eq_zero (by omega);subst this;simp[ei]|succ n ih=>
  intro s h
  cases s with
  |nil=>simp[ei]|cons c r=>
   simp only[qL]at h;have h1:=ih r (by omega)
   by_cases hc:c=37
   ·subst hc;rw[qyl]
    cases hp:qci r with
    |none=>simp only[qL];omega|some x=>
     have h2:=ih (r.drop 2) (by simp;omega)
     simp only[qL,List.length_drop]at h2 ⊢;omega
   ·rw[qym c r hc];simp only[qL];omega
def zqq(fu n:Nat):∀(ab aa out:Bs),aa.length<n->ab.length+aa.length<100000000->out.length+aa.length<100000000 ->
  qfn fu n (ab++aa) (ab.length:Int) out=some (out++ei aa):=by
 have hrm:=lb
 induction n using Nat.strongRecOn with
 |ind n ih=>
  intro ab aa out h hb ho;obtain⟨n,rfl⟩:∃m,n=m+1:=⟨n-1,by omega⟩
  rw[qfn,qsz]
  cases aa with
  |nil=>rw[ap];simp[ei]|cons c t=>
   simp only[qL]at h hb ho;have one:=ih n (by omega) (ab++[c]) t (out++[c]) (by omega) (by simp;omega) (by simp;omega)
   simp only[qM,qL,qZ,qS,wM,wO]at one;rw[ag (by rw[cw];omega),bm,qB,kh,aw _]
   by_cases hc:c=37
   ·rw[qX hc,ag (by rw[cw];omega),qmn]
    obtain⟨v,h1,h2⟩:=zmk t;rw[h1,qB];subst hc;rw[qyl]
    cases hp:qci t with
    |none=>
     rw[Option.isSome_none,ay rfl,qB,ag]
     exact one
    |some x=>
     obtain⟨a,b,r,rfl⟩:∃a b r,t=a::b::r:=by
      match t,hp with|a::b::r,_=>exact⟨a,b,r,rfl⟩
     simp only[qL]at h hb ho;rw[Option.isSome_some,au rfl,h2 x hp,ag,show(ab.length:Int)+2=((ab.length+2:Nat):Int) by omega,d8 (x:=((ab.length+2:Nat):Int)) (by omega) (by omega),aw _]
     have two:=ih n (by omega) (ab++[37,a,b]) r (out++[x]) (by omega) (by simp;omega) (by simp;omega)
     simp only[qM,qL,qZ,qS,wK,List.nil_append,wO]at two;exact two
   ·rw[qW hc,qB,ag,qym c t hc]
    exact one
def qoo(k:Int)(v:Bs):Bs:=if k=0/\6<=v.length/\lk (v.take 6) [117,116,102,56,39,39]=true then v.drop 6 else v
def mf(p:Pc):Bs:=if p.2.2.1=true then ei (qoo p.2.1 p.2.2.2) else p.2.2.2
def qoq(fu:Nat)(hfu:90000000<=fu)(s:Bs)(h:s.length<=4000000):qao fu s=some (ei s):=by
 unfold qao;have:=zqq fu fu [] s [] (by omega) (by simp;omega) (by simp;omega)
 simpa using this
def zqp(fu:Nat)(hfu:90000000<=fu)(p:Pc)(h:p.2.2.2.length<=4000000:=by omega):qkh fu p=some (mf p):=by
 unfold qkh mf qoo;cases hs:p.2.2.1
 ·rfl
 rw[cf,qX rfl,iy];by_cases h0:p.2.1=0
 ·rw[qX h0];by_cases h6:6<=p.2.2.2.length
  ·rw[ag,ag,qr fu hfu _ _ (by show(List.take 6 _).length<=_;rw[List.length_take];omega) (by simp),qB]
   show tx fu p.2.2.2 (lk (p.2.2.2.take 6) _)=_;rw[tx];cases hl:lk (p.2.2.2.take 6) [117,116,102,56,39,39]
   ·rw[ay rfl,qoq fu hfu _ h,qW (by simp)]
   ·rw[au rfl,ag]
    show qao fu (p.2.2.2.drop 6)=_;rw[qoq fu hfu _ (by simp;omega),qX ⟨h0,h6,rfl⟩]
  ·rw[ap,tx,ay rfl,qoq fu hfu _ h,qW (by omega)]
 ·rw[qW h0,tx,ay rfl,qoq fu hfu _ h,qW (by omega)]
def qia(p:Pc):(mf p).length<=p.2.2.2.length:=by
 unfold mf;split
 ·refine Nat.le_trans (q9l _ _ (wF _)) ?_;unfold qoo;split
  ·simp
  ·exact wF _
 ·exact wF _
def qh4(ab:Bs)(c:UInt8)(t:Bs):List.take (((ab.length+1:Nat):Int).toNat-((ab.length:Nat):Int).toNat) (List.drop ((ab.length:Nat):Int).toNat (ab++c::t))=[c]:=by
 rw[xg,show((ab.length+1:Nat):Int).toNat-((ab.length:Nat):Int).toNat=1 by omega];rfl
def zre(fu n:Nat)(hfu:100<=fu):∀(ab aa out:Bs),aa.length<n->ab.length+aa.length<100000000->out.length+aa.length<100000000 ->
  zx fu n (ab++aa) out (ab.length:Int)=some (out++ei aa):=by
 induction n using Nat.strongRecOn with
 |ind n ih=>
  intro ab aa out h hb ho;obtain⟨n,rfl⟩:∃m,n=m+1:=⟨n-1,by omega⟩
  rw[zx,qq5]
  cases aa with
  |nil=>rw[ap];simp[ei]|cons c t=>
   simp only[qL]at h hb ho;have one:=ih n (by omega) (ab++[c]) t (out++[c]) (by omega) (by simp;omega) (by simp;omega)
   simp only[qM,qL,qZ,qS,wM,wO]at one;have hno:tn fu (zx fu n) (ab++c::t) out (ab.length:Int) false=some (out++c::ei t):=by
    rw[tn,ay rfl,aw _,ag (by rw[cw];omega),qh4,ag (by simp[aq];omega),one]
    try simp
   rw[ag (by rw[cw];omega),bm,qB,kh,show(ab.length:Int)+2=((ab.length+2:Nat):Int) by omega,d8 (x:=((ab.length+2:Nat):Int)) (by omega) (by omega),aw _]
   by_cases hc:c=37
   ·subst hc;rw[qX rfl,qyl]
    match t with
    |[]=>rw[ap (by rw[cw];simp only[qZ];omega),hno];rfl|[x]=>rw[ap (by rw[cw];simp only[qL,qZ];omega),hno];rfl|a::b::r=>
     simp only[qL]at h hb ho;have i1:am (ab++37::a::b::r) ((ab.length+1:Nat):Int)=some a:=by have:=bm (ab++[37]) a (b::r);simpa using this
     have i2:am (ab++37::a::b::r) ((ab.length+2:Nat):Int)=some b:=by have:=bm (ab++[37,a]) b r;simpa using this
     rw[ag (by rw[cw];simp only[qL];omega),i1,qB,qof fu (by omega),qB]
     show _=some (out++match hx a b with|some x=>x::ei r|none=>37::ei (a::b::r))
     unfold hx
     cases ha:hv a with
     |none=>
      have:ot a = -1:=by unfold ot;rw[ha]
      rw[this,ap,hno];rfl
     |some x=>
      have hI:ot a=(x.toNat:Int):=by unfold ot;rw[ha]
      rw[hI,ag,i2,qB,qof fu (by omega),qB]
      cases hb':hv b with
      |none=>
       have:ot b = -1:=by unfold ot;rw[hb']
       rw[this,decide_eq_false (by omega),hno];rfl
      |some y=>
       have hJ:ot b=(y.toNat:Int):=by unfold ot;rw[hb']
       rw[hJ,decide_eq_true (by omega),tn,au rfl,aw _,i1,qB,qof fu (by omega),qB,show(ab.length:Int)+2=((ab.length+2:Nat):Int) by omega,d8 (x:=((ab.length+2:Nat):Int)) (by omega) (by omega),i2,qB,qof fu (by omega),qB,hI,hJ,(zb4 x y (qnf a x ha) (qnf b y hb')).2,ag (by simp[aq];omega),aw _]
       have two:=ih n (by omega) (ab++[37,a,b]) r (out++[16*x+y]) (by omega) (by simp;omega) (by simp;omega)
       simp only[qM,qL,qZ,qS,wK,List.nil_append,wO]at two;exact two
   ·rw[qW hc,hno,qym c t hc]
def zrd(fu:Nat)(hfu:90000000<=fu)(s:Bs)(h:s.length<=4000000):qjo fu s=some (ei s):=by
 have:=zre fu fu (by omega) [] s [] (by omega) (by simp;omega) (by simp;omega)
 simpa [qjo] using this
def oa(k:UInt8):Bs->Option (Bs×Bs)|[]=>none|c::t=>if c=k then some ([],t) else(oa k t).map fun x=>(c::x.1,x.2)
def qwl(k:UInt8)(t r:Bs)(h:∀x∈t,x≠k):oa k (t++k::r)=some (t,r):=by
 induction t with
 |nil=>rw[List.nil_append,oa,qX rfl]|cons c t ih=>
  rw[wK,oa,qW (h c qH),ih (fun x hx=>h x (qE _ hx))];rfl
def qwm(k:UInt8)(t:Bs)(h:∀x∈t,x≠k):oa k t=none:=by
 induction t with|nil=>rfl|cons c t ih=>rw[oa,qW (h c qH),ih (fun x hx=>h x (qE _ hx))];rfl
def zpv(s:Bs)(k:UInt8):qkc s [k]=some (Lib.indexByte s k):=by
 unfold qkc;rw[ay (by rfl)]
 unfold qkd;by_cases h:[k]=s
 ·subst h;rw[au];show some 0=some (Lib.indexByte ([]++[k]) k);rw[qb5 k [] [] (by simp)];rfl
 ·rw[ay (by simpa using h),au,show am [k] 0=some k from rfl];rfl
def zim(s:Bs)(k:UInt8)(h:s.length<=4000000:=by omega):qk4 s [k]=some (match oa k s with|some x=>(x.1,(x.2,true))|none=>(s,([],false))):=by
 unfold qk4 qsk;rw[zpv,qB];rcases ym k s with⟨t,r,rfl,ht⟩|hn
 ·rw[qM,qL]at h;rw[qb5 k t r ht,qwl k t r ht,ag,ag (by rw[cw];omega),show(([k]:Bs).length:Int)=1 from rfl,aw _,ag (by rw[cw];omega),qmn,yq];rfl
 ·rw[qb6 k s hn,qwm k s hn,ap];rfl
def mp(s:Bs):Bs×Bool:=if s.getLast? = some 42 then(s.dropLast,true) else(s,false)
def zil(t:Bs)(hb:t.length<=4000000:=by omega):qk5 t [42]=some (mp t):=by
 unfold qk5 qsl qfc mp;rw[show(([42]:List UInt8).length:Int)=1 from rfl]
 rcases List.eq_nil_or_concat t with rfl|⟨u,c,rfl⟩
 ·rfl
 ·rw[List.concat_eq_append]at *;simp only[qM,qL,qZ]at hb;rw[ou,pc _,ag,ag,qB,List.getLast?_concat,List.dropLast_concat]
  have e:List.drop ((u.length:Nat):Int).toNat (u++[c])=[c]:=xg u [c];rw[e,qop];by_cases hc:c=42
  ·subst hc;rw[qX rfl,show([(42:UInt8)]==[42])=true from rfl,cf,ag];rfl
  ·rw[qW (by simpa using hc),show([c]==[(42:UInt8)])=false by simpa using hc];rfl
def e8(nm v:Bs):Option Pc:=match oa 42 nm with|none=>if nm=[] then none else some (nm,-1,false,v)|some x=>if x.1≠[]/\(ge (mp x.2).1 1099511627776).2=true then some (x.1,(ge (mp x.2).1 1099511627776).1,(mp x.2).2,v) else none
def gf(nm v:Bs):Option Pc:=match e8 nm v with|some p=>if p.2.1<1000000000 then some p else none|none=>none
def q6k{k:UInt8}{s:Bs}{x:Bs×Bs}(h:oa k s=some x):x.1.length+x.2.length<s.length:=by
 rcases ym k s with⟨t,r,rfl,ht⟩|hn
 ·rw[qwl k t r ht]at h;cases h;simp only[qM,qL];omega
 ·rw[qwm k s hn]at h;cases h
def q6y(s:Bs):(mp s).1.length<=s.length:=by unfold mp;split<;>simp
def q9m{nm v:Bs}{p:Pc}(h:e8 nm v=some p):p.1.length<=nm.length/\p.2.2.2=v /\ -1<=p.2.1/\p.2.1<=1099511627776/\p.1≠[]:=by
 unfold e8 at h
 cases hc:oa 42 nm with
 |none=>
  rw[hc]at h;simp only at h;by_cases hn:nm=[]
  ·rw[qX hn]at h;cases h
  ·rw[qW hn]at h;cases h;exact⟨wF _,rfl,by simp only;omega,by simp only;omega,hn⟩
 |some x=>
  rw[hc]at h;simp only at h;by_cases hn:x.1≠[]/\(ge (mp x.2).1 1099511627776).2=true
  ·rw[qX hn]at h;obtain⟨u,_,h1,h2⟩:=qyb hn.2;have hl:=q6k hc;cases h
   rw[h2];exact⟨by simp only;omega,rfl,by simp only;omega,by simp only;omega,hn.1⟩
  ·rw[qW hn]at h;cases h
def zmb(s:Bs)(h:s.length<=4000000:=by omega):wg s 1099511627776=some (ge s 1099511627776):=by unfold wg;rw[ag]
def zlv(fu:Nat)(hfu:90000000<=fu)(s:Bs)(h:s.length<=4000000:=by omega):∃R,qkj fu s=some R/\match ow s with
  |none=>R.2.1=false|some x=>match e8 x.1.1 x.1.2 with
   |none=>R.2.1=false|some p=>R=(p,(true,x.2)):=by
 have l1:=yp dm s;have l2:=qcp 61 (bt dm s).2;unfold qkj ow;rw[zql fu hfu s h,qB,qnx fu hfu 61 _,qB]
 cases hs:(c7 61 (bt dm s).2).1
 ·rw[dh,qW (by simp)];exact⟨_,rfl,rfl⟩
 rw[cf,qX rfl];obtain⟨r,hv⟩:=zrn fu hfu (c7 61 (bt dm s).2).2
 rw[hv,qB,zim _ 42,qB]
 generalize hx:vd (c7 61 (bt dm s).2).2=vs;generalize hn:(bt dm s).1=nm at *
 cases hc:oa 42 nm with
 |none=>
  simp only[qF]
  cases vs with
  |none=>exact⟨_,rfl,rfl⟩|some x=>
   refine⟨_,rfl,?_⟩;simp only[wQ];unfold e8;rw[hc]
   cases nm with|nil=>rfl|cons c nm=>rfl
 |some y=>
  have l3:=q6k hc;have l4:=q6y y.2;simp only[qT];rw[zil _,qB,zmb _,qB]
  cases vs with
  |none=>exact⟨_,rfl,rfl⟩|some x=>
   simp only[qT,wQ];unfold e8;rw[hc];simp only;cases hq:(ge (mp y.2).1 1099511627776).2
   ·rw[qW (by simp)];exact⟨_,rfl,rfl⟩
   ·by_cases hy:y.1=[]
    ·rw[qW (by simp[hy])];refine⟨_,rfl,?_⟩;simp[hy]
    ·rw[qX ⟨hy,rfl⟩];refine⟨_,rfl,?_⟩;simp only;congr 2
     cases hy1:y.1 with|nil=>exact absurd hy1 hy|cons=>rfl
def db(f:Bs->Bs->Option Pc):Nat->List Pc->Bs->Option (List Pc)
 |0,_,_=>none|n+1,acc,s=>match a8 s with
  |[]=>some acc| c::t=>if c=59 then(match ow t with
   |none=>none|some x=>match f x.1.1 x.1.2 with
    |none=>none| some p=>db f n (acc++[p]) x.2) else none
def cu(l:List Pc):Nat:=(l.map fun p=>p.1.length+p.2.2.2.length+1).sum
def zbo(l:List Pc)(p:Pc):cu (l++[p])=cu l+(p.1.length+p.2.2.2.length+1):=by unfold cu;simp
def mc(l:List Pc):l.length<=cu l:=by
 unfold cu
 induction l with|nil=>simp|cons p l ih=>simp only[List.map_cons,List.sum_cons,qL];omega
def xj(R:qgd):Prop:=match R with | .inl x=>x.2.2=false | .inr x=>x.2.2.1=false
def nb(p:Pc):Prop := -1<=p.2.1/\p.2.1<=1099511627776
def zm5(fu:Nat)(hfu:90000000<=fu)(Qp:List Pc->Bool×List cd)(hQ:∀l,cu l<=300000->(∀x∈l,nb x)->qam fu l=some (Qp l))(a b T S:Bs):∀(n:Nat)(s:Bs)(acc:List Pc),cu acc+s.length<=300000->s.length<n->(∀x∈acc,nb x) ->
  ∃R,qfm fu n a b s T S acc=some R/\match db e8 n acc s with
   |none=>xj R|some l=>if(Qp l).1=true then R = .inr (T,(S,(true,(Qp l).2))) else xj R:=by
 have hrm:=lb;intro n
 induction n with
 |zero=>intro s acc _ h;omega|succ n ih=>
  intro s acc hz h hnb;have hl:=ku s;have hal:=mc acc;rw[qfm,qsx,qnx fu hfu 59 s,qB,db]
  unfold c7
  cases ht:a8 s with
  |nil=>
   simp only[qF];rw[qbg fu hfu [] (by simp),qB,hQ acc (by omega) hnb,qB]
   cases hq:(Qp acc).1
   ·refine⟨_,rfl,?_⟩;rw[qW (by simp)];rfl
   ·refine⟨_,rfl,?_⟩;rw[qX rfl];rfl
  |cons c t=>
   rw[ht]at hl;simp only[qL]at hl;by_cases hc:c=59
   ·simp only[qX hc,qT];obtain⟨R,h1,h2⟩:=zlv fu hfu t
    rw[h1,qB]
    cases hx:ow t with
    |none=>
     rw[hx]at h2;simp only at h2;rw[h2,dh];exact⟨_,rfl,rfl⟩
    |some x=>
     rw[hx]at h2;simp only at h2 ⊢;have hxl:=(qxs (n:=x.1.1) (v:=x.1.2) (t:=x.2) hx).1
     cases hp:e8 x.1.1 x.1.2 with
     |none=>
      rw[hp]at h2;simp only at h2;rw[h2,dh];exact⟨_,rfl,rfl⟩
     |some p=>
      rw[hp]at h2;simp only at h2 ⊢;obtain⟨g1,g2,g3,g4,_⟩:=q9m hp;subst h2;have hz2:cu (acc++[p])+x.2.length<=300000:=by rw[zbo,g2];omega
      rw[cf,ag]
      exact ih x.2 (acc++[p]) hz2 (by omega) (fun y hy=>(List.mem_append.1 hy).elim (hnb y) (fun e=>by rw[List.mem_singleton.1 e];exact⟨g3,g4⟩))
   ·simp only[qW hc,qF];rw[qbg fu hfu (c::t) (by simp only[qL];omega),qB,show a8 (c::t)=c::t by rw[← ht,qcc],hQ acc (by omega) hnb,qB]
    cases hq:(Qp acc).1
    ·exact⟨_,rfl,rfl⟩
    ·exact⟨_,rfl,rfl⟩
def nd(f:Bs->Bs->Option Pc)(s:Bs):Option (Bs×Bs×List Pc):=
 let a:=bt tk s;let b:=c7 47 a.2;let c:=bt tk b.2
 if a.1=[]\/b.1=false\/c.1=[] then none else(db f (s.length+1) [] c.2).map fun l=>(a.1,c.1,l)
def qhs(f:Bs->Bs->Option Pc):∀(n:Nat)(acc:List Pc)(s:Bs),s.length<n->db f n acc s=db f (s.length+1) acc s:=by
 intro n
 induction n using Nat.strongRecOn with
 |ind n ih=>
  intro acc s h;obtain⟨n,rfl⟩:∃m,n=m+1:=⟨n-1,by omega⟩
  have hl:=ku s;rw[db,db]
  cases ht:a8 s with
  |nil=>rfl|cons c t=>
   rw[ht]at hl;simp only[qL]at hl;simp only;by_cases hc:c=59
   ·rw[qX hc,qX hc]
    cases hx:ow t with
    |none=>rfl|some x=>
     have hxl:=(qxs (n:=x.1.1) (v:=x.1.2) (t:=x.2) hx).1;simp only
     cases f x.1.1 x.1.2 with
     |none=>rfl|some p=>
      simp only;rw[ih n (by omega) _ _ (by omega)]
      by_cases he:s.length=n
      ·rw[he];exact(ih n (by omega) _ _ (by omega)).symm
      ·rw[ih s.length (by omega) _ _ (by omega)]
   ·rw[qW hc,qW hc]
def zlt(fu:Nat)(hfu:90000000<=fu)(Qp:List Pc->Bool×List cd)(hQ:∀l,cu l<=300000->(∀x∈l,nb x)->qam fu l=some (Qp l))(s:Bs)(h:s.length<=300000:=by omega) :
  ∃R,qkg fu s=some R/\match nd e8 s with
   |none=>xj R|some m=>if(Qp m.2.2).1=true then R = .inr (m.1,(m.2.1,(true,(Qp m.2.2).2))) else xj R:=by
 have l1:=yp tk s;have l2:=qcp 47 (bt tk s).2;have l3:=yp tk (c7 47 (bt tk s).2).2;unfold qkg nd;rw[zbq fu hfu s,qB,qnx fu hfu 47 _,qB,zbq fu hfu _,qB]
 simp only[];generalize ha:bt tk s=A at *;generalize hb:c7 47 A.2=B at *;generalize hc:bt tk B.2=C at *
 cases h1:A.1 with
 |nil=>rw[au,tw,au rfl,qX (.inl rfl)];exact⟨_,rfl,rfl⟩|cons x1 y1=>
  rw[ay (by rfl)]
  cases h2:B.1 with
  |false=>rw[dh,tw,au rfl,qX (.inr (.inl rfl))];exact⟨_,rfl,rfl⟩|true=>
   rw[cf]
   cases h3:C.1 with
   |nil=>rw[tw,au,qX (.inr (.inr rfl))];exact⟨_,rfl,rfl⟩|cons x3 y3=>
    rw[tw,ay (by rfl),qW (by simp),qsy]
    obtain⟨R,g1,g2⟩:=zm5 fu hfu Qp hQ [] [] (x1::y1) (x3::y3) fu C.2 [] (by simp[cu];omega) (by omega) (by simp)
    refine⟨R,g1,?_⟩;rw[qhs _ fu _ _ (by omega)]at g2
    rw[qhs _ (s.length+1) _ _ (by omega)]
    cases hp:db e8 (C.2.length+1) [] C.2 with|none=>rw[hp]at g2;exact g2|some l=>rw[hp]at g2;exact g2
def zke(c k:UInt8)(t:Bs):Lib.indexByte (c::t) k=if c=k then 0 else if Lib.indexByte t k<0 then -1 else Lib.indexByte t k+1:=by
 rw[Lib.indexByte];by_cases h:c=k
 ·rw[qX (by simpa using h),qX h]
 ·rw[qW (by simpa using h),qW h]
  rcases ym k t with⟨a,r,rfl,ha⟩|hn
  ·rw[qb5 k a r ha,qW (by simp),qW (by omega)]
  ·rw[qb6 k t hn];rfl
def zjo(fu n:Nat)(k:UInt8):∀(ab aa:Bs),aa.length<n->ab.length+aa.length<100000000 ->
  qdp fu n (ab++aa) [k] (ab.length:Int)=some (if Lib.indexByte aa k<0 then -1 else(ab.length:Int)+Lib.indexByte aa k):=by
 induction n with
 |zero=>intro ab aa h;omega|succ n ih=>
  intro ab aa h hb;rw[qdp,qp5,show(([k]:Bs).length:Int)=1 from rfl]
  cases aa with
  |nil=>rw[aw _ (by simp only[qZ]at hb;omega),ap];rfl|cons c t=>
   simp only[qL]at h hb;rw[aw _,ag (by rw[cw];omega),ag (by rw[cw];omega),xg,zke]
   have e:List.take (((ab.length+1:Nat):Int).toNat-((ab.length:Nat):Int).toNat) (c::t)=[c]:=by
    rw[show((ab.length+1:Nat):Int).toNat-((ab.length:Nat):Int).toNat=1 by omega];rfl
   rw[e];by_cases hc:c=k
   ·rw[au (by simpa using hc),qX hc,qW (by omega)];simp
   ·rw[ay (by simpa using hc),qW hc]
    have:=ih (ab++[c]) t (by omega) (by simp;omega)
    simp only[qM,qL,qZ,qS,wM,wO]at this;rw[this];by_cases h0:Lib.indexByte t k<0
    ·rw[qX h0,qX h0,qX (by omega)]
    ·rw[qW h0,qW h0,qW (by omega)];congr 1;omega
def zjn(fu:Nat)(hfu:90000000<=fu)(k:UInt8)(s:Bs)(h:s.length<=4000000):qi4 fu s [k] 0=some (Lib.indexByte s k):=by
 have:=zjo fu fu k [] s (by omega) (by simp;omega)
 simp only[List.nil_append,qZ,Int.natCast_zero,Int.zero_add]at this;unfold qi4;refine this.trans ?_;rcases ym k s with⟨a,r,rfl,ha⟩|hn
 ·rw[qb5 k a r ha,qW (by omega)]
 ·rw[qb6 k s hn];rfl
abbrev Pd:Type:=Bs×Bs×Int×Bool
def b9(p:Pc):Pd:=(p.1,p.2.2.2,p.2.1,p.2.2.1)
def zm0(fu:Nat)(hfu:90000000<=fu)(b v s:Bs)(st:Bool)(z:Pd)(h:s.length<=4000000:=by omega):∃R,zu fu s z (b,(v,((-1:Int),st)))=some R /\
  match(if b≠[] then ya s else none) with
  |some k=>R=((b,v,k,st),true)|none=>R.2=false:=by
 unfold zu;obtain⟨x,h1,h2⟩:=zl8 fu (by omega) s
 rw[h1,qB]
 cases b with
 |nil=>exact⟨_,rfl,rfl⟩|cons c b=>
  rw[qX (by simp)]
  rw[au]
  rcases h2 with⟨g1,g2,g3⟩|⟨g1,g2⟩
  ·rw[ag g2,g3,qB,g1];exact⟨_,rfl,by simp⟩
  ·rw[g1];rcases g2 with g2|⟨g2,t,g3,g4⟩
   ·rw[ap];exact⟨_,rfl,rfl⟩
   ·rw[ag g2,g3,qB];exact⟨_,rfl,by simpa using g4⟩
def zm1(fu:Nat)(hfu:90000000<=fu)(nm v:Bs)(h:nm.length<=4000000):∃R,qjm fu nm v=some R/\match gf nm v with
  |some p=>R=(b9 p,true)|none=>R.2=false:=by
 unfold qjm;rw[zjn fu hfu 42 nm h,qB];rcases ym 42 nm with⟨t,r,rfl,ht⟩|hn
 ·simp only[qM,qL]at h;rw[qb5 42 t r ht,ap,aw _,ag (by rw[cw];omega),ag (by rw[cw];omega),qmn,yq]
  have key:∀(s:Bs)(st:Bool),mp r=(s,st)->(∃R,zu fu s ([],([],((0:Int),false))) (t,(v,((-1:Int),st)))=some R/\match gf (t++42::r) v with
    |some p=>R=(b9 p,true)| none=>R.2=false):=by
   intro s st he;have hsl:=q6y r;rw[he]at hsl;simp only at hsl;obtain⟨R,h1,h2⟩:=zm0 fu hfu t v s st ([],([],((0:Int),false)))
   refine⟨R,h1,?_⟩;unfold gf e8;rw[qwl 42 t r ht];simp only[he];by_cases hb:t=[]
   ·rw[qW (by simp[hb])]
    rw[qW (by simp[hb])]at h2
    exact h2
   ·rw[qX hb]at h2;unfold ya at h2;cases hq:(ge s 1099511627776).2
    ·rw[qW (by simp[hq])]at h2
     rw[qW (by simp)]
     exact h2
    ·rw[qX ⟨hb,rfl⟩];simp only;by_cases hlt:(ge s 1099511627776).1<1000000000
     ·rw[qX ⟨hq,hlt⟩]at h2;rw[qX hlt];exact h2
     ·rw[qW (by simp[hlt])]at h2;rw[qW hlt];exact h2
  rcases List.eq_nil_or_concat r with rfl|⟨u,c,rfl⟩
  ·rw[ap,qeo,ay rfl]
   exact key [] false rfl
  ·rw[List.concat_eq_append]at *;simp only[qM,qL,qZ]at h;rw[ag (by simp only[qM,qL,qZ];omega),ou,pc _,qb7,qB,qeo]
   by_cases hc:c=42
   ·subst hc;rw[au,ou,pc _,ag,qop]
    exact key u true (by unfold mp;simp)
   ·rw[ay (by simpa using hc)]
    exact key (u++[c]) false (by unfold mp;rw[qW (by simpa using hc)])
 ·rw[qb6 42 nm hn,ag]
  refine⟨_,rfl,?_⟩;unfold gf e8;rw[qwm 42 nm hn]
  cases nm with|nil=>rfl|cons c nm=>rfl
def bad:dj:=(([],([],[])),false)
def zo4(fu:Nat)(r2:(Bs->Int->Bs->Bs->Bs->Bs->(List (Bs×Bs×Int×Bool))->Option dj))(s nm a b T S:Bs)(acc:List Pd)(hb:s.length<=4000000):∀(n:Nat)(r out:Bs),r <:+ s->r.length+1<n->out.length+r.length<100000000 ->
  tj fu r2 n s (pos s r) nm out a b T S acc=match qv out r with
   |some x=>vt fu r2 s (pos s x.2) nm x.1 a b T S acc|none=>some bad:=by
 intro n
 induction n using Nat.strongRecOn with
 |ind n ih=>
  intro r out hr h ho;obtain⟨n,rfl⟩:∃m,n=m+1:=⟨n-1,by omega⟩
  rw[tj,qje]
  cases r with
  |nil=>rw[ij,ap,zj,ay rfl,au];rfl|cons c t=>
   have ht:t <:+ s:=(List.suffix_cons _ _).trans hr;simp only[qL]at h ho;rw[ag (l8 hr),uz hr,qB,qcj,zj,qbf];by_cases h1:c=34
   ·rw[qW (by simp[h1]),qX h1,ay (by have:=l8 hr;simp;omega),o6 hr]
   rw[qX h1,qW h1,qqg,uz hr,qB,kh,o6 hr]
   have p18:∀(d:UInt8)(u:Bs),(d::u) <:+ s->qdw fu r2 (tj fu r2 n) s (pos s (d::u)) nm out a b T S acc=tj fu r2 n s (pos s u) nm (out++[d]) a b T S acc:=by
    intro d u hd;have hu:=hd.length_le;have g1:=sy s (d::u);have g2:=sy s u;have g3:=qys (s:=s) (List.suffix_cons d u);rw[qdw,o6 hd,ag,qyt hd (List.suffix_cons _ _),show(d::u).take ((d::u).length-u.length)=[d] by simp,ag (by simp[aq];omega)]
   by_cases h2:c=92
   ·rw[qX h2,qX h2]
    cases t with
    |nil=>
     rw[ij,zk,ap,p18 c [] hr]
     obtain⟨n,rfl⟩:∃m,n=m+1:=⟨n-1,by simp only[qZ]at h;omega⟩
     rw[tj,qje,ij,ap,zj,ay rfl,au];rfl
    |cons d u=>
     simp only[qL]at h ho;rw[zk,ag (l8 ht),o6 hr,p18 d u ht]
     simp only;exact ih n (by omega) u (out++[d]) ((List.suffix_cons _ _).trans ht) (by omega) (by simp;omega)
   ·rw[qW h2,qW h2,zk,ay rfl,p18 c t hr];exact ih n (by omega) t (out++[c]) ht (by omega) (by simp;omega)
def zqr(c:UInt8):(tk c||([42]:Bs).contains c)=dm c:=by unfold dm;rw[show([42]:Bs).contains c=(c==42) by rw[Bool.eq_iff_iff];simp]
def zbt(c:UInt8):(tk c||([37,39,42]:Bs).contains c)=jq c:=by unfold jq;rw[show([37,39,42]:Bs).contains c=(c==37||(c==39||c==42)) by rw[Bool.eq_iff_iff];simp]
def zbu(c:UInt8):(tk c||([]:Bs).contains c)=tk c:=by simp
def qh3(p:UInt8->Bool){s r:Bs}(hr:r <:+ s):(0<=pos s r/\pos s r<=pos s (r.dropWhile p)/\pos s (r.dropWhile p)<=(s.length:Int))/\List.take ((pos s (r.dropWhile p)).toNat-(pos s r).toNat) (List.drop (pos s r).toNat s)=r.takeWhile p:=by
 refine⟨⟨(sy s r).1,qys (List.dropWhile_suffix p),(sy s _).2⟩,?_⟩;rw[qyt hr (List.dropWhile_suffix p),zqo]
def zmj(fu:Nat)(hfu:90000000<=fu)(r2:(Bs->Int->Bs->Bs->Bs->Bs->(List (Bs×Bs×Int×Bool))->Option dj))(s nm v a b T S:Bs)(acc:List Pc)(hb:s.length<=4000000)(hn:nm.length<=4000000)(ha:acc.length<=4000000)(r:Bs)(hr:r <:+ s) :
  vt fu r2 s (pos s r) nm v a b T S (acc.map b9)=match gf nm v with
   |some p=>r2 s (pos s (a8 r)) a b T S ((acc++[p]).map b9)|none=>some bad:=by
 have hrm:=lb;obtain⟨R,h1,h2⟩:=zm1 fu hfu nm v hn;rw[vt,h1,qB]
 cases hp:gf nm v with
 |none=>rw[hp]at h2;simp only at h2;rw[h2,dh];rfl|some p=>
  rw[hp]at h2;simp only at h2 ⊢;subst h2;rw[cf,ag,u7 fu hfu hb hr,qB,List.map_append];rfl
def zol(fu:Nat)(hfu:90000000<=fu)(s a b T S:Bs)(hb:s.length<=4000000):∀(n:Nat)(r:Bs)(acc:List Pc),r <:+ s->a8 r=r->r.length<n->acc.length+r.length<=4000000 ->
  zl fu n s (pos s r) a b T S (acc.map b9)=match db gf n acc r with
   |none=>some bad|some l=>mi fu fu 0 a b T S (l.map b9) []:=by
 intro n
 induction n with
 |zero=>intro r acc _ _ h;omega|succ n ih=>
  intro r acc hr hlt h hacc;rw[zl,qqc,db,hlt]
  cases r with
  |nil=>rw[ij,ap]|cons c t=>
   have ht:t <:+ s:=(List.suffix_cons _ _).trans hr;simp only[qL]at h hacc;rw[ag (l8 hr),uz hr,qB,qbf];simp only;by_cases hc:c=59
   ·rw[qW (by simp[hc]),qX hc,o6 hr,u7 fu hfu hb ht,qB]
    have h1:a8 t <:+ s:=(qk t).trans ht;rw[qh0 fu hfu [42] (by simp) hb h1 dm zqr,qB]
    obtain⟨ok1,ok2⟩:=qh3 dm h1;have h2:(a8 t).dropWhile dm <:+ s:=(List.dropWhile_suffix dm).trans h1;have hnl:((a8 t).takeWhile dm).length<=4000000:=by
     have:=(List.takeWhile_prefix (l:=a8 t) dm).length_le;have:=ku t;omega
    rw[ag ok1,u7 fu hfu hb h2,qB,ok2];unfold ow bt c7;simp only;have h3:a8 ((a8 t).dropWhile dm) <:+ s:=(qk _).trans h2;have hl3:(a8 ((a8 t).dropWhile dm)).length<=t.length:=by
     have g1:=ku ((a8 t).dropWhile dm);have g2:=(List.dropWhile_suffix (l:=a8 t) dm).length_le;have g3:=ku t;omega
    generalize a8 ((a8 t).dropWhile dm)=u at *;generalize (a8 t).takeWhile dm=nm at *
    cases u with
    |nil=>rw[ij,au,qdz,au rfl];simp;rfl|cons d u=>
     have h4:u <:+ s:=(List.suffix_cons _ _).trans h3;simp only[qL]at hl3;rw[ay (by have:=l8 h3;simp;omega),uz h3,qB,qdz,qbf]
     by_cases hd:d=61
     ·rw[qW (by simp[hd])]
      simp only[qX hd,if_true];rw[qqi,o6 h3,u7 fu hfu hb h4,qB]
      have h5:a8 u <:+ s:=(qk u).trans h4;have hl5:=ku u;have fin:∀(v w:Bs),w <:+ s->w.length<=u.length->vt fu (zl fu n) s (pos s w) nm v a b T S (acc.map b9)=match(match gf nm v with
        |none=>none| some p=>db gf n (acc++[p]) w) with
        |none=>some bad|some l=>mi fu fu 0 a b T S (l.map b9) []:=by
       intro v w hw hwl;rw[zmj fu hfu _ s nm v a b T S acc hb hnl (by omega) w hw]
       cases gf nm v with
       |none=>rfl|some p=>
        simp only;have g1:=ku w;rw[ih (a8 w) (acc++[p]) ((qk w).trans hw) (qcc w) (by omega) (by simp;omega)]
        have e:db gf n (acc++[p]) (a8 w)=db gf n (acc++[p]) w:=by
         cases n with|zero=>rfl|succ n=>rw[db,db,qcc]
        rw[e]
      unfold vd c7
      cases hu:a8 u with
      |nil=>
       rw[ij,ap,qd1,ay rfl]
       have hnil:([]:Bs) <:+ s:=List.nil_suffix;have r1:=qh0 fu hfu [37,39,42] (by simp) hb hnil jq zbt
       obtain⟨q1,q2⟩:=qh3 jq hnil;rw[ij]at r1 q1 q2;rw[r1,qB,ag q1,q2];simp only[wJ,if_false,wQ];exact fin [] [] hnil (by simp)
      |cons e w=>
       rw[hu]at h5 hl5;simp only[qL]at hl5;have h6:w <:+ s:=(List.suffix_cons _ _).trans h5;rw[ag (l8 h5),uz h5,qB,qd1];by_cases he:e=34
       ·rw[au (by simpa using he),o6 h5]
        simp only[qX he,if_true];rw[zo4 fu _ s nm a b T S _ hb fu w [] h6 (by omega) (by simp;omega)]
        cases hq:qv [] w with
        |none=>rfl|some x=>
         have:=q9v [] w x.1 x.2 hq;simp only[wQ];exact fin x.1 x.2 (this.2.trans h6) (by have:=this.2.length_le;omega)
       ·rw[ay (by simpa using he)]
        simp only[qW he,wJ,if_false,wQ];rw[qh0 fu hfu [37,39,42] (by simp) hb h5 jq zbt,qB]
        obtain⟨q1,q2⟩:=qh3 jq h5;rw[ag q1,q2];unfold bt;have hle:a8 (e::w)=e::w:=by rw[← hu,qcc]
        rw[hle];have hdl:=(List.dropWhile_suffix (l:=e::w) jq).length_le;simp only[qL]at hdl;exact fin _ _ ((List.dropWhile_suffix jq).trans h5) (by omega)
     ·rw[qX hd];simp only[qW hd,wJ,if_false];rfl
   ·rw[qX hc,qW hc];rfl
def zo6(fu:Nat)(hfu:90000000<=fu)(s:Bs)(h:s.length<=300000):zh fu s=match nd gf s with
  |none=>some bad|some m=>mi fu fu 0 [] [] m.1 m.2.1 (m.2.2.map b9) []:=by
 have hb:s.length<=4000000:=by omega
 have h0:s <:+ s:=List.suffix_refl s;have h1:a8 s <:+ s:=qk s;unfold zh nd;have sk:=u7 fu hfu hb h0;rw[qyr]at sk;rw[sk,qB,qh0 fu hfu [] (by simp) hb h1 tk zbu,qB]
 obtain⟨ok1,ok2⟩:=qh3 tk h1;have h2:(a8 s).dropWhile tk <:+ s:=(List.dropWhile_suffix tk).trans h1;rw[ag ok1,u7 fu hfu hb h2,qB,ok2];unfold bt c7;simp only;have h3:a8 ((a8 s).dropWhile tk) <:+ s:=(qk _).trans h2;generalize a8 ((a8 s).dropWhile tk)=u at *
 cases hT:(a8 s).takeWhile tk with
 |nil=>rw[au,vq,au rfl,qX (.inl rfl)];rfl|cons x y=>
  rw[ay (by rfl)]
  cases u with
  |nil=>rw[ij,au,vq,au rfl,qX (.inr (.inl rfl))];rfl|cons d u=>
   have h4:u <:+ s:=(List.suffix_cons _ _).trans h3;rw[ay (by have:=l8 h3;simp;omega),uz h3,qB,vq,qbf]
   by_cases hd:d=47
   ·rw[qW (by simp[hd]),qqf,o6 h3,u7 fu hfu hb h4,qB]
    simp only[qX hd];have h5:a8 u <:+ s:=(qk u).trans h4;rw[qh0 fu hfu [] (by simp) hb h5 tk zbu,qB]
    obtain⟨q1,q2⟩:=qh3 tk h5;rw[ag q1,q2];have h6:(a8 u).dropWhile tk <:+ s:=(List.dropWhile_suffix tk).trans h5
    cases hS:(a8 u).takeWhile tk with
    |nil=>rw[au,qX (.inr (.inr rfl))];rfl|cons x3 y3=>
     rw[ay (by rfl),qW (by simp),u7 fu hfu hb h6,qB]
     have hl6:=h6.length_le;have hl7:=ku ((a8 u).dropWhile tk);have:=zol fu hfu s [] [] (x::y) (x3::y3) hb fu (a8 ((a8 u).dropWhile tk)) [] ((qk _).trans h6) (qcc _) (by omega) (by simp;omega)
     refine(this:_=_).trans ?_;rw[qhs _ fu _ _ (by omega),qhs _ (s.length+1) _ _ (by omega)]
     have e:db gf ((a8 ((a8 u).dropWhile tk)).length+1) [] (a8 ((a8 u).dropWhile tk))=db gf (((a8 u).dropWhile tk).length+1) [] ((a8 u).dropWhile tk):=by
      rw[← qhs _ (((a8 u).dropWhile tk).length+1) _ _ (by omega),db,db,qcc]
     rw[e];cases db gf (((a8 u).dropWhile tk).length+1) [] ((a8 u).dropWhile tk)<;>rfl
   ·rw[qX hd];simp only[qW hd];rw[qX (.inr (.inl trivial))];rfl
open Go.Sort (SWO PermIn SortedIn pdq_sorts)
open Go.Proofs (ltOf)
def ltQ(x y:Pq):ltOf im x y=decide (x.1.2.1<y.1.2.1):=by
 have:=x.2;have:=y.2;unfold ltOf im;have h:af (x.1.2.1-y.1.2.1)=x.1.2.1-y.1.2.1:=by unfold af;simp[IntKind.wrap,IntKind.bits,IntKind.signed];omega
 rw[h];by_cases q:x.1.2.1<y.1.2.1<;>simp[q]<;>omega
def zqf:SWO (ltOf im):=⟨fun x=>by rw[ltQ];simp,fun x y z h1 h2=>by rw[ltQ]at *;simp at *;omega,fun x y z h1 h2=>by rw[ltQ]at *;simp at *;omega⟩
def zbe(l:List Pq):(gw l).Perm l/\(gw l).Pairwise (fun x y=>x.1.2.1<=y.1.2.1):=by
 obtain⟨⟨h1,_,h2⟩,h3⟩:=pdq_sorts (ltOf im) zqf l.toArray 0 l.length (Lib.bitLen l.length) true true (Nat.zero_le _) (by simp) (.inl rfl)
 have hsort:gw l=(Go.Sort.pdq (ltOf im) l.toArray 0 l.length (Lib.bitLen l.length) true true).toList:=rfl;generalize Go.Sort.pdq (ltOf im) l.toArray 0 l.length (Lib.bitLen l.length) true true=D at h1 h2 h3 hsort;have hs:D.size=l.length:=by rw[h1];simp
 rw[hsort];constructor
 ·have e:∀d:Array Pq,d.size=l.length->(d.extract 0 l.length).toList=d.toList:=fun d hd=>by rw[← hd];simp
  rw[e _ hs,e _ (by simp)]at h2
  simpa using h2
 ·rw[List.pairwise_iff_getElem];intro i j hi hj hij;rw[Array.length_toList]at hi hj;have:=h3 i j (Nat.zero_le _) hij (by omega)
  rw[ltQ,getElem!_pos D j hj,getElem!_pos D i hi]at this;have:=of_decide_eq_false this;simp only[Array.getElem_toList];omega
def zbx:∀l:List Pc,(∀p∈l,nb p)->∃q,o8 l=some q/\q.map (·.1)=l
 |[],_=>⟨[],rfl,rfl⟩|p::l,h=>by
  obtain⟨q,h1,h2⟩:=zbx l (fun x hx=>h x (qE _ hx))
  have hp:=h p qH;unfold nb at hp;refine⟨⟨p,by omega⟩::q,?_,by simp[h2]⟩
  rw[o8,dif_pos (by omega),h1]
def gl(l:List Pc):List Pc:=match o8 l with|some q=>(gw q).map (·.1)|none=>[]
def qzg(l:List Pc)(h:∀p∈l,nb p)(hl:l.length<=4000000:=by omega):wo l=some (gl l)/\(gl l).Perm l/\(gl l).Pairwise (fun x y=>x.2.1<=y.2.1):=by
 have hrm:=lb;obtain⟨q,h1,h2⟩:=zbx l h;have h3:=zbe q;unfold wo gl;rw[h1,ag]
 refine⟨rfl,?_,?_⟩
 ·have:=h3.1.map (·.1);rw[h2]at this;exact this
 ·exact List.pairwise_map.2 h3.2
def kq:List Pc->Int->Bs->Option Bs|[],_,out=>some out|p::q,k,out=>if p.2.1=k then kq q (k+1) (out++mf p) else none
def l5:List Pc->Int->Prop|[],_=>True|p::q,k=>p.2.1=k/\l5 q (k+1)
def qxz:∀(q:List Pc)(k:Int)(out:Bs),l5 q k->kq q k out=some (out++q.flatMap mf)|[],_,out,_=>by simp[kq]|p::q,k,out,h=>by rw[kq,qX h.1,qxz q _ _ h.2];simp
def qxy:∀(q:List Pc)(k:Int)(out v:Bs),kq q k out=some v->l5 q k
 |[],_,_,_,_=>trivial|p::q,k,out,v,h=>by
  rw[kq]at h;by_cases hp:p.2.1=k
  ·rw[qX hp]at h;exact⟨hp,qxy q _ _ _ h⟩
  ·rw[qW hp]at h;cases h
def q78(q:List Pc)(k:Int)(out:Bs)(h:¬l5 q k):kq q k out=none:=by
 cases hl:kq q k out with|none=>rfl|some v=>exact absurd (qxy q k out v hl) h
def Cov(q:List Pc)(k:Int):Prop:=∀j:Nat,j<q.length->∃p∈q,p.2.1=k+j
def pig(m:Nat):∀(l:List Pc)(k:Int),(∀j:Nat,j<m->∃p∈l,p.2.1=k+j)->m<=l.length:=by
 induction m with
 |zero=>intro l k _;omega|succ m ih=>
  intro l k h;obtain⟨p,hp,hk⟩:=h m (by omega)
  obtain⟨a,b,rfl⟩:=List.append_of_mem hp;have:=ih (a++b) k (fun j hj=>by
   obtain⟨x,hx,hxk⟩:=h j (by omega)
   refine⟨x,?_,hxk⟩;rcases List.mem_append.1 hx with g|g
   ·exact List.mem_append_left _ g
   ·rcases List.mem_cons.1 g with g|g
    ·subst g;omega
    ·exact List.mem_append_right _ g)
  rw[qM]at this;rw[qM,qL];omega
def q6j:∀(q:List Pc)(k:Int),q.Pairwise (fun x y=>x.2.1<=y.2.1)->Cov q k->l5 q k
 |[],_,_,_=>trivial|p::r,k,hs,hc=>by
  rw[List.pairwise_cons]at hs;have ac:(p::r).length=r.length+1:=rfl;have h1:k<=p.2.1/\p.2.1<k+(r.length+1:Nat):=by
   by_cases g:k<=p.2.1/\p.2.1<k+(r.length+1:Nat)
   ·exact g
   ·exfalso;have:=pig (r.length+1) r k (fun j hj=>by
     obtain⟨x,hx,hxk⟩:=hc j (by omega)
     rcases List.mem_cons.1 hx with e|e
     ·subst e;exact absurd ⟨by omega,by omega⟩ g
     ·exact⟨x,e,hxk⟩)
    omega
  have h2:p.2.1=k:=by
   obtain⟨x,hx,hxk⟩:=hc 0 (by omega)
   rcases List.mem_cons.1 hx with e|e
   ·subst e;omega
   ·have:=hs.1 x e;omega
  refine⟨h2,q6j r (k+1) hs.2 fun j hj => ?_⟩
  obtain⟨x,hx,hxk⟩:=hc (j+1) (by omega)
  rcases List.mem_cons.1 hx with e|e
  ·subst e;omega
  ·exact⟨x,e,by omega⟩
def q80:∀(q:List Pc)(k:Int),l5 q k->∀x∈q,k<=x.2.1
 |[],_,_,_,h=>by cases h
 |p::r,k,h,x,hx=>by
  rcases List.mem_cons.1 hx with e|e
  ·subst e;exact Int.le_of_eq h.1.symm
  ·have:=q80 r _ h.2 x e;omega
def Cov.perm{q q':List Pc}{k:Int}(h:Cov q k)(hp:q.Perm q'):Cov q' k:=fun j hj=>by
 obtain⟨x,hx,e⟩:=h j (by rw[hp.length_eq];exact hj)
 exact⟨x,hp.mem_iff.1 hx,e⟩
def qh:List Pc->Option Bs|[]=>none|p::l=>if p.2.1<0 then(if l=[] then some p.2.2.2 else none) else(kq (gl (p::l)) 0 []).map fun v=>vu [239,191,189] v.length false v
def qnm(p:Pc)(l:List Pc):qh (p::l)=if p.2.1<0 then(if l=[] then some p.2.2.2 else none) else(kq (gl (p::l)) 0 []).map fun v=>vu [239,191,189] v.length false v:=rfl
def yn(p:Pc)(l:List Pc):cu (p::l)=(p.1.length+p.2.2.2.length+1)+cu l:=by unfold cu;simp
def qzm{l l':List Pc}(h:l.Perm l'):cu l=cu l':=by unfold cu;exact(h.map _).sum_nat
def qcr{l:List Pc}{p:Pc}(h:p∈l):p.1.length+p.2.2.2.length+1<=cu l:=by
 obtain⟨a,b,rfl⟩:=List.append_of_mem h;unfold cu;simp;omega
def zk4(fu n:Nat)(hfu:90000000<=fu)(z:Bs×Bs)(nm:Bs):∀(ab aa:List Pc)(out:Bs),aa.length<n->ab.length+aa.length<100000000->out.length+cu aa<=300000 ->
  ∃R,qfg fu n ((ab.length+aa.length:Nat):Int) (ab.length:Int) z (nm,out) (ab++aa)=some R/\match kq aa (ab.length:Int) out with
   |some v=>R=((nm,vu [239,191,189] v.length false v),true)|none=>R.2=false:=by
 induction n with
 |zero=>intro ab aa out h;omega|succ n ih=>
  intro ab aa out h hb hz;rw[qfg,qss]
  cases aa with
  |nil=>
   rw[ap,zqw out (by simp[cu]at hz;omega)]
   exact⟨_,rfl,rfl⟩
  |cons p t=>
   rw[yn]at hz;simp only[qL]at h hb;have hl:0<=(ab.length:Int)/\(ab.length:Int).toNat<(ab++p::t).length:=by simp
   have htl:=qia p;rw[ag (by simp only[qL];omega),ag hl,qb3,qB,fj,kq]
   by_cases hp:p.2.1=(ab.length:Int)
   ·rw[qW (by simpa using hp),qX hp,zqp fu hfu p,qB,ag (by simp[aq];omega),aw _]
    have:=ih (ab++[p]) t (out++mf p) (by omega) (by simp;omega) (by rw[qM];omega)
    simp only[qM,qL,qZ,qS,wM,wO]at this;rw[show(ab.length+(p::t).length:Nat)=ab.length+1+t.length by simp only[qL];omega,show(ab.length:Int)+1=((ab.length+1:Nat):Int) by omega]
    exact this
   ·rw[qX hp,qW hp];exact⟨_,rfl,rfl⟩
def zk6(fu:Nat)(hfu:90000000<=fu)(p:Pc)(l:List Pc)(hz:cu (p::l)<=300000)(hn:∀x∈p::l,nb x):∃R,qff fu (p::l)=some R/\match qh (p::l) with
  |some v=>R=((p.1,v),true)|none=>R.2=false:=by
 have hl:decide (0<=(0:Int)/\(0:Int).toNat<List.length (p::l))=true:=by simp
 have ac:=mc (p::l);unfold qff;rw[qnm,au hl,show(p::l)[(0:Int).toNat]? = some p from rfl,qB,au hl,qB,au hl,qB]
 by_cases h0:p.2.1<0
 ·rw[ag h0,qX h0];refine⟨_,rfl,?_⟩
  cases l with|nil=>rfl|cons y l=>rw[qW (by simp)];simp;omega
 ·rw[ap h0,qW h0];obtain⟨h1,h2,h3⟩:=qzg (p::l) hn
  rw[h1,qB];obtain⟨R,g1,g2⟩:=zk4 fu fu hfu ([],[]) p.1 [] (gl (p::l)) [] (by rw[h2.length_eq];omega) (by rw[h2.length_eq];simp only[qZ];omega) (by rw[qzm h2];simpa using hz)
  simp only[List.nil_append,qZ,wO]at g1 g2;refine⟨R,g1,?_⟩;rw[show((0:Nat):Int)=0 from rfl]at g2
  cases hq:kq (gl (p::l)) 0 [] with|none=>rw[hq]at g2;exact g2|some v=>rw[hq]at g2;exact g2
def ck(nm:Bs)(l:List Pc):List Pc:=l.filter fun x=>lk x.1 nm
def e7:List Pc->List Pc->List cd->Bool×List cd
 |_,[],out=>(true,out)|ab,p::aa,out=>if ab.any (fun x=>lk x.1 p.1)=true then e7 (ab++[p]) aa out else match qh (ck p.1 (ab++p::aa)) with|none=>(false,[])|some v=>e7 (ab++[p]) aa (out++[(p.1,v)])
def zk3(fu n:Nat)(hfu:90000000<=fu)(p:Pc)(hp:p.1.length<=4000000):∀(ab aa:List Pc),aa.length<n->ab.length+aa.length<100000000->(∀x∈aa,x.1.length<=4000000) ->
  ∃i:Int,qf2 fu n (ab++aa) ((ab.length+aa.length:Nat):Int) (ab.length:Int) p=some (i,p)/\decide (0<=i)=aa.any (fun x=>lk x.1 p.1):=by
 induction n with
 |zero=>intro ab aa h;omega|succ n ih=>
  intro ab aa h hb hs;rw[qf2,qtt]
  cases aa with
  |nil=>rw[ap];exact⟨_,rfl,rfl⟩|cons d aa=>
   simp only[qL]at h hb;rw[ag (by simp only[qL];omega),bm,qB,qfj,qr fu hfu _ _ (hs d qH) hp,qB,qB,aw _]
   obtain⟨i,h1,h2⟩:=ih (ab++[d]) aa (by omega) (by simp;omega) (fun x hx=>hs x (qE _ hx))
   simp only[qM,qL,qZ,qS,wM,wO]at h1;cases e:lk d.1 p.1
   ·simp only[qF,List.any_cons,e,Bool.false_or];rw[show(ab.length+(d::aa).length:Nat)=ab.length+1+aa.length by simp only[qL];omega]
    exact⟨i,h1,h2⟩
   ·simp only[qT,List.any_cons,e,Bool.true_or];exact⟨_,rfl,decide_eq_true (by omega)⟩
def zib(fu:Nat)(hfu:90000000<=fu)(l:List Pc)(p:Pc)(hp:p.1.length<=4000000)(hl:l.length<=4000000)(hs:∀x∈l,x.1.length<=4000000):qk1 fu l p=some (l.any (fun x=>lk x.1 p.1),p):=by
 obtain⟨i,h1,h2⟩:=zk3 fu fu hfu p hp [] l (by omega) (by simp;omega) hs
 simp only[List.nil_append,qZ,wO]at h1;unfold qk1 qts;rw[← h2];exact(congrArg (fun q=>Option.bind q fun x1=>some (decide ((0:Int)<=x1.1),x1.2)) h1).trans rfl
def qwi(r0:((List (Bs×Int×Bool×Bs))->(List (Bs×Int×Bool×Bs))->Int->Int->(List (Bs×Bs))->Option wy))(s0 s13:List Pc)(s14 s15:Int)(p:Pc)(out:List cd)(x3:(Bs×Bs)×Bool):Option wy:=bif !x3.2 then some (false,[]) else bif decide (List.length (out++([(p.1,x3.1.2)]:List cd))<=bg) then r0 s0 s13 s14 (af (s15+(1:Int))) (out++([(p.1,x3.1.2)]:List cd)) else none
def zmz(fu:Nat)(hfu:90000000<=fu)(r0:((List (Bs×Int×Bool×Bs))->(List (Bs×Int×Bool×Bs))->Int->Int->(List (Bs×Bs))->Option wy))(s0 s13:List Pc)(s14 s15:Int)(p:Pc)(hp:p.1.length<=4000000)(out:List cd)(n:Nat):∀(ab aa acc:List Pc),aa.length<n->ab.length+aa.length<100000000->acc.length<=ab.length->(∀x∈aa,x.1.length<=4000000) ->
  qfk fu r0 n s0 s13 s14 s15 (ab++aa) ((ab.length+aa.length:Nat):Int) (ab.length:Int) p out acc =
   (qff fu (acc++ck p.1 aa)).bind (qwi r0 s0 s13 s14 s15 p out):=by
 have hrm:=lb
 induction n with
 |zero=>intro ab aa acc h;omega|succ n ih=>
  intro ab aa acc h hb ha hs;rw[qfk,qsw]
  cases aa with
  |nil=>rw[ap,show ck p.1 []=[] from rfl,List.append_nil];rfl|cons d aa=>
   simp only[qL]at h hb;rw[ag (by simp only[qL];omega),bm,qB,qfj,qr fu hfu _ _ (hs d qH) hp,qB,qB]
   have h1:=fun acc'(ha':acc'.length<=ab.length+1)=>ih (ab++[d]) aa acc' (by omega) (by simp;omega) (by simpa using ha') (fun x hx=>hs x (qE _ hx))
   simp only[qM,qL,qZ,qS,wM,wO]at h1;rw[show ck p.1 (d::aa)=if lk d.1 p.1=true then d::ck p.1 aa else ck p.1 aa by unfold ck;rw[List.filter_cons]]
   cases e:lk d.1 p.1
   ·simp only[qF,wJ,if_false];rw[qfl,aw _,show(ab.length+(d::aa).length:Nat)=ab.length+1+aa.length by simp only[qL];omega]
    exact h1 acc (by omega)
   ·simp only[qT,if_true];rw[ag,qfl,aw _,show(ab.length+(d::aa).length:Nat)=ab.length+1+aa.length by simp only[qL];omega]
    refine(h1 (acc++[d]) (by simp;omega)).trans ?_
    rw[qS];rfl
def qzl(f:Pc->Bool)(l:List Pc):cu (l.filter f)<=cu l:=by
 induction l with
 |nil=>simp|cons p l ih=>
  rw[List.filter_cons];split
  ·rw[yn,yn];omega
  ·rw[yn];omega
def zmo(fu:Nat)(hfu:90000000<=fu)(l:List Pc)(hz:cu l<=300000)(hn:∀x∈l,nb x)(n:Nat):∀(ab aa:List Pc)(out:List cd),l=ab++aa->aa.length<n->out.length<=ab.length ->
  qan fu n l (ab++aa) ((ab.length+aa.length:Nat):Int) (ab.length:Int) out=some (e7 ab aa out):=by
 have hrm:=lb;have hll:=mc l;have hnm:∀x∈l,x.1.length<=4000000:=fun x hx=>by have:=qcr hx;omega
 induction n with
 |zero=>intro ab aa out _ h;omega|succ n ih=>
  intro ab aa out hl h ho;rw[qan,qsv]
  cases aa with
  |nil=>rw[ap];rfl|cons p aa=>
   simp only[qL]at h;have ac:l.length=ab.length+aa.length+1:=by rw[hl];simp;omega
   have hp:=hnm p (by rw[hl];simp)
   rw[ag (by simp only[qL];omega),bm,qB,ag]
   have e:List.take ((ab.length:Nat):Int).toNat l=ab:=by rw[hl];exact yq _ _
   rw[e,zib fu hfu ab p hp (by omega) (fun x hx=>hnm x (by rw[hl];simp[hx])),qB,e7]
   have step:=fun o(ho:List.length o<=ab.length+1)=>ih (ab++[p]) aa o (by rw[hl];simp) (by omega) (by simpa using ho)
   simp only[qM,qL,qZ,qS,wM,wO]at step;simp only;cases hany:ab.any (fun x=>lk x.1 p.1)
   ·rw[ay rfl,qW (by simp)]
    have h1:=zmz fu hfu (qan fu n) l (ab++p::aa) ((ab.length+(p::aa).length:Nat):Int) (ab.length:Int) p hp out fu [] l [] (by omega) (by simp;omega) (by simp) hnm
    simp only[List.nil_append,qZ,wO]at h1;rw[show((0:Nat):Int)=0 from rfl]at h1
    rw[h1];have hmem:p∈ck p.1 l:=by unfold ck;rw[List.mem_filter];exact⟨by rw[hl];simp,qxu _⟩
    have hzz:=qzl (fun x=>lk x.1 p.1) l
    cases hN:ck p.1 l with
    |nil=>rw[hN]at hmem;cases hmem
    |cons y w=>
     obtain⟨R,g1,g2⟩:=zk6 fu hfu y w (by rw[← hN];unfold ck;omega) (fun x hx=>hn x (by rw[← hN]at hx;exact(List.mem_filter.1 hx).1))
     rw[g1,qB];rw[← hl,hN]
     cases hj:qh (y::w) with
     |none=>rw[hj]at g2;simp only at g2;rw[qwi,g2];rfl|some v=>
      rw[hj]at g2;simp only at g2;subst g2;rw[qwi,cf,ag,aw _]
      simp only;rw[show(ab.length+(p::aa).length:Nat)=ab.length+1+aa.length by simp only[qL];omega]
      have st:=step (out++[(p.1,v)]) (by simp;omega)
      rw[← hl]at st;exact st
   ·rw[au rfl,qX rfl,aw _,show(ab.length+(p::aa).length:Nat)=ab.length+1+aa.length by simp only[qL];omega]
    exact step out (by omega)
def zmn(fu:Nat)(hfu:90000000<=fu)(l:List Pc)(hz:cu l<=300000)(hn:∀x∈l,nb x):qam fu l=some (e7 [] l []):=by
 have hll:=mc l;have:=zmo fu hfu l hz hn fu [] l [] rfl (by omega) (by simp)
 simpa [qam] using this
end Go.Sym
namespace Go.Sym
def q82:∀(q:List Pc)(k:Int),l5 q k->∀x∈q,∀y∈q,x.2.1=y.2.1->x=y
 |[],_,_,x,hx,_,_,_=>by cases hx
 |p::r,k,h,x,hx,y,hy,e=>by
  have hg:=q80 r _ h.2;have h1:=h.1;rcases List.mem_cons.1 hx with ex|ex
  ·rcases List.mem_cons.1 hy with ey|ey
   ·rw[ex,ey]
   ·subst ex;have:=hg y ey;omega
  ·rcases List.mem_cons.1 hy with ey|ey
   ·subst ey;have:=hg x ex;omega
   ·exact q82 r _ h.2 x ex y ey e
def mu{l u w:List Pc}{x:Pc}(h:l=u++x::w):am (l.map b9) (u.length:Int)=some (b9 x):=by
 subst h;have:=bm (u.map b9) (b9 x) (w.map b9);rw[wC]at this;rw[List.map_append,List.map_cons];exact this
section ref
variable(fu:Nat)(hfu:90000000<=fu)(l ab aa:List Pc)(p:Pc)(hl:l=ab++p::aa)(hz:cu l<=300000)(b0 b1 T S:Bs)(ps:List cd)(r4:(Int->Bs->Bs->Bs->Bs->(List (Bs×Bs×Int×Bool))->(List (Bs×Bs))->Option dj))
include hfu hl hz
def qy6:∀x∈l,x.1.length<=4000000:=fun x hx=>by have _:=hfu;have _:=hl;have:=qcr hx;omega
def rp6(n:Nat):∀(u w:List Pc)(seen:Bool),ab=u++w->w.length<n ->
  qd0 fu r4 n (ab.length:Int) seen (u.length:Int) b0 b1 T S (l.map b9) ps=pl fu r4 fu (ab.length:Int) (seen||w.any (fun x=>lk p.1 x.1)) (0:Int) (0:Int) b0 b1 T S (l.map b9) ps:=by
 have hnm:=qy6 fu hfu l ab aa p hl hz;have hll:=mc l;have ac:l.length=ab.length+aa.length+1:=by rw[hl];simp;omega
 induction n with
 |zero=>intro u w seen _ h;omega|succ n ih=>
  intro u w seen hp h;rw[qd0,qqe];have hpl:ab.length=u.length+w.length:=by rw[hp];simp
  cases w with
  |nil=>rw[ap (by simp only[qZ]at hpl;omega)];simp|cons x w=>
   simp only[qL]at h hpl;have st:=fun sn=>ih (u++[x]) w sn (by rw[hp];simp) (by omega)
   simp only[qM,qL,qZ,wO]at st;rw[ag,List.any_cons]
   have hx:x∈l:=by rw[hl,hp];simp
   cases seen
   ·rw[ay rfl,jl,mu hl,qB,jl,mu (show l=u++x::(w++p::aa) by rw[hl,hp];simp),qB]
    show(jf fu p.1 x.1).bind _=_;rw[w7 fu hfu _ _ (hnm p (by rw[hl];simp)) (hnm x hx),qB,qdv,aw _,st]
    simp
   ·rw[au rfl,qdv,aw _,st]
    simp
def rp8(n:Nat):∀(u w:List Pc)(seen:Bool)(c:Nat),l=u++w->w.length<n->c<=u.length ->
  pl fu r4 n (ab.length:Int) seen (c:Int) (u.length:Int) b0 b1 T S (l.map b9) ps=pl fu r4 1 (ab.length:Int) seen ((c+(w.filter (fun x=>lk p.1 x.1)).length:Nat):Int) (l.length:Int) b0 b1 T S (l.map b9) ps:=by
 have hnm:=qy6 fu hfu l ab aa p hl hz;have hll:=mc l
 induction n with
 |zero=>intro u w seen c _ h;omega|succ n ih=>
  intro u w seen c hp h hc;have hpl:l.length=u.length+w.length:=by rw[hp];simp
  cases w with
  |nil=>
   rw[List.append_nil]at hp;subst hp;rw[pl,pl];simp only[List.filter_nil,qZ,Nat.add_zero];have hend:¬((l.length:Int)<(List.length (l.map b9):Int)):=by rw[wC];omega
   rw[zi,zi,ap hend,ap hend]
  |cons x w=>
   simp only[qL]at h hpl;rw[pl,zi];have st:=fun c'(hc':c'<=u.length+1)=>ih (u++[x]) w seen c' (by rw[hp];simp) (by omega) (by simpa using hc')
   simp only[qM,qL,qZ,wO]at st;have hx:x∈l:=by rw[hp];simp
   rw[ag (by rw[wC];omega),jl,mu hl,qB,jl,mu hp,qB]
   show(jf fu p.1 x.1).bind _=_;rw[w7 fu hfu _ _ (hnm p (by rw[hl];simp)) (hnm x hx),qB,List.filter_cons]
   cases hk:lk p.1 x.1
   ·rw[ay rfl,qdu,aw _,st c (by omega)];rfl
   ·rw[au rfl,qdu,aw _,aw _,st (c+1) (by omega)]
    simp only[if_true,qL];rw[show c+1+(w.filter (fun x=>lk p.1 x.1)).length=c+((w.filter (fun x=>lk p.1 x.1)).length+1) by omega]
def zao(r13:(Int->Int->Bs->Int->Bs->Bs->Bs->Bs->(List (Bs×Bs×Int×Bool))->(List (Bs×Bs))->Option dj))(c:Int)(v:Bs)(nn:Int)(n:Nat):∀(u w:List Pc)(j:Int),l=u++w->w.length<n ->
  ∃j',ju fu r4 r13 n (ab.length:Int) c v nn j (u.length:Int) b0 b1 T S (l.map b9) ps=ju fu r4 r13 1 (ab.length:Int) c v nn j' (l.length:Int) b0 b1 T S (l.map b9) ps /\
   ((j'=j/\∀x∈w,¬(lk p.1 x.1=true/\x.2.1=nn))\/∃x∈w,lk p.1 x.1=true/\x.2.1=nn/\am (l.map b9) j'=some (b9 x)):=by
 have hnm:=qy6 fu hfu l ab aa p hl hz;have hll:=mc l
 induction n with
 |zero=>intro u w j _ h;omega|succ n ih=>
  intro u w j hp h;have hpl:l.length=u.length+w.length:=by rw[hp];simp
  cases w with
  |nil=>
   rw[List.append_nil]at hp;subst hp;refine⟨j,?_,.inl ⟨rfl,by simp⟩⟩
   have hend:¬((l.length:Int)<(List.length (l.map b9):Int)):=by rw[wC];omega
   rw[ju,ju,vp,vp,ap hend,ap hend]
  |cons x w=>
   simp only[qL]at h hpl;rw[ju,vp];have st:=fun j'=>ih (u++[x]) w j' (by rw[hp];simp) (by omega)
   simp only[qM,qL,qZ,wO]at st;have hx:x∈l:=by rw[hp];simp
   rw[ag (by rw[wC];omega),jl,mu hl,qB,jl,mu hp,qB]
   have hsk:¬(lk p.1 x.1=true/\x.2.1=nn)->∃j',ju fu r4 r13 n (ab.length:Int) c v nn j ((u.length+1:Nat):Int) b0 b1 T S (l.map b9) ps=ju fu r4 r13 1 (ab.length:Int) c v nn j' (l.length:Int) b0 b1 T S (l.map b9) ps /\
     ((j'=j/\∀y∈x::w,¬(lk p.1 y.1=true/\y.2.1=nn))\/∃y∈x::w,lk p.1 y.1=true/\y.2.1=nn/\am (l.map b9) j'=some (b9 y)):=fun hno=>by
    obtain⟨j',g1,g2⟩:=st j;refine⟨j',g1,?_⟩;rcases g2 with⟨g2,g3⟩|⟨y,g2,g3⟩
    ·exact .inl ⟨g2,fun y hy=>(List.mem_cons.1 hy).elim (fun e=>e▸hno) (g3 y)⟩
    ·exact .inr ⟨y,qE _ g2,g3⟩
   show ∃j',(jf fu p.1 x.1).bind _=_/\_;rw[w7 fu hfu _ _ (hnm p (by rw[hl];simp)) (hnm x hx),qB]
   cases hk:lk p.1 x.1
   ·rw[ay rfl,qdx,ay rfl,zm,aw _]
    exact hsk (by simp[hk])
   ·rw[au rfl,jl,mu hp,qB,qdx];show ∃j',(bif x.2.1==nn then _ else _)=_/\_
    rw[iy];by_cases hn:x.2.1=nn
    ·rw[qX hn,zm,aw _]
     obtain⟨j',g1,g2⟩:=st (u.length:Int);refine⟨j',g1,.inr ?_⟩;rcases g2 with⟨g2,g3⟩|⟨y,g2,g3⟩
     ·exact⟨x,qH,hk,hn,by rw[g2];exact mu hp⟩
     ·exact⟨y,qE _ g2,g3⟩
    ·rw[qW hn,zm,aw _]
     exact hsk (by simp[hn])
omit hl in
def q6x(r13:(Int->Int->Bs->Int->Bs->Bs->Bs->Bs->(List (Bs×Bs×Int×Bool))->(List (Bs×Bs))->Option dj))(a c:Int)(v:Bs)(nn:Nat)(j:Int)(x:Pc)(hx:x∈l)(hn:x.2.1=(nn:Int))(hj:am (l.map b9) j=some (b9 x))(hv:v.length<=100000000000)(hnn:nn<=4000000) :
  ju fu r4 r13 1 a c v (nn:Int) j (l.length:Int) b0 b1 T S (l.map b9) ps=r13 a c (v++mf x) ((nn+1:Nat):Int) b0 b1 T S (l.map b9) ps:=by
 have hxl:=qcr hx;have h0:0<=j:=by
  by_cases h:0<=j
  ·exact h
  ·unfold am at hj;rw[qW h]at hj;cases hj
 rw[ju,vp,ap (by rw[wC];omega),ap,jl,hj,qB,jl,hj,qB]
 have p22:∀t:Bs,t.length<=4000000->zn fu r4 r13 a c v (nn:Int) t b0 b1 T S (l.map b9) ps=r13 a c (v++t) ((nn+1:Nat):Int) b0 b1 T S (l.map b9) ps:=fun t ht=>by
  rw[zn,ag (by simp only[aq];omega),qqh,aw _]
 have p23:∀t:Bs,t.length<=4000000->qdy fu r4 r13 a c v (nn:Int) t b0 b1 T S (l.map b9) ps=r13 a c (v++ei t) ((nn+1:Nat):Int) b0 b1 T S (l.map b9) ps:=fun t ht=>by
  rw[qdy,zrd fu hfu t ht,qB,p22 _ (by have:=q9l _ t (wF _);omega)]
 unfold mf qoo;show(bif x.2.2.1 then(bif(nn:Int)==0 then(bif decide ((6:Int)<=(x.2.2.2.length:Int)) then(bif decide (0<=(6:Int)/\(6:Int)<=(List.length x.2.2.2:Int)) then(ti fu (List.take (6:Int).toNat x.2.2.2)).bind fun x7=>pi fu r4 r13 a c v (nn:Int) x.2.2.2 (x7==([117,116,102,56,39,39]:Bs)) b0 b1 T S (l.map b9) ps else none) else pi fu r4 r13 a c v (nn:Int) x.2.2.2 false b0 b1 T S (l.map b9) ps) else pi fu r4 r13 a c v (nn:Int) x.2.2.2 false b0 b1 T S (l.map b9) ps) else zn fu r4 r13 a c v (nn:Int) x.2.2.2 b0 b1 T S (l.map b9) ps)=_
 cases hs:x.2.2.1
 ·rw[ay rfl,p22 _ (by omega),qW (by simp)]
 rw[au rfl,qX rfl,iy,hn];by_cases hz0:(nn:Int)=0
 ·rw[qX hz0];by_cases h6:6<=x.2.2.2.length
  ·have h6':(List.take (6:Int).toNat x.2.2.2).length=6:=by show(List.take 6 _).length=6;rw[List.length_take];omega
   rw[ag,ag,qn8 fu _ (by omega) (by rw[h6'];simp[maxLen]),qB,pi]
   show(bif lk (x.2.2.2.take 6) [117,116,102,56,39,39] then _ else _)=_
   cases hk:lk (x.2.2.2.take 6) [117,116,102,56,39,39]
   ·rw[ay rfl,p23 _ (by omega),qW (by simp)]
   ·rw[au rfl,ag,qX ⟨hz0,h6,rfl⟩]
    exact p23 (x.2.2.2.drop 6) (by simp;omega)
  ·rw[ap,pi,ay rfl,p23 _ (by omega),qW (by omega)]
 ·rw[qW hz0,pi,ay rfl,p23 _ (by omega),qW (by omega)]
def zjc(r13:(Int->Int->Bs->Int->Bs->Bs->Bs->Bs->(List (Bs×Bs×Int×Bool))->(List (Bs×Bs))->Option dj))(c:Int)(v:Bs)(nn:Int):ju fu r4 r13 1 (ab.length:Int) c v nn (-1) (l.length:Int) b0 b1 T S (l.map b9) ps=some bad:=by
 have _:=hfu;have _:=hl;have _:=hz;rw[ju,vp,ap (by rw[wC];omega),ag];rfl
def zov(q:List Pc)(hq:l5 q 0)(hqm:∀x,x∈q↔(x∈l/\lk p.1 x.1=true))(n:Nat):∀(done rest:List Pc)(v:Bs),q=done++rest->rest.length<n->v.length+cu rest<=300000->l5 rest (done.length:Int)->q.length<=300000 ->
  lj fu r4 n (ab.length:Int) (q.length:Int) v (done.length:Int) b0 b1 T S (l.map b9) ps=lj fu r4 1 (ab.length:Int) (q.length:Int) (v++rest.flatMap mf) (q.length:Int) b0 b1 T S (l.map b9) ps:=by
 have hll:=mc l
 induction n with
 |zero=>intro done rest v _ h;omega|succ n ih=>
  intro done rest v hd h hv hnum hqb;have hql:q.length=done.length+rest.length:=by rw[hd];simp
  cases rest with
  |nil=>
   rw[List.append_nil]at hd;subst hd;have hend:¬((q.length:Int)<(q.length:Int)):=by omega
   rw[lj,lj,vo,vo,ap hend,ap hend];simp
  |cons x t=>
   simp only[qL]at h hql;rw[yn]at hv;have hxq:x∈q:=by rw[hd];simp
   have hxl:=(hqm x).1 hxq;have hxn:x.2.1=(done.length:Int):=hnum.1;rw[lj,vo,ag]
   obtain⟨j',g1,g2⟩:=zao fu hfu l ab aa p hl hz b0 b1 T S ps r4 (lj fu r4 n) (q.length:Int) v (done.length:Int) fu [] l (-1) rfl (by omega)
   rw[show(([]:List Pc).length:Int)=0 from rfl]at g1
   rw[g1];rcases g2 with⟨_,g3⟩|⟨y,g2,g3,g4,g5⟩
   ·exact absurd ⟨hxl.2,hxn⟩ (g3 x hxl.1)
   ·have hyq:y∈q:=(hqm y).2 ⟨g2,g3⟩;have hyx:y=x:=q82 q 0 hq y hyq x hxq (by rw[g4,hxn])
    subst hyx;rw[q6x fu hfu l hz b0 b1 T S ps r4 _ _ _ v done.length j' y g2 g4 g5 (by omega) (by omega)]
    have htl:=qia y;have st:=ih (done++[y]) t (v++mf y) (by rw[hd];simp) (by omega) (by rw[qM];omega) (by rw[qM,wD];have:=hnum.2;rw[show((done.length+1:Nat):Int)=(done.length:Int)+1 by omega];exact this) hqb
    simp only[qM,qL,qZ,wO]at st;refine st.trans ?_;rw[List.flatMap_cons,qS]
def zow(cnt k:Nat)(hk:k<cnt)(hno:∀x∈l,¬(lk p.1 x.1=true/\x.2.1=(k:Int)))(hc:cnt<=300000)(n:Nat):∀(nn:Nat)(v:Bs),nn<=k->cnt-nn<n->v.length<=nn*300000 ->
  lj fu r4 n (ab.length:Int) (cnt:Int) v (nn:Int) b0 b1 T S (l.map b9) ps=some bad:=by
 have hll:=mc l
 induction n with
 |zero=>intro nn v _ h;omega|succ n ih=>
  intro nn v hnk h hv;rw[lj,vo,ag]
  obtain⟨j',g1,g2⟩:=zao fu hfu l ab aa p hl hz b0 b1 T S ps r4 (lj fu r4 n) (cnt:Int) v (nn:Int) fu [] l (-1) rfl (by omega)
  rw[show(([]:List Pc).length:Int)=0 from rfl]at g1
  rw[g1];rcases g2 with⟨e,_⟩|⟨y,g2,g3,g4,g5⟩
  ·rw[e];exact zjc fu hfu l ab aa p hl hz b0 b1 T S ps r4 _ _ v _
  ·have hne:nn≠k:=fun e=>by subst e;exact hno y g2 ⟨g3,g4⟩
   have hyl:=qcr g2;have htl:=qia y;rw[q6x fu hfu l hz b0 b1 T S ps r4 _ _ _ v nn j' y g2 g4 g5 (by omega) (by omega)]
   exact ih (nn+1) (v++mf y) (by omega) (by omega) (by rw[qM];omega)
end ref
def zl0{l ab aa:List Pc}{p:Pc}(hl:l=ab++p::aa)(h:ab.any (fun x=>lk x.1 p.1)=false):ck p.1 l=p::ck p.1 aa:=by
 subst hl;unfold ck;rw[List.filter_append,List.filter_cons,qX (qxu p.1)];rw[List.filter_eq_nil_iff.2]
 ·rfl
 ·intro x hx;rw[List.any_eq_false]at h;exact h x hx
def zo1(fu:Nat)(hfu:90000000<=fu)(l:List Pc)(hz:cu l<=300000)(hn:∀x∈l,nb x)(b0 b1 T S:Bs)(n:Nat):∀(ab aa:List Pc)(ps:List cd),l=ab++aa->aa.length<n->ps.length<=ab.length ->
  mi fu n (ab.length:Int) b0 b1 T S (l.map b9) ps=some (if(e7 ab aa ps).1=true then((T,(S,(e7 ab aa ps).2)),true) else bad):=by
 have hrm:=lb;have hll:=mc l
 induction n with
 |zero=>intro ab aa ps _ h;omega|succ n ih=>
  intro ab aa ps hl h hps;have ac:l.length=ab.length+aa.length:=by rw[hl];simp
  rw[mi,qqd]
  cases aa with
  |nil=>rw[ap (by rw[wC];simp only[qZ]at ac;omega)];rfl|cons p aa=>
   simp only[qL]at h ac;have st:=fun o(ho:List.length o<=ab.length+1)=>ih (ab++[p]) aa o (by rw[hl];simp) (by omega) (by simpa using ho)
   simp only[qM,qL,qZ,wO]at st;rw[ag (by rw[wC];omega)]
   have h6:=rp6 fu hfu l ab aa p hl hz b0 b1 T S ps (mi fu n) fu [] ab false rfl (by omega)
   rw[show(([]:List Pc).length:Int)=0 from rfl]at h6
   have h8:=rp8 fu hfu l ab aa p hl hz b0 b1 T S ps (mi fu n) fu [] l (false||ab.any (fun x=>lk p.1 x.1)) 0 rfl (by omega) (by simp)
   rw[show(([]:List Pc).length:Int)=0 from rfl,show((0:Nat):Int)=0 from rfl]at h8
   rw[h6,h8];have hcm:(fun x:Pc=>lk p.1 x.1)=(fun x:Pc=>lk x.1 p.1):=funext fun x=>qxt _ _
   rw[hcm,Bool.false_or,wO,pl,zi,ap (by rw[wC];omega)]
   have hP:e7 ab (p::aa) ps=(if ab.any (fun x=>lk x.1 p.1)=true then e7 (ab++[p]) aa ps else match qh (ck p.1 l) with
    |none=>(false,[])| some v=>e7 (ab++[p]) aa (ps++[(p.1,v)])):=by subst hl;rfl
   rw[hP];cases hany:ab.any (fun x=>lk x.1 p.1)
   ·rw[ay rfl,qW (c:=(false=true)) (by simp),jl,mu hl,qB]
    have hnf:=zl0 hl hany;have hA:(l.filter fun x=>lk x.1 p.1)=p::ck p.1 aa:=hnf
    rw[hA,hnf,qnm];have hAz:cu (p::ck p.1 aa)<=300000:=by have:=qzl (fun x=>lk x.1 p.1) l;rw[hA]at this;omega
    have hAl:=mc (p::ck p.1 aa);have hAm:∀x,x∈p::ck p.1 aa↔(x∈l/\lk p.1 x.1=true):=fun x=>by
     rw[← hA,List.mem_filter,qxt]
    show(bif decide (p.2.1<0) then _ else _)=_
    by_cases h0:p.2.1<0
    ·rw[ag h0,qX h0,fj];by_cases h1:ck p.1 aa=[]
     ·rw[qW (by rw[h1];simp),qX h1,jl,mu hl,qB,jl,mu hl,qB,ag,aw _]
      exact st (ps++[(p.1,p.2.2.2)]) (by simp;omega)
     ·rw[qX (by
       cases hh:ck p.1 aa with
       |nil=>exact absurd hh h1| cons=>simp only[qL];omega),qW h1];rfl
    ·rw[ap h0,qW h0];obtain⟨_,h2,h3⟩:=qzg (p::ck p.1 aa) (fun x hx=>hn x ((hAm x).1 hx).1)
     by_cases hnum:l5 (gl (p::ck p.1 aa)) 0
     ·rw[qxz _ _ _ hnum,wQ];have hm:∀x,x∈gl (p::ck p.1 aa)↔(x∈l/\lk p.1 x.1=true):=fun x=>by rw[h2.mem_iff];exact hAm x
      have hsz:=qzm h2;have:=zov fu hfu l ab aa p hl hz b0 b1 T S ps (mi fu n) (gl (p::ck p.1 aa)) hnum hm fu [] (gl (p::ck p.1 aa)) [] rfl (by rw[h2.length_eq];omega) (by rw[hsz];simpa using hAz) hnum (by rw[h2.length_eq];omega)
      rw[show(([]:List Pc).length:Int)=0 from rfl,h2.length_eq]at this
      rw[this,lj,vo,ap,jl,mu hl,qB]
      have hvl:∀q:List Pc,(q.flatMap mf).length<=cu q:=by
       intro q
       induction q with
       |nil=>simp|cons y q ih2=>
        have:=qia y;rw[List.flatMap_cons,qM,yn];omega
      have hv:=hvl (gl (p::ck p.1 aa));simp only[List.nil_append];rw[zn7 fu (by omega) _,qB,ag,aw _]
      exact st (ps++[(p.1,_)]) (by simp;omega)
     ·rw[q78 _ _ _ hnum,Option.map_none];have hncov:¬Cov (p::ck p.1 aa) 0:=fun hc=>hnum (q6j _ 0 h3 (hc.perm h2.symm))
      obtain⟨k,hk1,hk2⟩:∃k:Nat,k<(p::ck p.1 aa).length/\∀x∈p::ck p.1 aa,x.2.1≠(0:Int)+k:=by
       apply Classical.byContradiction;intro hq;apply hncov;intro j hj;apply Classical.byContradiction;intro hq2;exact hq ⟨j,hj,fun x hx e=>hq2 ⟨x,hx,e⟩⟩
      have:=zow fu hfu l ab aa p hl hz b0 b1 T S ps (mi fu n) (p::ck p.1 aa).length k hk1 (fun x hx hc=>hk2 x ((hAm x).2 ⟨hx,hc.1⟩) (by rw[hc.2];omega)) (by omega) fu 0 [] (by omega) (by omega) (by simp)
      rw[show((0:Nat):Int)=0 from rfl]at this
      rw[this];rfl
   ·rw[au rfl,qX (c:=(true=true)) rfl,aw _]
    exact st ps (by omega)
def ja(s:List UInt8)(i:Nat):Bool:=bl (s.getD i 0) && !bl (s.getD (i-1) 0)
def cb(s:List UInt8):Nat->Nat->Nat->Nat|0,_,b=>b|m+1,i,b=>cb s m (i+1) (if ja s i && !(decide (0<b)&&decide (78<i)) then i else b)
def q6c(s:List UInt8):∀m i b,0<b->78<i->cb s m i b=b
 |0,_,_,_,_=>rfl|m+1,i,b,h1,h2=>by
  rw[cb,decide_eq_true h1,decide_eq_true h2];simp only[Bool.and_self,Bool.not_true,Bool.and_false,wJ,if_false];exact q6c s m (i+1) b h1 (by omega)
def qwc(s:List UInt8):∀m i b,cb s m i b=b\/(i<=cb s m i b/\cb s m i b<i+m/\ja s (cb s m i b)=true)
 |0,_,_ => .inl rfl|m+1,i,b=>by
  rw[cb];split
  ·rename_i h;simp only[qA]at h;rcases qwc s m (i+1) i with e|⟨h1,h2,h3⟩
   ·rw[e];exact .inr ⟨wF _,by omega,h.1⟩
   ·exact .inr ⟨by omega,by omega,h3⟩
  ·rcases qwc s m (i+1) b with e|⟨h1,h2,h3⟩
   ·exact .inl e
   ·exact .inr ⟨by omega,by omega,h3⟩
def qna(s:List UInt8)(i:Nat)(h:i<s.length):s.getD i 0=s[i]:=by simp[List.getD_eq_getElem?_getD,h]
def zm7(fu n:Nat):∀(s:List UInt8)(m i b:Nat),i+m=s.length->1<=i->m<n->s.length<1000000000->qfa fu n s (b:Int) (i:Int)=some ((cb s m i b:Nat):Int):=by
 induction n with
 |zero=>intro s m i b _ _ h;omega|succ n ih=>
  intro s m i b hi h1 hm hb;rw[qfa,qsi]
  cases m with
  |zero=>rw[ap];rfl|succ m=>
   have hlt:i<s.length:=by omega
   have hlt':i-1<s.length:=by omega
   rw[ag,uk _ _ hlt,qB,qma,qB,cb]
   unfold ja;rw[qna _ _ hlt,qna _ _ hlt'];unfold qj9;cases bl s[i]
   ·rw[dh,au,aw _]
    exact ih s m (i+1) b (by omega) (by omega) (by omega) hb
   ·rw[cf,show af ((i:Int)-1)=((i-1:Nat):Int) by rw[d8];omega,uk _ _ hlt',qB,qma,qB]
    cases bl s[i-1]
    ·rw[ay (by rfl),aw _,cv,cv]
     by_cases q1:0<b
     ·rw[qX (by omega),decide_eq_true q1]
      by_cases q2:78<i
      ·rw[qX (by omega),decide_eq_true q2]
       simp only[Bool.and_self,Bool.not_true,Bool.and_false,wJ,if_false];rw[q6c s m (i+1) b q1 (by omega)]
      ·rw[qW (by omega),decide_eq_false q2]
       exact ih s m (i+1) i (by omega) (by omega) (by omega) hb
     ·rw[qW (by omega),decide_eq_false q1]
      exact ih s m (i+1) i (by omega) (by omega) (by omega) hb
    ·rw[au,aw _]
     exact ih s m (i+1) b (by omega) (by omega) (by omega) hb
def fk(s:List UInt8)(k:Nat):Nat:=cb s (s.length-k) k 0
def zm6(fu:Nat)(s:List UInt8)(k:Nat)(h:s.length<fu)(hb:s.length<1000000000)(hk:k<=s.length)(h0:1<=s.length):qj8 fu s (k:Int)=some ((fk s (max k 1):Nat):Int):=by
 unfold qj8 fk;have e:(if(1:Int)>(k:Int) then(1:Int) else(k:Int))=((max k 1:Nat):Int):=by
  split
  ·rename_i h;have:k=0:=by omega
   subst this;rfl
  ·rename_i h;rw[Nat.max_eq_left (by omega)]
 rw[e];exact zm7 fu fu s (s.length-max k 1) (max k 1) 0 (by omega) (by omega) (by omega) hb
def fm:Nat->List UInt8->Nat->List (List UInt8)|0,s,_=>[s]|n+1,s,k=>if 78<s.length then(if fk s k=0 then[s] else s.take (fk s k)::fm n (s.drop (fk s k)) 1) else[s]
def qv9(s:List UInt8)(k:Nat)(_h1:1<=k)(h:fk s k≠0):k<=fk s k/\fk s k<s.length/\ja s (fk s k)=true:=by
 unfold fk at *;rcases qwc s (s.length-k) k 0 with e|⟨h2,h3,h4⟩
 ·exact absurd e h
 ·exact⟨h2,by omega,h4⟩
def uq:Nat->List (List UInt8)->Option Nat|_,[]=>none|i,l::ls=>if 998<l.length then some i else uq (i+1) ls
def xt(ls:List (List UInt8)):(Int×Int)×List (List UInt8):=match uq 0 ls with|some i=>((1,(i:Int)),[])|none=>((0,0),ls)
def zid(fu n:Nat)(m16:Int×Int):∀(ab aa:List (List UInt8)),aa.length<n->ab.length+aa.length<1000000000 ->
  qe9 fu n ((ab.length+aa.length:Nat):Int) (ab.length:Int) m16 (ab++aa)=some (match uq ab.length aa with|some i=>((1,(i:Int)),[])|none=>((0,0),ab++aa)):=by
 induction n with
 |zero=>intro ab aa h;omega|succ n ih=>
  intro ab aa h hb;rw[qe9,qsg]
  cases aa with
  |nil=>rw[ap];rfl|cons c aa=>
   simp only[qL]at h hb ⊢;rw[ag,jl,bm,qB,cv,uq]
   by_cases hc:998<c.length
   ·rw[qX (by omega),qX hc];rfl
   ·rw[qW (by omega),qW hc,aw _]
    have:=ih (ab++[c]) aa (by omega) (by simp;omega)
    simp only[qS,wM,qM,qL,qZ]at this;rw[show ab.length+(0+1)+aa.length=ab.length+(aa.length+1) by omega]at this
    exact this
def q7k(fu:Nat)(m16:Int×Int)(s:List UInt8)(out:List (List UInt8))(h:out.length+1<fu:=by omega)(hb:out.length<900000000:=by omega):qe8 fu s m16 out=some (xt (out++[s])):=by
 unfold qe8;rw[ag (by simp[bg];omega)]
 have:=zid fu fu m16 [] (out++[s]) (by simpa using h) (by simp;omega)
 simp only[List.nil_append,qZ,wO]at this;exact this
def zjw(fu n:Nat)(m16:Int×Int):∀(m:Nat)(s:List UInt8)(k k':Nat)(out:List (List UInt8)),s.length<=m->s.length<n->max k 1=k'->(78<s.length->k<=s.length)->s.length+out.length+1<fu->s.length+out.length<500000000 ->
  qe7 fu n s (k:Int) m16 out=some (xt (out++fm m s k')):=by
 induction n with
 |zero=>intro m s k k' out _ h;omega|succ n ih=>
  intro m s k k' out hm h hk hk2 hf hb;rw[qe7,qsf,cv];by_cases hl:78<s.length
  ·obtain⟨m,rfl⟩:∃j,m=j+1:=⟨m-1,by omega⟩
   rw[qX (by omega),zm6 fu s k (by omega) (by omega) (hk2 hl) (by omega),hk,qB,iy,fm,qX hl]
   by_cases h0:fk s k'=0
   ·rw[qX (by omega),qX h0]
    exact q7k fu m16 s out
   ·obtain⟨h1,h2,_⟩:=qv9 s k' (by omega) h0
    rw[qW (by omega),qW h0,ag,ag (by simp[bg];omega),ag]
    have:=ih m (s.drop (fk s k')) 0 1 (out++[s.take (fk s k')]) (by rw[List.length_drop];omega) (by rw[List.length_drop];omega) rfl (by intro;omega) (by rw[List.length_drop,qM,wD];omega) (by rw[List.length_drop,qM,wD];omega)
    simpa using this
  ·rw[qW (by omega)]
   have e:fm m s k'=[s]:=by cases m with|zero=>rfl|succ m=>rw[fm,qW hl]
   rw[e];exact q7k fu m16 s out
def bz(n v:List UInt8):List UInt8:=n++[58,32]++v
def iq(n v:List UInt8):List (List UInt8):=fm (bz n v).length (bz n v) (n.length+2)
def qf(n v:List UInt8):(Int×Int)×List (List UInt8):=if oe n v=0 then xt (iq n v) else((oe n v,-1),[])
def qxc{s:List UInt8}(h:ol s=true):s.length<=60:=by
 unfold ol at h;simp only[qA,decide_eq_true_eq]at h;exact h.1.2
def qw5{n v:List UInt8}(h:oe n v=0):ol n=true/\v.length<=4000/\qb2 v=true:=by
 unfold oe at h;split at h
 ·rename_i h1;split at h
  ·exact absurd h (by decide)
  ·rename_i h2;split at h
   ·rename_i h3;exact⟨h1,by omega,h3⟩
   ·exact absurd h (by decide)
 ·exact absurd h (by decide)
def zjv(fu:Nat)(n v:List UInt8)(hfu:10000<=fu:=by omega)(hv:v.length<fu:=by omega)(hvb:v.length<1000000000:=by omega):qj5 fu n v=some (qf n v):=by
 unfold qj5 qf;rw[zjt fu n,qB]
 by_cases h0:oe n v=0
 ·obtain⟨h1,h2,h3⟩:=qw5 h0;have hn:=qxc h1;rw[qX h0,h1,cf,ap,q7o fu v (by omega) hv hvb,qB,h3,cf,ag (by simp[aq];omega),ag (by simp[aq];omega)]
  have:=zjw fu fu (0,0) (bz n v).length (bz n v) (n.length+2) (n.length+2) [] (wF _) (by simp[bz]<;>omega) (by omega) (by intro;simp[bz]<;>omega) (by simp[bz]<;>omega) (by simp[bz]<;>omega)
  rw[show af ((n.length:Int)+2)=((n.length+2:Nat):Int) by rw[d8];omega]
  exact this
 ·rw[qW h0];unfold oe at h0 ⊢;cases hn:ol n
  ·rfl
  ·rw[hn]at h0;simp only[if_true]at h0 ⊢;rw[cf,cv];by_cases hl:4000<v.length
   ·rw[qX (by omega),qX hl];rfl
   ·rw[qW hl]at h0;rw[qW (by omega),qW hl,q7o fu v (by omega) hv hvb,qB]
    cases hv3:qb2 v
    ·rfl
    ·rw[hv3]at h0;exact absurd rfl h0
def pts(s:List UInt8)(i m:Nat):List Nat:=(List.range' i m).filter (ja s)
def qyw(s:List UInt8)(i m:Nat):pts s i (m+1)=(if ja s i then[i] else[])++pts s (i+1) m:=by
 unfold pts;rw[List.range'_succ,List.filter_cons];split<;>rfl
def zng(s:List UInt8)(i m k:Nat):pts s i (m+k)=pts s i m++pts s (i+m) k:=by
 unfold pts;rw[← List.filter_append];congr 1;rw[List.range'_append_1]
def zni(s:List UInt8)(i m:Nat):(pts s i m).length<=m:=by
 unfold pts;have:=List.length_filter_le (ja s) (List.range' i m);simpa using this
def gh(at_ b p:Nat):Nat:=if at_<p/\(p-at_<=78\/b=0) then p-at_ else b
def zkw(s:List UInt8)(a i:Nat)(h:a<i):ja (s.drop a) (i-a)=ja s i:=by
 unfold ja;simp only[List.getD_eq_getElem?_getD,List.getElem?_drop];rw[show a+(i-a)=i by omega,show a+(i-a-1)=i-1 by omega]
def qy7(s:List UInt8)(a:Nat):∀m i b,a<i->(pts s i m).foldl (gh a) b=cb (s.drop a) m (i-a) b
 |0,_,_,_=>rfl|m+1,i,b,h=>by
  rw[qyw,List.foldl_append,cb,zkw s a i h,show i-a+1=i+1-a by omega,← qy7 s a m (i+1) _ (by omega)]
  congr 1;cases ja s i
  ·rfl
  ·simp only[if_true,List.foldl_cons,List.foldl_nil,gh,Bool.true_and];by_cases q1:0<b
   ·by_cases q2:78<i-a
    ·rw[qW (by omega),qW (by simp[q1,q2])]
    ·rw[qX (by omega),qX (by simp;omega)]
   ·rw[qX (by omega),qX (by simp;omega)]
def zaq(s:List UInt8)(a:Nat):∀m i b,i+m<=a+1->(pts s i m).foldl (gh a) b=b
 |0,_,_,_=>rfl|m+1,i,b,h=>by
  rw[qyw,List.foldl_append];have e:(if ja s i=true then[i] else[]).foldl (gh a) b=b:=by
   split
   ·simp only[List.foldl_cons,List.foldl_nil,gh];rw[qW (by omega)]
   ·rfl
  rw[e];exact zaq s a m (i+1) b (by omega)
def zo7(s:List UInt8)(a k0:Nat)(h1:1<=k0)(h:a=0\/k0<=a)(ha:a<s.length)(hk:k0<=s.length):(pts s k0 (s.length-k0)).foldl (gh a) 0=fk (s.drop a) (if a=0 then k0 else 1):=by
 unfold fk;by_cases h0:a=0
 ·subst h0;rw[qX rfl,qy7 s 0 _ k0 0 (by omega)]
  simp
 ·rw[qW h0,show s.length-k0=(a+1-k0)+(s.length-a-1) by omega,zng,List.foldl_append,zaq s a (a+1-k0) k0 0 (by omega),show k0+(a+1-k0)=a+1 by omega,qy7 s a _ _ _ (by omega),List.length_drop]
  rw[show a+1-a=1 by omega]
def yf(a b:Nat):Int:=if b=0 then -1 else((a+b:Nat):Int)
def zkl(fu:Nat)(r2:List UInt8->Int->List Int->List (List UInt8)->Option (List (List UInt8)))(n:Nat):∀(s:List UInt8)(a b:Nat)(ab:List Int)(aa:List Nat)(out:List (List UInt8)),aa.length<n->ab.length+aa.length<1000000000->(∀p∈aa,p<s.length)->a<=s.length->s.length<1000000000->a+b<=s.length->out.length<1000000000 ->
  vk fu r2 n s (a:Int) (yf a b) (ab.length:Int) (ab++aa.map Nat.cast) out=(if aa.foldl (gh a) b=0 then some (out++[s.drop a]) else r2 s ((a+aa.foldl (gh a) b:Nat):Int) (ab++aa.map Nat.cast) (out++[(s.drop a).take (aa.foldl (gh a) b)])):=by
 induction n with
 |zero=>intro s a b ab aa out h;omega|succ n ih=>
  intro s a b ab aa out h hb hp ha hs hab ho;rw[vk,qp7]
  cases aa with
  |nil=>
   rw[ap,List.foldl_nil,cv]
   unfold yf;by_cases h0:b=0
   ·rw[qX h0,qX (by omega),qX h0,ag,ag (by simp[bg];omega)]
    simp
   ·rw[qW h0,qW (by omega),qW h0,ag,ag (by simp[bg];omega)]
    rw[show((a+b:Nat):Int).toNat-(a:Int).toNat=b by omega]
    simp
  |cons p aa=>
   simp only[qL]at h hb;have hp0:=hp p qH;rw[List.map_cons];have hl:((ab++(p:Int)::aa.map Nat.cast).length:Int)=((ab.length+aa.length+1:Nat):Int):=by simp;omega
   rw[hl,ag]
   have hlt:(0<=(ab.length:Int)/\(ab.length:Int).toNat<(ab++(p:Int)::aa.map Nat.cast).length):=by simp
   rw[ag hlt,qb3,qB,List.foldl_cons];have fin:∀b',a+b'<=s.length->vk fu r2 n s (a:Int) (yf a b') (af ((ab.length:Int)+1)) (ab++(p:Int)::aa.map Nat.cast) out=(if aa.foldl (gh a) b'=0 then some (out++[s.drop a]) else r2 s ((a+aa.foldl (gh a) b':Nat):Int) (ab++(p:Int)::aa.map Nat.cast) (out++[(s.drop a).take (aa.foldl (gh a) b')])):=by
    intro b' hb';have:=ih s a b' (ab++[(p:Int)]) aa out (by omega) (by simp;omega) (fun q hq=>hp q (qE _ hq)) ha hs hb' ho
    rw[aw _]
    simpa using this
   unfold qdr qjb;rw[cv];by_cases q1:a<p
   ·have e1:af ((p:Int)-(a:Int))=((p-a:Nat):Int):=by rw[d8];omega
    have e2:(p:Int)=yf a (p-a):=by unfold yf;rw[qW (by omega)];omega
    rw[qX (by omega),e1,cv]
    by_cases q2:p-a<=78
    ·rw[qX (by omega),au,show gh a b p=p-a by unfold gh;rw[qX ⟨q1,.inl q2⟩],← fin (p-a) (by omega),← e2]
    ·rw[qW (by omega)]
     by_cases q3:b=0
     ·rw[au (by unfold yf;rw[qX q3];rfl),show gh a b p=p-a by unfold gh;rw[qX ⟨q1,.inr q3⟩],← fin (p-a) (by omega),← e2]
     ·rw[ay (by unfold yf;rw[qW q3];exact decide_eq_false (by omega)),show gh a b p=b by unfold gh;rw[qW (by omega)],fin b hab]
   ·rw[qW (by omega),ay (by rfl),show gh a b p=b by unfold gh;rw[qW (by omega)],fin b hab]
def q9e(fu n:Nat)(s:List UInt8)(k0:Nat)(hk1:1<=k0)(hk:k0<=s.length)(hs:s.length<500000000)(hfu:s.length<fu):∀(m a:Nat)(out:List (List UInt8)),s.length-a<=m->s.length-a<n->(a=0\/k0<=a)->a<s.length->out.length+(s.length-a)<500000000 ->
  rm fu n s (a:Int) ((pts s k0 (s.length-k0)).map Nat.cast) out=some (out++fm m (s.drop a) (if a=0 then k0 else 1)):=by
 induction n with
 |zero=>intro m a out _ h;omega|succ n ih=>
  intro m a out hm h hz ha ho;rw[rm,qi8,show af ((s.length:Int)-(a:Int))=((s.length-a:Nat):Int) by rw[d8];omega,cv]
  have ac:(s.drop a).length=s.length-a:=List.length_drop;by_cases hl:78<s.length-a
  ·obtain⟨m,rfl⟩:∃j,m=j+1:=⟨m-1,by omega⟩
   have hpl:=zni s k0 (s.length-k0);have hin:=zkl fu (rm fu n) fu s a 0 [] (pts s k0 (s.length-k0)) out (by omega) (by simp;omega) (fun p hp=>by
    unfold pts at hp;rw[List.mem_filter,List.mem_range'_1]at hp;omega) (by omega) (by omega) (by omega) (by omega)
   rw[zo7 s a k0 hk1 hz ha hk]at hin;simp only[List.nil_append,qZ]at hin;rw[qX (by omega),fm,ac,qX hl]
   have hin:vk fu (rm fu n) fu s (a:Int) (-1) 0 ((pts s k0 (s.length-k0)).map Nat.cast) out=_:=hin;rw[hin];by_cases h0:fk (s.drop a) (if a=0 then k0 else 1)=0
   ·rw[qX h0,qX h0]
   ·obtain⟨h1,h2,_⟩:=qv9 (s.drop a) (if a=0 then k0 else 1) (by split<;>omega) h0
    rw[qW h0,qW h0];generalize hB:fk (s.drop a) (if a=0 then k0 else 1)=B at *
    have:=ih m (a+B) (out++[(s.drop a).take B]) (by omega) (by omega) (.inr (by
     split at h1
     ·omega
     ·rcases hz with hz|hz<;>omega)) (by omega) (by rw[qM,wD];split at h1<;>omega)
    rw[qW (by split at h1<;>omega)]at this
    rw[this];simp[List.drop_drop]
  ·rw[qW (by omega),ag,ag (by simp[bg];omega)]
   have e:fm m (s.drop a) (if a=0 then k0 else 1)=[s.drop a]:=by cases m with|zero=>rfl|succ m=>rw[fm,ac,qW hl]
   rw[e];simp
def znh(fu n:Nat):∀(s:List UInt8)(m i:Nat)(acc:List Int),i+m=s.length->1<=i->m<n->s.length<1000000000->acc.length+m<1000000000 ->
  zd fu n s (i:Int) acc=rm fu fu s 0 (acc++(pts s i m).map Nat.cast) []:=by
 induction n with
 |zero=>intro s m i acc _ _ h;omega|succ n ih=>
  intro s m i acc hi h1 hm hb ha;rw[zd,qi7]
  cases m with
  |zero=>rw[ap];simp[pts]|succ m=>
   have hlt:i<s.length:=by omega
   have hlt':i-1<s.length:=by omega
   rw[ag,uk _ _ hlt,qB,qck,qB,qyw]
   unfold qi9 qja;rw[show ja s i=(bl s[i] && !bl s[i-1]) by unfold ja;rw[qna _ _ hlt,qna _ _ hlt']]
   cases bl s[i]
   ·rw[ay (by rfl),ay (by rfl),aw _]
    exact ih s m (i+1) acc (by omega) (by omega) (by omega) hb (by omega)
   ·rw[au,show af ((i:Int)-1)=((i-1:Nat):Int) by rw[d8];omega,uk _ _ hlt',qB,qck,qB]
    cases bl s[i-1]
    ·rw[dh,ag (by simp[bg];omega),aw _]
     have:=ih s m (i+1) (acc++[(i:Int)]) (by omega) (by omega) (by omega) hb (by simp;omega)
     simpa using this
    ·rw[cf,aw _]
     exact ih s m (i+1) acc (by omega) (by omega) (by omega) hb (by omega)
def zh1(n v:List UInt8):fk (bz n v) (n.length+2)=fk (bz n v) (n.length+3):=by
 unfold fk
 cases v with
 |nil=>rw[show(bz n []).length=n.length+2 by simp[bz]];simp[cb]|cons c v=>
  have hl:(bz n (c::v)).length=n.length+3+v.length:=by simp[bz];omega
  rw[hl,show n.length+3+v.length-(n.length+2)=v.length+1 by omega,show n.length+3+v.length-(n.length+3)=v.length by omega,cb]
  have:ja (bz n (c::v)) (n.length+2)=false:=by
   unfold ja;have e:(bz n (c::v)).getD (n.length+2-1) 0=32:=by
    rw[show bz n (c::v)=(n++[58])++32::c::v by simp[bz],show n.length+2-1=(n++[58]).length by simp]
    simp[List.getD_eq_getElem?_getD]
   rw[e];cases bl ((bz n (c::v)).getD (n.length+2) 0)<;>rfl
  rw[this];rfl
def zjs(n v:List UInt8):fm (bz n v).length (bz n v) (n.length+3)=iq n v:=by
 unfold iq
 cases h:(bz n v).length with|zero=>rfl|succ m=>rw[fm,fm,zh1]
def zjy(fu:Nat)(n v:List UInt8)(h:n.length+v.length+3<fu:=by omega)(hb:n.length+v.length<400000000:=by omega):qi6 fu n v=some (iq n v):=by
 unfold qi6;have hl:(bz n v).length=n.length+2+v.length:=by simp[bz];omega
 rw[ag (by simp[aq];omega),ag (by simp[aq];omega)]
 rw[show n++([58,32]:List UInt8)++v=bz n v from rfl,show af ((n.length:Int)+3)=((n.length+3:Nat):Int) by rw[d8];omega]
 cases v with
 |nil=>
  obtain⟨k,rfl⟩:∃k,fu=k+1:=⟨fu-1,by omega⟩
  simp only[qZ]at h hl;rw[zd,qi7,ap]
  -- too short for points
  by_cases hn:78<n.length+2
  ·have:=q9e (k+1) (k+1) (bz n []) (n.length+2) (by omega) (by omega) (by omega) (by omega) (bz n []).length 0 [] (by omega) (by omega) (.inl rfl) (by omega) (by simp;omega)
   rw[show(bz n []).length-(n.length+2)=0 by omega]at this
   exact this
  ·rw[rm,qi8,show af (((bz n []).length:Int)-0)=((bz n []).length:Int) by rw[d8];omega,ap,ag,ag (by simp[bg])]
   unfold iq;rw[show fm (bz n []).length (bz n []) (n.length+2)=[bz n []] by
    rw[hl,show n.length+2+0=n.length+1+1 by omega,fm,qW (by omega)]]
   rfl
 |cons c v=>
  simp only[qL]at h hb hl;have:=znh fu fu (bz n (c::v)) v.length (n.length+3) [] (by omega) (by omega) (by omega) (by omega) (by simp;omega)
  rw[this,List.nil_append,← zjs];have:=q9e fu fu (bz n (c::v)) (n.length+3) (by omega) (by omega) (by omega) (by omega) (bz n (c::v)).length 0 [] (by omega) (by omega) (.inl rfl) (by omega) (by simp;omega)
  rw[show(bz n (c::v)).length-(n.length+3)=v.length by omega]at this
  exact this
def znx(fu n:Nat)(m16:Int×Int):∀(ab aa:List (List UInt8)),aa.length<n->ab.length+aa.length<1000000000 ->
  qdq fu n (ab.length:Int) m16 (ab++aa)=some (match uq ab.length aa with|some i=>(1,(i:Int))|none=>(0,0)):=by
 induction n with
 |zero=>intro ab aa h;omega|succ n ih=>
  intro ab aa h hb;rw[qdq,qp6]
  cases aa with
  |nil=>rw[ap];rfl|cons c aa=>
   simp only[qL]at h hb;rw[cw,ag,jl,bm,qB,cv,uq]
   by_cases hc:998<c.length
   ·rw[qX (by omega),qX hc];rfl
   ·rw[qW (by omega),qW hc,aw _]
    have:=ih (ab++[c]) aa (by omega) (by simp;omega)
    simpa using this
def qxd:∀(m:Nat)(s:List UInt8)(k:Nat),s.length<=m->1<=k->(fm m s k).length<=s.length+1
 |0,s,_,_,_=>by simp[fm]|m+1,s,k,h,hk=>by
  rw[fm];split
  ·split
   ·simp
   ·rename_i h0;obtain⟨h1,h2,_⟩:=qv9 s k hk h0;have:=qxd m (s.drop (fk s k)) 1 (by rw[List.length_drop];omega) (by omega)
    rw[List.length_drop]at this;rw[qL];omega
  ·simp
def zlh(ls:List (List UInt8)):(xt ls).1=(match uq 0 ls with|some i=>(1,(i:Int))|none=>(0,0)):=by
 unfold xt;split<;>simp_all
def zju(fu:Nat)(n v:List UInt8)(hfu:10000<=fu:=by omega)(hn:n.length<fu:=by omega)(hv:v.length<fu:=by omega)(hnb:n.length<1000000000:=by omega)(hvb:v.length<1000000000:=by omega):qi5 fu n v=some (qf n v).1:=by
 unfold qi5 qf;rw[zny fu n v (by omega) hn hv hnb hvb,qB,fj]
 by_cases h0:oe n v=0
 ·obtain⟨h1,h2,_⟩:=qw5 h0;have hl:=qxc h1;rw[qW (by omega),qX h0,zjy fu n v,qB,zlh]
  have:=qxd (bz n v).length (bz n v) (n.length+2) (wF _) (by omega)
  have hle:(bz n v).length=n.length+2+v.length:=by simp[bz];omega
  have:=znx fu fu (0,0) [] (iq n v) (by unfold iq;omega) (by unfold iq;simp;omega)
  exact this
 ·rw[qX h0,qW h0];rfl
def q7u{α:Type}(ab:List α)(c d:α)(aa:List α):am (ab++c::d::aa) ((ab.length+1:Nat):Int)=some d:=by
 have:=bm (ab++[c]) d aa;simpa using this
def f5(c:UInt8)(r:List UInt8):Bool:=c==13&&r.head? == some 10
def qni{c:UInt8}{r:List UInt8}(h:f5 c r=true):c=13/\∃r',r=10::r':=by
 unfold f5 at h;simp only[qA,beq_iff_eq]at h;refine⟨h.1,?_⟩
 cases r with|nil=>simp at h|cons d r=>simp at h;exact⟨r,by rw[h.2]⟩
def eo:List UInt8->List UInt8|[]=>[]|c::r=>if f5 c r then 13::10::eo r.tail else if c=13\/c=10 then 13::10::eo r else c::eo r
termination_by l=>l.length
decreasing_by all_goals (simp only[qL,List.length_tail];omega)
def q9x(ab:List UInt8)(c:UInt8)(r:List UInt8)(hb:ab.length<100000000:=by omega):za (ab++c::r) (ab.length:Int)=some (f5 c r):=by
 unfold za f5;rw[aw _]
 cases r with
 |nil=>rw[ap];cases c==13<;>rfl
 |cons d r=>
  rw[ag (by simp<;>omega),bm,qB]
  cases c==13
  ·rfl
  ·rw[au,q7u,qB]
   cases h:d==10<;>simp_all
def bs(col:Nat):List UInt8->Int|[]=>0|c::r=>if f5 c r then bs 0 r.tail else if c=13\/c=10 then 11 else if 998<=col then 1 else bs (col+1) r
termination_by l=>l.length
decreasing_by all_goals (simp only[qL,List.length_tail];omega)
def qmd(col:Nat):bs col []=0:=by rw[bs]
def qwa(col:Nat)(c:UInt8)(r:List UInt8):bs col (c::r)=if f5 c r then bs 0 r.tail else if c=13\/c=10 then 11 else if 998<=col then 1 else bs (col+1) r:=by rw[bs]
def qv7(x:Int):Int×Int:=if x=11 then(11,-5) else if x=1 then(1,-6) else(0,0)
def zhv(fu n:Nat):∀(ab aa:List UInt8)(col:Nat),aa.length<n->ab.length+aa.length<100000000->col<=2000 ->
  qad fu n (ab++aa) (col:Int) (ab.length:Int)=some (bs col aa):=by
 induction n with
 |zero=>intro ab aa col h;omega|succ n ih=>
  intro ab aa col h hb hcol;rw[qad,qrs]
  cases aa with
  |nil=>rw[ap,qmd]|cons c r=>
   simp only[qL]at h hb;have fin:∀f,f=f5 c r->qae fu (qad fu n) (ab++c::r) (col:Int) (ab.length:Int) c f=some (bs col (c::r)):=by
    intro f hf;unfold qae;rw[qwa,hf];cases hc:f5 c r
    ·rw[ay (by rfl),qW (by decide)]
     unfold qrt;rw[kh,kh];by_cases h13:c=13
     ·rw[qX h13,qX (.inl h13)]
     ·rw[qW h13];by_cases h10:c=10
      ·rw[qX h10,qX (.inr h10)]
      ·rw[qW h10,qW (by simp[h13,h10]),aw _,cv]
       by_cases hq:998<=col
       ·rw[qX (by omega),qX hq]
       ·rw[qW (by omega),qW hq,aw _]
        have:=ih (ab++[c]) r (col+1) (by omega) (by simp;omega) (by omega)
        simpa using this
    ·obtain⟨rfl,r',rfl⟩:=qni hc;simp only[qL]at h hb;rw[au,qX rfl,aw _,aw _,show ab.length+1+1=ab.length+2 from rfl]
     have:=ih (ab++[13,10]) r' 0 (by omega) (by simp;omega) (by omega)
     simpa using this
   rw[cw,ag,bm,qB,kh]
   by_cases h13:c=13
   ·subst h13;rw[qX rfl,aw _]
    cases r with
    |nil=>rw[ap];exact fin false rfl|cons d r=>
     rw[ag (by simp only[qL];omega),q7u,qB]
     exact fin _ (by unfold f5;cases h:d==10<;>simp_all)
   ·rw[qW h13];exact fin false (by unfold f5;rw[beq_false_of_ne h13];rfl)
def zh3(n:Nat):∀(s:List UInt8)(col:Nat),s.length<=n->bs col s=0\/bs col s=1\/bs col s=11:=by
 induction n with
 |zero=>intro s col h;have:=List.length_eq_zero_iff.1 (Nat.le_zero.1 h);subst this;rw[qmd];exact .inl rfl|succ n ih=>
  intro s col h
  cases s with
  |nil=>rw[qmd];exact .inl rfl|cons c r=>
   simp only[qL]at h;rw[qwa];split
   ·exact ih _ _ (by rw[List.length_tail];omega)
   ·split
    ·exact .inr (.inr rfl)
    ·split
     ·exact .inr (.inl rfl)
     ·exact ih _ _ (by omega)
def znv(fu n:Nat)(m16:Int×Int):∀(ab aa:List UInt8)(col b:Nat),aa.length<n->ab.length+aa.length<100000000->b+col=ab.length ->
  qeu fu n (ab++aa) (b:Int) (ab.length:Int) m16=some (qv7 (bs col aa)):=by
 induction n with
 |zero=>intro ab aa col b h;omega|succ n ih=>
  intro ab aa col b h hb hcol;rw[qeu,qq9]
  cases aa with
  |nil=>rw[ap,qmd];rfl|cons c r=>
   simp only[qL]at h hb;rw[cw,ag,q9x ab c r,qB,qwa]
   cases hc:f5 c r
   ·rw[ay (by rfl),qW (by decide),bm,qB,qB,kh]
    unfold qjq;by_cases h13:c=13
    ·rw[qX h13,qX (.inl h13)];rfl
    ·rw[qW h13,kh];by_cases h10:c=10
     ·rw[qX h10,qX (.inr h10)];rfl
     ·rw[qW h10,qW (by simp[h13,h10]),show af ((ab.length:Int)-(b:Int))=(col:Int) by rw[d8];omega,cv]
      by_cases hq:998<=col
      ·rw[qX (by omega),qX hq];rfl
      ·rw[qW (by omega),qW hq,aw _]
       have:=ih (ab++[c]) r (col+1) b (by omega) (by simp;omega) (by simp;omega)
       simpa using this
   ·obtain⟨rfl,r',rfl⟩:=qni hc;simp only[qL]at h hb;rw[au,qX rfl,aw _,aw _,show ab.length+1+1=ab.length+2 from rfl]
    have:=ih (ab++[13,10]) r' 0 (ab.length+2) (by omega) (by simp;omega) (by simp)
    simpa using this
def znu(fu:Nat)(s:List UInt8)(h:s.length<fu:=by omega)(hb:s.length<100000000:=by omega):qq8 fu s=some (qv7 (bs 0 s)):=by
 have:=znv fu fu (0,0) [] s 0 0 h (by simpa using hb) rfl
 exact this
abbrev bj:Type:=List UInt8×List UInt8
def jw(l:List bj):Prop:=l.length<=10000000/\∀x∈l,x.1.length<=10000000/\x.2.length<=10000000
def jw.tail{x:bj}{l:List bj}(h:jw (x::l)):jw l:=⟨by have:=h.1;simp only[qL]at this;omega,fun y hy=>h.2 y (qE _ hy)⟩
def ff:Nat->List bj->Int×Int|_,[]=>(0,0)|i,x::l=>if(qf x.1 x.2).1.1≠0 then((qf x.1 x.2).1.1,(i:Int)) else ff (i+1) l
def oh(l:List bj):Int×Int:=if 60<l.length then(2,-1) else ff 0 l
def zkd(fu n:Nat)(hfu:90000000<=fu)(m16:Int×Int):∀(ab aa:List bj),aa.length<n->ab.length+aa.length<100000000->jw aa ->
  qfb fu n (ab++aa) ((ab.length+aa.length:Nat):Int) (ab.length:Int) m16=some (ff ab.length aa):=by
 induction n with
 |zero=>intro ab aa h;omega|succ n ih=>
  intro ab aa h hb hs;rw[qfb,qsj]
  cases aa with
  |nil=>rw[ap];rfl|cons x aa=>
   simp only[qL]at h hb ⊢;obtain⟨q1,q2⟩:=hs.2 x qH;rw[ag,bm,qB,zjv fu x.1 x.2,qB,qd,qB,fj,ff]
   split
   ·rfl
   ·rw[aw _]
    have:=ih (ab++[x]) aa (by omega) (by simp;omega) hs.tail
    simp only[qS,wM,qM,qL,qZ]at this;rw[show ab.length+(0+1)+aa.length=ab.length+(aa.length+1) by omega]at this
    exact this
def zkc(fu:Nat)(hfu:90000000<=fu)(l:List bj)(hs:jw l):qkb fu l=some (oh l):=by
 unfold qkb oh;rw[cv];split
 ·rw[qX (by omega)];rfl
 ·rw[qW (by omega)]
  have:=zkd fu fu hfu (0,0) [] l (by have:=hs.1;omega) (by have:=hs.1;simp;omega) hs
  simp only[List.nil_append,qZ,wO]at this;exact this
def zoh(fu n:Nat)(hfu:90000000<=fu)(m16:Int×Int):∀(ab aa:List bj),aa.length<n->ab.length+aa.length<100000000->jw aa ->
  qdo fu n (ab++aa) (ab.length:Int) m16=some (ff ab.length aa):=by
 induction n with
 |zero=>intro ab aa h;omega|succ n ih=>
  intro ab aa h hb hs;rw[qdo,qp4]
  cases aa with
  |nil=>rw[ap];rfl|cons x aa=>
   simp only[qL]at h hb ⊢;obtain⟨q1,q2⟩:=hs.2 x qH;rw[qno,qL,ag,bm,qB,qB,zju fu x.1 x.2,qB,fj,ff]
   split
   ·rfl
   ·rw[aw _]
    have:=ih (ab++[x]) aa (by omega) (by simp;omega) hs.tail
    simpa using this
def zog(fu:Nat)(hfu:90000000<=fu)(l:List bj)(hs:jw l):qi3 fu l=some (oh l):=by
 unfold qi3 oh;rw[cv];split
 ·rw[qX (by omega)];rfl
 ·rw[qW (by omega)]
  have:=zoh fu fu hfu (0,0) [] l (by have:=hs.1;omega) (by have:=hs.1;simp;omega) hs
  exact this
def okF(x:bj):Prop:=oe x.1 x.2=0/\uq 0 (iq x.1 x.2)=none
def zme{x:bj}(h:okF x):qf x.1 x.2=((0,0),iq x.1 x.2):=by
 unfold qf xt;rw[qX h.1,h.2]
def zjx{x:bj}(h:(qf x.1 x.2).1.1=0:=by omega):okF x:=by
 unfold qf xt at h;by_cases h0:oe x.1 x.2=0
 ·refine⟨h0,?_⟩;rw[qX h0]at h;split at h
  ·exact absurd h (by simp)
  ·rename_i h1;exact h1
 ·rw[qW h0]at h;exact absurd h h0
def q64:∀(i:Nat)(l:List bj),(ff i l).1=0->∀x∈l,okF x
 |_,[],_,_,h=>by cases h
 |i,y::l,h,x,hx=>by
  rw[ff]at h;split at h
  ·rename_i h1;exact absurd h h1
  ·rename_i h1;rcases List.mem_cons.1 hx with rfl|hx
   ·exact zjx
   ·exact q64 (i+1) l h x hx
def q88:∀(i:Nat)(l:List bj),(∀x∈l,okF x)->ff i l=(0,0)
 |_,[],_=>rfl|i,y::l,h=>by
  rw[ff,zme (h y qH),qW (by simp)]
  exact q88 (i+1) l fun x hx=>h x (qE _ hx)
def zjj{l:List bj}(h:(oh l).1=0):oh l=(0,0)/\l.length<=60/\∀x∈l,okF x:=by
 unfold oh at h ⊢;split at h
 ·exact absurd h (by decide)
 ·rename_i hl;have:=q64 0 l h;rw[qW hl];exact⟨q88 0 l this,by omega,this⟩
def qnn(ls:List (List UInt8)):List UInt8:=ls.flatMap fun s=>s++[13,10]
def zji(l:List bj):List UInt8:=l.flatMap fun x=>qnn (iq x.1 x.2)
def hbytes(l:List bj):List UInt8:=zji l++[13,10]
def q7i:∀(m:Nat)(s:List UInt8)(k:Nat),(fm m s k).flatten=s
 |0,s,_=>by simp[fm]|m+1,s,k=>by
  rw[fm];split
  ·split
   ·simp
   ·rw[List.flatten_cons,q7i m,List.take_append_drop]
  ·simp
def q76:∀ls:List (List UInt8),(qnn ls).length=ls.flatten.length+2*ls.length
 |[]=>rfl|s::ls=>by
  have:=q76 ls;unfold qnn at this ⊢;rw[List.flatMap_cons,List.flatten_cons,qM,qM,this];simp only[qM,qL,qZ];omega
def q86{x:bj}(h:okF x):x.1.length<=60/\x.2.length<=4000/\(iq x.1 x.2).length<=5000/\(qnn (iq x.1 x.2)).length<=20000:=by
 obtain⟨h1,h2,_⟩:=qw5 h.1;have hl:=qxc h1;have hle:(bz x.1 x.2).length=x.1.length+2+x.2.length:=by simp[bz];omega
 have h3:=qxd (bz x.1 x.2).length (bz x.1 x.2) (x.1.length+2) (wF _) (by omega)
 have h4:(iq x.1 x.2).flatten.length=(bz x.1 x.2).length:=by unfold iq;rw[q7i]
 have h5:(iq x.1 x.2).length<=5000:=by unfold iq;omega
 exact⟨hl,h2,h5,by rw[q76];omega⟩
def SmM(m:List bj×List UInt8):Prop:=jw m.1/\m.2.length<=80000000
def zie(t:List UInt8):List UInt8:=if t.getLast? = some 13 then t.dropLast else t
def ln(r:List UInt8):List UInt8×Nat:=if(10:UInt8)∈r then(zie (r.takeWhile (· != 10)),(r.takeWhile (· != 10)).length+1) else(r,r.length)
def zjr(s:List UInt8):Option bj:=if(58:UInt8)∈s/\ol (gv (s.takeWhile (· != 58)))=true then some (gv (s.takeWhile (· != 58)),(s.dropWhile (· != 58)).tail) else none

def qlz(out:List bj)(s:List UInt8):List bj:=match out.getLast? with|some x=>out.dropLast++[(x.1,x.2++s)]|none=>out
def zgy(out:List bj)(x:bj)(s:List UInt8):qlz (out++[x]) s=out++[(x.1,x.2++s)]:=by
 unfold qlz;rw[List.getLast?_concat,List.dropLast_concat]
def hd:Nat->List UInt8->Nat->List bj->Nat×List bj
 |0,_,a,out=>(a,out)|n+1,r,a,out=>
  if r=[] then(a,out) else
  if(ln r).1=[] then(a+(ln r).2,out) else
  if bl ((ln r).1.headD 0)=true/\out≠[] then hd n (r.drop (ln r).2) (a+(ln r).2) (qlz out (ln r).1) else
  match zjr (ln r).1 with|none=>(a,out)|some x=>hd n (r.drop (ln r).2) (a+(ln r).2) (out++[x])
def SmA(a:Nat)(l:List bj):Prop:=l.length<=a/\∀x∈l,x.1.length<=a/\x.2.length<=a
def SmA.mono{a b:Nat}{l:List bj}(h:SmA a l)(hab:a<=b):SmA b l:=⟨Nat.le_trans h.1 hab,fun x hx=>⟨Nat.le_trans (h.2 x hx).1 hab,Nat.le_trans (h.2 x hx).2 hab⟩⟩
def SmA.app{a k:Nat}{l:List bj}(h:SmA a l)(hne:l≠[])(s:List UInt8)(hs:s.length<=k):SmA (a+k) (qlz l s):=by
 rcases List.eq_nil_or_concat l with rfl|⟨t,x,rfl⟩
 ·exact absurd rfl hne
 ·rw[List.concat_eq_append]at *;rw[zgy];refine⟨by have:=h.1;simp only[qM,qL,qZ]at this ⊢;omega,fun y hy => ?_⟩
  rcases List.mem_append.1 hy with hy|hy
  ·have:=h.2 y (List.mem_append_left _ hy);omega
  ·have:=h.2 x (by simp)
   rw[List.mem_singleton.1 hy];simp only[qM];omega



def cn(l:List bj)(n:List UInt8):List (List UInt8):=(l.filter fun x=>x.1.map lo==n.map lo).map (·.2)
def ve(x:bj)(l:List bj)(n:List UInt8):cn (x::l) n=if(x.1.map lo==n.map lo)=true then x.2::cn l n else cn l n:=by
 unfold cn;rw[List.filter_cons];split<;>rfl
def zrm(l:List bj)(n:List UInt8):(cn l n).length<=l.length:=by
 unfold cn;rw[wC];exact List.length_filter_le _ _
def zro(fu n:Nat)(hfu:90000000<=fu)(nm:List UInt8)(hn:nm.length<=1000):∀(ab aa:List bj)(out:List (List UInt8)),aa.length<n->ab.length+aa.length<100000000->jw aa->out.length+aa.length<1000000000 ->
  zt fu n (ab++aa) nm (ab.length:Int) out=some (out++cn aa nm):=by
 induction n with
 |zero=>intro ab aa out h;omega|succ n ih=>
  intro ab aa out h hb hs hk;rw[zt,qqy]
  cases aa with
  |nil=>rw[ap];simp[cn]|cons x aa=>
   simp only[qL]at h hb hk;obtain⟨q1,q2⟩:=hs.2 x qH;have next:∀out':List (List UInt8),out'.length<=out.length+1->zt fu n (ab++x::aa) nm (af ((ab.length:Int)+1)) out'=some (out'++cn aa nm):=by
    intro out' hj;have:=ih (ab++[x]) aa out' (by omega) (by simp;omega) hs.tail (by omega)
    rw[aw _]
    simpa using this
   rw[qno,qL,ag,bm,qB,q5d fu _ _ (by omega) (by omega) (by simp only[maxLen];omega) (by simp only[maxLen];omega),qB,ve]
   cases hc:x.1.map lo==nm.map lo
   ·rw[ay (by rfl),qW (by decide)]
    exact next out (by omega)
   ·rw[au,qX rfl,qB,ag (by simp[bg];omega),next _ (by simp)]
    simp
def qzw(fu:Nat)(hfu:90000000<=fu)(l:List bj)(nm:List UInt8)(hn:nm.length<=1000)(hs:jw l):qej fu l nm=some (cn l nm):=by
 have h1:=hs.1;have:=zro fu fu hfu nm hn [] l [] (by omega) (by simp;omega) hs (by simp;omega)
 exact this
def zne(f:Bs->Bs->Option Pc):∀(n:Nat)(acc:List Pc)(s:Bs)(l:List Pc),db f n acc s=some l->∃t,l=acc++t:=by
 intro n
 induction n with
 |zero=>intro acc s l h;cases h
 |succ n ih=>
  intro acc s l h;rw[db]at h
  cases ht:a8 s with
  |nil=>rw[ht]at h;cases h;exact⟨[],by simp⟩
  |cons c t=>
   rw[ht]at h;simp only at h;by_cases hc:c=59
   ·rw[qX hc]at h
    cases hx:ow t with
    |none=>rw[hx]at h;cases h
    |some x=>
     rw[hx]at h;simp only at h
     cases hp:f x.1.1 x.1.2 with
     |none=>rw[hp]at h;cases h
     |some p=>
      rw[hp]at h;simp only at h;obtain⟨u,e⟩:=ih _ _ _ h;exact⟨p::u,by rw[e];simp⟩
   ·rw[qW hc]at h;cases h
def jc(p:Pc):Prop:=p.2.1<1000000000
def znd:∀(n:Nat)(acc:List Pc)(s:Bs),(∀p∈acc,jc p)->(∀l,db e8 n acc s=some l->(∀p∈l,jc p)->db gf n acc s=some l) /\
  (∀l,db e8 n acc s=some l->(∃p∈l,¬jc p)->db gf n acc s=none)/\(db e8 n acc s=none->db gf n acc s=none):=by
 intro n
 induction n with
 |zero=>intro acc s _;exact⟨fun l h=>(nomatch h),fun l h=>(nomatch h),fun _=>rfl⟩
 |succ n ih=>
  intro acc s ha;rw[db,db]
  cases ht:a8 s with
  |nil=>exact⟨fun l h _=>h,fun l h hb=>(by cases h;obtain⟨p,hp,hq⟩:=hb;exact absurd (ha p hp) hq),fun h=>h⟩
  |cons c t=>
   simp only;by_cases hc:c=59
   ·rw[qX hc,qX hc]
    cases hx:ow t with
    |none=>exact⟨fun l h=>(nomatch h),fun l h=>(nomatch h),fun _=>rfl⟩
    |some x=>
     simp only;unfold gf
     cases hp:e8 x.1.1 x.1.2 with
     |none=>exact⟨fun l h=>(nomatch h),fun l h=>(nomatch h),fun _=>rfl⟩
     |some p=>
      simp only;by_cases hs:p.2.1<1000000000
      ·simp only[qX hs];exact ih (acc++[p]) x.2 (fun y hy=>(List.mem_append.1 hy).elim (ha y) (fun e=>by rw[List.mem_singleton.1 e];exact hs))
      ·simp only[qW hs];refine⟨fun l h hall => ?_,fun _ _ _=>by first|rfl|trivial,fun _=>by first|rfl|trivial⟩
       obtain⟨u,e⟩:=zne e8 n _ _ _ h;exact absurd (hall p (by rw[e];simp)) hs
   ·rw[qW hc,qW hc];exact⟨fun l h=>(nomatch h),fun l h=>(nomatch h),fun _=>rfl⟩
def znf:∀(n:Nat)(acc:List Pc)(s:Bs)(l:List Pc),db e8 n acc s=some l->cu l<=cu acc+s.length/\((∀p∈acc,nb p)->∀p∈l,nb p):=by
 intro n
 induction n with
 |zero=>intro acc s l h;cases h
 |succ n ih=>
  intro acc s l h;have hl:=ku s;rw[db]at h
  cases ht:a8 s with
  |nil=>rw[ht]at h;cases h;exact⟨Nat.le_add_right _ _,fun h=>h⟩
  |cons c t=>
   rw[ht]at h hl;simp only[qL]at h hl;by_cases hc:c=59
   ·rw[qX hc]at h
    cases hx:ow t with
    |none=>rw[hx]at h;cases h
    |some x=>
     rw[hx]at h;simp only at h;have hxl:=(qxs (n:=x.1.1) (v:=x.1.2) (t:=x.2) hx).1
     cases hp:e8 x.1.1 x.1.2 with
     |none=>rw[hp]at h;cases h
     |some p=>
      rw[hp]at h;simp only at h;obtain⟨g1,g2,g3,g4,_⟩:=q9m hp;obtain⟨e1,e2⟩:=ih _ _ _ h;rw[zbo,g2]at e1;exact⟨by omega,fun hh=>e2 (fun y hy=>(List.mem_append.1 hy).elim (hh y) (fun e=>by rw[List.mem_singleton.1 e];exact⟨g3,g4⟩))⟩
   ·rw[qW hc]at h;cases h
def q81:∀(q:List Pc)(k:Int),l5 q k->∀x∈q,x.2.1<k+q.length
 |[],_,_,_,h=>by cases h
 |p::r,k,h,x,hx=>by
  simp only[qL];rcases List.mem_cons.1 hx with e|e
  ·subst e;have:=h.1;omega
  ·have:=q81 r _ h.2 x e;omega
def q77{a b c:Bs}(h1:lk a b=true)(h2:lk b c=true):lk a c=true:=by
 unfold lk at *;simp only[beq_iff_eq]at *;rw[h1,h2]
def zl1(l:List Pc){a b:Bs}(h:lk a b=true):ck a l=ck b l:=by
 unfold ck;congr 1;funext x;rw[Bool.eq_iff_iff];exact⟨fun g=>q77 g h,fun g=>q77 g (by rw[qxt];exact h)⟩
def zmp(l:List Pc):∀(aa ab:List Pc)(out:List cd),l=ab++aa->(e7 ab aa out).1=true->(∀x∈ab,qh (ck x.1 l)≠none)->∀x∈l,qh (ck x.1 l)≠none:=by
 intro aa
 induction aa with
 |nil=>intro ab out hl _ hp;rw[hl,List.append_nil];rw[hl,List.append_nil]at hp;exact hp|cons p aa ih=>
  intro ab out hl h hp;rw[e7]at h;by_cases hany:ab.any (fun x=>lk x.1 p.1)=true
  ·rw[qX hany]at h;refine ih (ab++[p]) out (by rw[hl];simp) h (fun x hx => ?_)
   rcases List.mem_append.1 hx with g|g
   ·exact hp x g
   ·rw[List.mem_singleton.1 g];obtain⟨y,hy,hk⟩:=List.any_eq_true.1 hany;rw[← zl1 l hk];exact hp y hy
  ·rw[qW hany,← hl]at h
   cases hj:qh (ck p.1 l) with
   |none=>rw[hj]at h;cases h
   |some v=>
    rw[hj]at h;refine ih (ab++[p]) _ (by rw[hl];simp) h (fun x hx => ?_)
    rcases List.mem_append.1 hx with g|g
    ·exact hp x g
    ·rw[List.mem_singleton.1 g,hj];simp
def zk5(A:List Pc)(hn:∀x∈A,nb x)(hl:A.length<=300000)(h:qh A≠none):∀x∈A,jc x:=by
 cases A with
 |nil=>intro x hx;cases hx
 |cons p l=>
  rw[qnm]at h;by_cases h0:p.2.1<0
  ·rw[qX h0]at h;by_cases h1:l=[]
   ·subst h1;intro x hx;rw[List.mem_singleton.1 hx];unfold jc;omega
   ·rw[qW h1]at h;exact absurd rfl h
  ·rw[qW h0]at h;obtain⟨_,h2,_⟩:=qzg (p::l) hn
   have hnum:l5 (gl (p::l)) 0:=by
    by_cases hq:l5 (gl (p::l)) 0
    ·exact hq
    ·rw[q78 _ _ _ hq]at h;exact absurd rfl h
   intro x hx;have:=q81 _ 0 hnum x (h2.mem_iff.2 hx);rw[h2.length_eq]at this;unfold jc;omega
def zmq(l:List Pc)(hn:∀x∈l,nb x)(hl:l.length<=300000)(hb:∃p∈l,¬jc p):(e7 [] l []).1=false:=by
 cases h:(e7 [] l []).1
 ·rfl
 ·obtain⟨p,hp,hq⟩:=hb;have:=zmp l l [] [] rfl h (by simp) p hp
  refine absurd (zk5 (ck p.1 l) (fun x hx=>hn x (List.mem_filter.1 hx).1) ?_ this p (List.mem_filter.2 ⟨hp,qxu _⟩)) hq
  have:=List.length_filter_le (fun x:Pc=>lk x.1 p.1) l
  unfold ck;omega
def ql(s:Bs):Option dt:=match nd e8 s with|none=>none|some m=>if(e7 [] m.2.2 []).1=true then some (m.1,(m.2.1,(e7 [] m.2.2 []).2)) else none
def q9i{f:Bs->Bs->Option Pc}{s:Bs}{m:Bs×Bs×List Pc}(h:nd f s=some m):∃c,db f (s.length+1) [] c=some m.2.2/\c.length+m.1.length+m.2.1.length<=s.length:=by
 have l1:=yp tk s;have l2:=qcp 47 (bt tk s).2;have l3:=yp tk (c7 47 (bt tk s).2).2;unfold nd at h;simp only at h;split at h
 ·cases h
 ·cases hp:db f (s.length+1) [] (bt tk (c7 47 (bt tk s).2).2).2 with
  |none=>rw[hp]at h;cases h
  |some l=>
   rw[hp]at h;cases h;exact⟨_,hp,by simp only;omega⟩
def q9j{s:Bs}{m:Bs×Bs×List Pc}(h:nd e8 s=some m):cu m.2.2<=s.length/\∀p∈m.2.2,nb p:=by
 obtain⟨c,h1,h2⟩:=q9i h;obtain⟨g1,g2⟩:=znf _ _ _ _ h1;exact⟨by simp[cu]at g1 ⊢;omega,g2 (by simp)⟩
def zmr(l:List Pc)(hz:cu l<=300000):∀(aa ab:List Pc)(out:List cd),l=ab++aa->out.length<=ab.length->(∀x∈out,x.1.length<=4000000/\x.2.length<=4000000)->jg (e7 ab aa out).2:=by
 have hll:=mc l;intro aa
 induction aa with
 |nil=>intro ab out hl ho hs;rw[hl]at hll;simp at hll;exact⟨by rw[e7];simp only;rw[hl]at hz;simp at hz;omega,hs⟩|cons p aa ih=>
  intro ab out hl ho hs;rw[e7];have hpl:=qcr (show p∈l by rw[hl];simp)
  split
  ·exact ih (ab++[p]) out (by rw[hl];simp) (by simp;omega) hs
  ·rw[← hl]
   cases hj:qh (ck p.1 l) with
   |none=>exact⟨by simp,by simp⟩|some v=>
    refine ih (ab++[p]) _ (by rw[hl];simp) (by simp;omega) (fun x hx => ?_)
    rcases List.mem_append.1 hx with g|g
    ·exact hs x g
    ·rw[List.mem_singleton.1 g];refine⟨by simp only;omega,?_⟩
     simp only;have hzf:=qzl (fun x=>lk x.1 p.1) l
     have hN:ck p.1 l=l.filter fun x=>lk x.1 p.1:=rfl
     rw[hN]at hj;generalize l.filter (fun x=>lk x.1 p.1)=A at hj hzf
     cases A with
     |nil=>cases hj
     |cons a A=>
      rw[qnm]at hj;split at hj
      ·split at hj
       ·cases hj
        have:=qcr (qH (a:=a) (l:=A));omega
       ·cases hj
      ·cases hL:kq (gl (a::A)) 0 [] with
       |none=>rw[hL]at hj;cases hj
       |some w=>
        rw[hL]at hj;cases hj;have:=zrt w.length false w;have hw:w.length<=cu (gl (a::A)):=by
         have hnum:=qxy _ _ _ _ hL;rw[qxz _ _ _ hnum]at hL;cases hL
         generalize gl (a::A)=q;clear hnum
         induction q with
         |nil=>simp|cons y q ih2=>
          have:=qia y;simp only[List.nil_append]at ih2 ⊢;rw[List.flatMap_cons,qM,yn];omega
        have hq:cu (gl (a::A))<=cu (a::A):=by
         unfold gl
         cases ht:o8 (a::A) with
         |none=>simp[cu]|some q=>
          have h1:=(zbe q).1.map (·.1);simp only;rw[qzm h1]
          have e:q.map (·.1)=a::A:=by
           clear h1 hL hzf hw this;generalize a::A=B at ht
           induction B generalizing q with
           |nil=>cases ht;rfl
           |cons b B ih3=>
            rw[o8]at ht;split at ht
            ·cases hB:o8 B with
             |none=>rw[hB]at ht;cases ht
             |some r=>rw[hB]at ht;cases ht;simp[ih3 r hB]
            ·cases ht
          rw[e];exact wF _
        show(vu [239,191,189] w.length false w).length<=4000000;omega
def qnt{s:Bs}{m:dt}(h:ql s=some m)(hs:s.length<=300000:=by omega):ru m:=by
 unfold ql at h
 cases hp:nd e8 s with
 |none=>rw[hp]at h;cases h
 |some x=>
  rw[hp]at h;simp only at h;split at h
  ·cases h
   obtain⟨c,_,h2⟩:=q9i hp;obtain⟨h3,_⟩:=q9j hp;exact⟨by simp only;omega,by simp only;omega,zmr x.2.2 (by omega) x.2.2 [] [] rfl (by simp) (by simp)⟩
  ·cases h
def q8p(fu:Nat)(hfu:90000000<=fu)(s:Bs)(h:s.length<=300000:=by omega):zh fu s=some (match ql s with|some m=>(m,true)|none=>bad):=by
 rw[zo6 fu hfu s h];unfold ql;have hR:=fun c=>znd (s.length+1) [] c (by simp)
 unfold nd;simp only;by_cases hc:(bt tk s).1=[]\/(c7 47 (bt tk s).2).1=false\/(bt tk (c7 47 (bt tk s).2).2).1=[]
 ·rw[qX hc,qX hc]
 ·rw[qW hc,qW hc];obtain⟨r1,r2,r3⟩:=hR (bt tk (c7 47 (bt tk s).2).2).2
  cases hp:db e8 (s.length+1) [] (bt tk (c7 47 (bt tk s).2).2).2 with
  |none=>rw[r3 hp];rfl|some l=>
   simp only[wQ];have hsz:cu l<=s.length/\∀p∈l,nb p:=q9j (s:=s) (m:=((bt tk s).1,(bt tk (c7 47 (bt tk s).2).2).1,l)) (by unfold nd;simp only;rw[qW hc,hp];rfl)
   have hll:=mc l;by_cases hall:∀p∈l,jc p
   ·rw[r1 l hp hall];simp only[wQ];have:=zo1 fu hfu l (by omega) hsz.2 [] [] (bt tk s).1 (bt tk (c7 47 (bt tk s).2).2).1 fu [] l [] rfl (by omega) (by simp)
    rw[show(([]:List Pc).length:Int)=0 from rfl]at this
    rw[this];cases (e7 [] l []).1<;>rfl
   ·have hb:∃p∈l,¬jc p:=by
     apply Classical.byContradiction;intro hq;exact hall (fun p hp2=>Classical.byContradiction fun hq2=>hq ⟨p,hp2,hq2⟩)
    rw[r2 l hp hb,zmq l hsz.2 (by omega) hb];rfl
def gu(s:Bs):Option dt:=if 4000<s.length then none else match ql s with|none=>none|some m=>if(fe m).1≠0 then none else some m
def q8e(fu:Nat)(hfu:90000000<=fu)(s:Bs)(h:s.length<=4000000):∃R,qai fu s=some R/\match gu s with
  |some m=>R = .inr (m.1,(m.2.1,(0,(0,m.2.2))))|none=>∃f:Int×Int,R = .inl ([],([],f))/\f.1≠0:=by
 unfold qai gu;by_cases h4:4000<s.length
 ·rw[ag,qX h4];exact⟨_,rfl,_,rfl,by decide⟩
 rw[ap,qW h4]
 obtain⟨R,g1,g2⟩:=zlt fu hfu (fun l=>e7 [] l []) (fun l hl hn=>zmn fu hfu l hl hn) s
 rw[g1,qB];have hfail:xj R->∃R',(bq R (fun a3=>bif !a3.2.2 then(ch (11:Int) (-5:Int)).bind fun x5=>some (.inl (([]:Bs),(([]:Bs),x5))) else(rr fu (a3.1,(a3.2.1,[]))).bind fun x6=>(e9 x6).bind fun x7=>bif x7 then(ch x6.1 (-6:Int)).bind fun x8=>some (.inl (([]:Bs),(([]:Bs),x8))) else(ee).bind fun x9=>some (.inl (a3.1,(a3.2.1,x9)))) (fun b4=>bif !b4.2.2.1 then(ch (11:Int) (-5:Int)).bind fun x10=>some (.inl (([]:Bs),(([]:Bs),x10))) else(rr fu (b4.1,(b4.2.1,b4.2.2.2))).bind fun x11=>(e9 x11).bind fun x12=>bif x12 then(ch x11.1 (-6:Int)).bind fun qz=>some (.inl (([]:Bs),(([]:Bs),qz))) else(ee).bind fun x14=>some (.inr (b4.1,(b4.2.1,(x14.1,(x14.2,b4.2.2.2)))))):Option q4q)=some R'/\∃f:Int×Int,R' = .inl ([],([],f))/\f.1≠0:=by
  intro hf
  cases R with|inl x=>unfold xj at hf;simp only at hf;simp only[bq,hf];exact⟨_,rfl,_,rfl,by decide⟩|inr x=>unfold xj at hf;simp only at hf;simp only[bq,hf];exact⟨_,rfl,_,rfl,by decide⟩
 unfold ql
 cases hp:nd e8 s with
 |none=>rw[hp]at g2;exact hfail g2|some m=>
  rw[hp]at g2;simp only at g2 ⊢;by_cases ht:(e7 [] m.2.2 []).1=true
  ·rw[qX ht]at g2;subst g2;have hsz:=qnt (s:=s) (m:=(m.1,(m.2.1,(e7 [] m.2.2 []).2))) (by unfold ql;rw[hp];simp only;rw[qX ht]) (by omega)
   simp only[bq,qX ht];rw[cf,qx3 fu hfu _ hsz,qB,qd,qB,fj];by_cases h0:(fe (m.1,(m.2.1,(e7 [] m.2.2 []).2))).1≠0
   ·rw[qX h0,qX h0];exact⟨_,rfl,_,rfl,h0⟩
   ·rw[qW h0,qW h0];exact⟨_,rfl,rfl⟩
  ·rw[qW ht]at g2 ⊢;exact hfail g2
def qyq{s:Bs}{m:dt}(h:gu s=some m):ru m/\(fe m).1=0:=by
 unfold gu at h;split at h
 ·cases h
 ·rename_i h4
  cases hm:ql s with
  |none=>rw[hm]at h;cases h
  |some x=>
   rw[hm]at h;simp only at h;split at h
   ·cases h
   ·rename_i h0;cases h
    exact⟨qnt hm,Classical.byContradiction h0⟩
open Go.Lib (decDigits itoa validD)
def dgH(c:UInt8):UInt8:=(nq (pa c (min (4:Int).toNat 8))).getD 0
def dgL(c:UInt8):UInt8:=(nq c).getD 0
def ziv:∀n:_root_.Fin 256,nq (pa (UInt8.ofNat n.val) (min (4:Int).toNat 8))=some (dgH (UInt8.ofNat n.val))/\nq (UInt8.ofNat n.val)=some (dgL (UInt8.ofNat n.val)):=by decide +kernel
def two(c:UInt8):Bs:=[dgH c,dgL c]
def zb5(c:UInt8):(two c).length=2:=rfl
def ziw(c:UInt8):nq (pa c (min (4:Int).toNat 8))=some (dgH c)/\nq c=some (dgL c)/\[dgH c,dgL c]=two c:=
 have h:=si (fun c=>nq (pa c (min (4:Int).toNat 8))=some (dgH c)/\nq c=some (dgL c)) ziv c
 ⟨h.1,h.2,rfl⟩
def zq5:∀n:_root_.Fin 256,qeg (UInt8.ofNat n.val)=some (two (UInt8.ofNat n.val)):=by decide +kernel
def zq6(c:UInt8):qeg c=some (two c):=si (fun c=>qeg c=some (two c)) zq5 c
def ik(c:UInt8):Bs:=if tk c=true then[c] else 37::two c
def qzv(c:UInt8):1<=(ik c).length/\(ik c).length<=3:=by
 unfold ik;split
 ·simp
 ·rw[qL,zb5];omega
def fo(cur:Bs):Bs->List Bs|[]=>[cur]|c::t=>if cur.length+(ik c).length<=60 then fo (cur++ik c) t else cur::fo (ik c) t
def qn3:∀(t cur:Bs),(fo cur t).length<=t.length+1/\1<=(fo cur t).length
 |[],_=>by simp[fo]|c::t,cur=>by
  rw[fo];split
  ·have:=qn3 t (cur++ik c);simp only[qL];omega
  ·have:=qn3 t (ik c);simp only[qL];omega
def qn4:∀(t cur:Bs),cur.length<=60->∀x∈fo cur t,x.length<=60
 |[],cur,h,x,hx=>by rw[fo,List.mem_singleton]at hx;rw[hx];exact h|c::t,cur,h,x,hx=>by
  have hu:=qzv c;rw[fo]at hx;split at hx
  ·exact qn4 t _ (by rw[qM];omega) x hx
  ·rcases List.mem_cons.1 hx with e|e
   ·rw[e];exact h
   ·exact qn4 t _ (by omega) x e
def kw(nm:Bs):Nat->List Bs->Bs|_,[]=>[]|n,p::ps=>(((((([59,32]:Bs)++nm)++([42]:Bs))++decDigits n)++([42,61]:Bs))++p)++kw nm (n+1) ps
def q83(nm:Bs)(hn:nm.length<=1000):∀(ps:List Bs)(n:Nat),n+ps.length<=100000000->(∀x∈ps,x.length<=60)->(kw nm n ps).length<=ps.length*1200
 |[],_,_,_=>by simp[kw]|p::ps,n,h,hs=>by
  simp only[qL]at h;have h1:=q83 nm hn ps (n+1) (by omega) (fun x hx=>hs x (qE _ hx))
  have h2:=hs p qH;have h3:=qgy 9 n (by omega) (by omega)
  rw[kw];simp only[qM,qL,qZ];omega
def zm2(fu n:Nat):∀(ab aa cur:Bs)(done:List Bs),aa.length<n->ab.length+aa.length<1000000->done.length<=ab.length->cur.length<=60 ->
  qap fu n (ab++aa) ((ab.length+aa.length:Nat):Int) (ab.length:Int) (done++[cur])=some (done++fo cur aa):=by
 have hrm:=lb
 induction n with
 |zero=>intro ab aa cur done h;omega|succ n ih=>
  intro ab aa cur done h hb hd hc;rw[qap,qs0]
  cases aa with
  |nil=>rw[ap];rfl|cons c t=>
   simp only[qL]at h hb;have hu:=qzv c;have e:(ab.length+(c::t).length:Nat)=ab.length+1+t.length:=by simp only[qL];omega
   have p1:qfo fu (qap fu n) (ab++c::t) (ik c) ((ab.length+(c::t).length:Nat):Int) (ab.length:Int) (done++[cur])=some (done++fo cur (c::t)):=by
    have hl:(((done++[cur]).length:Nat):Int)-1=(done.length:Int):=by simp
    rw[qfo,hl,d8,ag,qb3,qB,ni _ _,fo,aw _,e]
    have st:=fun cur' done'(h1:done'.length<=ab.length+1)(h2:cur'.length<=60)=>ih (ab++[c]) t cur' done' (by omega) (by simp;omega) (by simpa using h1) h2
    simp only[qM,qL,qZ,qS,wM,wO]at st;by_cases h60:cur.length+(ik c).length<=60
    ·rw[ag,qX h60,ag,qB,ag (by simp only[aq];omega),ag,qB,qzd]
     exact st (cur++ik c) done (by omega) (by rw[qM];omega)
    ·rw[ap,qW h60,ag (by simp only[qM,qL,qZ];omega)]
     have:=st (ik c) (done++[cur]) (by simp;omega) (by omega)
     refine this.trans ?_;simp
   rw[ag (by simp only[qL];omega),aw _,ag (by rw[cw];omega),bm,qB,qib,qB,qh4]
   rw[ik]at p1;obtain⟨d1,d2,d3⟩:=ziw c;cases hk:tk c
   ·rw[dh,qB,d1,qB,qB,d2,qB];rw[hk,qW (by simp),← d3]at p1
    exact p1
   ·rw[cf];rw[hk,qX rfl]at p1;exact p1
def o5:Bs:=[117,116,102,56,39,39]
def zlu(fu:Nat)(hfu:90000000<=fu)(v:Bs)(h:v.length<=500000:=by omega):qki fu v=some (fo o5 v):=by
 have:=zm2 fu fu [] v o5 [] (by omega) (by simp;omega) (by simp) (by decide)
 simpa [qki,o5] using this
def fp(c:UInt8):Bool:=decide (32<=c)&&decide (c<=126)
def znc(c:UInt8):qfh c=some (fp c):=by unfold qfh fp;by_cases h:(32:UInt8)<=c<;>simp[h]
def zgp(fu:Nat)(s:Bs)(h:s.length<fu:=by omega)(hb:s.length<9223372036854775807:=by omega):qjz fu s=some (s.all fp):=by
 have e:∀n,qe4 fu n=w8 qfh n:=by
  intro n;induction n with|zero=>rfl|succ n ih=>rw[qe4,ih];funext a b c;rfl
 unfold qjz;rw[e];exact qvt _ _ znc _ _ h hb
def quo(s:Bs):Bs:=dz 92 34 [92,92] [92,34] s
def qyx(s:Bs):(quo s).length<=2*s.length:=by
 unfold quo;rw[qmw (by decide)]
 have h1:=List.count_le_length (a:=(92:UInt8)) (l:=s);unfold io;have:List.count 92 s+List.count 34 s<=s.length:=by
  induction s with
  |nil=>simp|cons c s ih=>
   have h1:=List.count_le_length (a:=(92:UInt8)) (l:=s);have:=ih h1;simp only[List.count_cons,qL];by_cases e:c=92
   ·subst e;simp;omega
   ·have:(c==92)=false:=by simpa using e
    rw[this];simp only[wJ,if_false];split<;>omega
 omega
def kz(p:cd):Bs:=if ej p.2=true then((([59,32]:Bs)++p.1)++([61]:Bs))++p.2
 else if p.2.length<=60/\p.2.all fp=true then((((([59,32]:Bs)++p.1)++([61,34]:Bs))++quo p.2)++([34]:Bs))
 else kw p.1 0 (fo o5 p.2)
def zml(fu n:Nat)(z:cd)(hz:z.1.length<=1000):∀(ab aa:List Bs)(out:Bs),aa.length<n->ab.length+aa.length<1000000->out.length<=ab.length*1200->(∀x∈aa,x.length<=60) ->
  qfi fu n out ((ab.length+aa.length:Nat):Int) (ab.length:Int) z (ab++aa)=some (out++kw z.1 ab.length aa):=by
 induction n with
 |zero=>intro ab aa out h;omega|succ n ih=>
  intro ab aa out h hb ho hs;rw[qfi,qst]
  cases aa with
  |nil=>rw[ap];simp[kw]|cons p t=>
   simp only[qL]at h hb;have hp:=hs p qH;have hd:=qgy 9 ab.length (by omega) (by omega)
   rw[ag (by simp only[qL];omega),ag,qb3,qB,ag (by simp[aq];omega),ag (by simp[aq];omega)]
   have hi:wq (ab.length:Int)=some (decDigits ab.length):=by unfold wq;rw[ag,qxl]
   rw[hi,qB,ag (by simp[aq];omega),ag (by simp[aq];omega),ag (by simp[aq];omega),ag (by simp[aq];omega),aw _]
   have st:=ih (ab++[p]) t (out++((((((([59,32]:Bs)++z.1)++([42]:Bs))++decDigits ab.length)++([42,61]:Bs))++p))) (by omega) (by simp;omega) (by simp only[qM,qL,qZ];omega) (fun x hx=>hs x (qE _ hx))
   simp only[qM,qL,qZ,wO]at st;rw[show(ab.length+(p::t).length:Nat)=ab.length+1+t.length by simp only[qL];omega]
   rw[show(ab++[p])++t=ab++p::t by simp]at st
   refine st.trans ?_;rw[kw,qS]
def zmm(fu:Nat)(hfu:90000000<=fu)(p:cd)(h1:p.1.length<=1000)(h2:p.2.length<=100000):qkf fu p=some (kz p):=by
 unfold qkf kz;rw[qos fu _,qB]
 cases ht:ej p.2
 ·rw[ay rfl,qW (by simp)]
  have hno:qal fu false p=some (kw p.1 0 (fo o5 p.2)):=by
   rw[qal,ay rfl,qsu,zlu fu hfu _,qB]
   have hl:=qn3 p.2 o5;have:=zml fu fu p h1 [] (fo o5 p.2) [] (by omega) (by simp;omega) (by simp) (qn4 _ _ (by decide))
   simpa using this
  by_cases h60:p.2.length<=60
  ·rw[ag,zgp fu _,qB]
   cases ha:p.2.all fp
   ·rw[hno,qW (by simp)]
   ·rw[qX ⟨h60,rfl⟩,qal,au rfl,ag (by simp[aq];omega),ag (by simp[aq];omega)]
    have hq:=qyx p.2;rw[show qt1 ([([92]:Bs),([92,92]:Bs),([34]:Bs),([92,34]:Bs)]:List Bs)=some (0,0,0,[[92],[92,92],[34],[92,34]]) by rfl,qB]
    have hr:t7 p.2 0 0 0 [[92],[92,92],[34],[92,34]]=some (quo p.2):=by
     unfold t7 quo;simp only;rw[ag (by refine⟨?_,?_,by decide,by omega⟩<;>first|rfl|trivial)]
    rw[hr,qB,ag (by simp[aq];omega),ag (by simp[aq];omega)]
  ·rw[ap,hno,qW (by omega)]
 ·rw[au rfl,qX rfl,ag (by simp[aq];omega),ag (by simp[aq];omega),ag (by simp[aq];omega)]
def q9s(p:cd)(h1:p.1.length<=1000)(h2:p.2.length<=100000):(kz p).length<=200000000:=by
 have hq:=qyx p.2;have hl:=qn3 p.2 o5;have hn:=q83 p.1 h1 (fo o5 p.2) 0 (by omega) (qn4 _ _ (by decide))
 unfold kz;split
 ·simp;omega
 ·split
  ·simp;omega
  ·omega
def mw(m:dt):Bs:=((m.1++([47]:Bs))++m.2.1)++m.2.2.flatMap kz
def SmV(m:dt):Prop:=m.1.length<=1000/\m.2.1.length<=1000/\m.2.2.length<=1000/\∀p∈m.2.2,p.1.length<=1000/\p.2.length<=100000
def zby{s:Bs}(h:ej s=true):s.length<=60:=by unfold ej at h;simp at h;exact h.1.2
def q9h:∀(l ab:List cd),(qn ab l).1=0->∀p∈l,ej p.1=true/\p.1.length<=20/\p.2.length<=500/\validD p.2=true
 |[],_,_,p,hp=>by cases hp
 |q::l,ab,h,p,hp=>by
  rw[qn]at h;split at h
  ·cases h
  ·split at h
   ·cases h
   ·split at h
    ·cases h
    ·split at h
     ·cases h
     ·rename_i g1 g2 g3 g4;rcases List.mem_cons.1 hp with e|e
      ·subst e;refine⟨?_,by omega,by omega,?_⟩
       ·cases hh:ej p.1
        ·exact absurd (.inl hh) g1
        ·rfl
       ·cases hh:validD p.2
        ·exact absurd hh g4
        ·rfl
      ·exact q9h l _ h p e
def zll{m:dt}(h:(fe m).1=0):ej m.1=true/\ej m.2.1=true/\m.2.2.length<=60/\∀p∈m.2.2,ej p.1=true/\p.1.length<=20/\p.2.length<=500/\validD p.2=true:=by
 unfold fe at h;split at h
 ·cases h
 ·split at h
  ·cases h
  ·rename_i g1 g2;refine⟨?_,?_,by omega,q9h _ _ h⟩
   ·cases hh:ej m.1
    ·exact absurd (.inl hh) g1
    ·rfl
   ·cases hh:ej m.2.1
    ·exact absurd (.inr hh) g1
    ·rfl
def qhk{m:dt}(h:(fe m).1=0):SmV m:=by
 obtain⟨h1,h2,h3,h4⟩:=zll h;have:=zby h1;have:=zby h2;exact⟨by omega,by omega,by omega,fun p hp=>by have:=h4 p hp;omega⟩
def SmV.smD{m:dt}(h:SmV m):ru m:=⟨by have:=h.1;omega,by have:=h.2.1;omega,by have:=h.2.2.1;omega,fun x hx=>by have:=h.2.2.2 x hx;omega⟩
def znb(fu n:Nat)(hfu:90000000<=fu)(z:Int×Int):∀(ab aa:List cd)(out:Bs),aa.length<n->ab.length+aa.length<=1000->(∀p∈aa,p.1.length<=1000/\p.2.length<=100000)->out.length<=3000+ab.length*200000000 ->
  qfe fu n out (ab++aa) ((ab.length+aa.length:Nat):Int) (ab.length:Int) z=some (if 4000<(out++aa.flatMap kz).length then([],(1,-4)) else(out++aa.flatMap kz,(0,0))):=by
 induction n with
 |zero=>intro ab aa out h;omega|succ n ih=>
  intro ab aa out h hb hs ho;rw[qfe,qso]
  cases aa with
  |nil=>
   rw[ap]
   simp only[List.flatMap_nil,List.append_nil];by_cases h4:4000<out.length
   ·rw[ag,qX h4,oz];rfl
   ·rw[ap,qW h4,zlq];rfl
  |cons p t=>
   simp only[qL]at h hb;have hp:=hs p qH;have hpl:=q9s p hp.1 hp.2;rw[ag (by simp only[qL];omega),bm,qB,zmm fu hfu p hp.1 hp.2,qB,ag (by simp only[aq];omega),aw _]
   have st:=ih (ab++[p]) t (out++kz p) (by omega) (by simp;omega) (fun x hx=>hs x (qE _ hx)) (by simp;omega)
   simp only[qM,qL,qZ,wO]at st;rw[show(ab++[p])++t=ab++p::t by simp]at st
   rw[show(ab.length+(p::t).length:Nat)=ab.length+1+t.length by simp only[qL];omega]
   refine st.trans ?_;simp only[List.flatMap_cons,qS,qM,Nat.add_assoc]
def zna(fu:Nat)(hfu:90000000<=fu)(m:dt)(hs:ru m):qke fu m=some (if(fe m).1≠0 then([],fe m) else if 4000<(mw m).length then([],(1,-4)) else(mw m,(0,0))):=by
 unfold qke;rw[qx3 fu hfu m hs,qB,qd,qB,fj];by_cases h:(fe m).1≠0
 ·rw[qX h,qX h]
 ·rw[qW h,qW h];obtain⟨g1,g2,g3,g4⟩:=qhk (m:=m) (by omega)
  rw[ag (by simp[aq];omega),ag (by simp[aq];omega)]
  have:=znb fu fu hfu (0,0) [] m.2.2 ((m.1++([47]:Bs))++m.2.1) (by omega) (by simp;omega) g4 (by simp;omega)
  simpa [mw] using this
def znp(fu n:Nat):∀(ab aa out:Bs),aa.length<n->ab.length+aa.length<1000000->out.length<=1+2*ab.length ->
  vx fu n (ab++aa) out (ab.length:Int)=some ((out++quo aa)++[34]):=by
 induction n with
 |zero=>intro ab aa out h;omega|succ n ih=>
  intro ab aa out h hb ho;rw[vx,qqn]
  cases aa with
  |nil=>rw[ap,ag (by simp[aq];omega)];simp[quo,dz]|cons c t=>
   simp only[qL]at h hb;have st:=fun o(ho:List.length o<=1+2*(ab.length+1))=>ih (ab++[c]) t o (by omega) (by simp;omega) (by simpa using ho)
   simp only[qM,qL,qZ,qS,wM,wO]at st;have y:vy fu (vx fu n) (ab++c::t) out (ab.length:Int) true=some ((out++([92,c]++quo t))++[34]):=by
    rw[vy,au rfl,ag (by simp[aq];omega),aw _,ag (by rw[cw];omega),qh4,ag (by simp[aq];omega)]
    refine(st (out++[92]++[c]) (by simp;omega)).trans ?_
    simp
   have nn:vy fu (vx fu n) (ab++c::t) out (ab.length:Int) false=some ((out++([c]++quo t))++[34]):=by
    rw[vy,ay rfl,aw _,ag (by rw[cw];omega),qh4,ag (by simp[aq];omega)]
    refine(st (out++[c]) (by simp;omega)).trans ?_
    simp
   have hq:quo (c::t)=oc 92 34 [92,92] [92,34] c++quo t:=by unfold quo dz;rw[List.flatMap_cons]
   rw[ag (by rw[cw];omega),bm,qB,kh,hq]
   unfold oc;by_cases h1:c=34
   ·subst h1;rw[qX rfl,y];rfl
   ·rw[qW h1,qB];by_cases h2:c=92
    ·subst h2;rw[show((92:UInt8)==92)=true from rfl,y];rfl
    ·rw[show(c==92)=false by simpa using h2,nn,qW h2,qW h1]
def zo5(fu:Nat)(hfu:90000000<=fu)(s:Bs)(h:s.length<=100000):qjj fu s=some (([34]++quo s)++[34]):=by
 have:=znp fu fu [] s [34] (by omega) (by simp;omega) (by simp)
 simpa [qjj] using this
def zo3(fu n:Nat)(hfu:90000000<=fu)(z:cd)(hz:z.1.length<=1000):∀(ab aa cur out:Bs)(k:Nat),z.2=ab++aa->aa.length<n->z.2.length<=100000->k<=ab.length->cur.length<=60->out.length<=k*1200 ->
  zp fu n out cur (k:Int) (ab.length:Int) z=some (out++kw z.1 k (fo cur aa)):=by
 induction n with
 |zero=>intro ab aa cur out k _ h;omega|succ n ih=>
  intro ab aa cur out k hzz h hb hk hc ho;have ac:z.2.length=ab.length+aa.length:=by rw[hzz];simp
  have hd:=qgy 9 k (by omega) (by omega)
  rw[zp,qqm]
  cases aa with
  |nil=>
   rw[ap (by simp only[qZ]at ac;omega),ag (by simp[aq];omega),ag (by simp[aq];omega),ag (by simp[aq];omega),qyc fu (by omega) k,qB,ag (by simp[aq];omega),ag (by simp[aq];omega),ag (by simp[aq];omega)]
   rw[fo,kw,kw];simp
  |cons c t=>
   simp only[qL]at h ac;have hu:=qzv c;have hx:am z.2 (ab.length:Int)=some c:=by rw[hzz];exact bm ab c t
   have st:=fun cur' out' k'(h1:k'<=ab.length+1)(h2:List.length cur'<=60)(h3:List.length out'<=k'*1200)=>ih (ab++[c]) t cur' out' k' (by rw[hzz];simp) (by omega) hb (by simpa using h1) h2 h3
   simp only[qM,qL,qZ,wO]at st;have p3:qd6 fu (zp fu n) out cur (k:Int) (ab.length:Int) (ik c) z=some (out++kw z.1 k (fo cur (c::t))):=by
    rw[qd6,ni _ _,fo]
    by_cases h60:cur.length+(ik c).length<=60
    ·rw[ap,qX h60,qd7,ag (by simp only[aq];omega),qji,aw _]
     exact st (cur++ik c) out k (by omega) (by rw[qM];omega) ho
    ·rw[ag,qW h60,ag (by simp[aq];omega),ag (by simp[aq];omega),ag (by simp[aq];omega),qyc fu (by omega) k,qB,ag (by simp[aq];omega),ag (by simp[aq];omega),ag (by simp[aq];omega),qd7,ag (by simp[aq];omega),qji,aw _,aw _,List.nil_append]
     refine(st (ik c) _ (k+1) (by omega) (by omega) (by simp only[qM,qL,qZ];omega)).trans ?_
     rw[kw];simp
   rw[ag,hx,qB,zq6,qB,ag (by rw[zb5];simp[aq]),qB,qy8 fu (by omega),qB]
   rw[ik]at p3;cases hk2:tk c
   ·rw[ay rfl];rw[hk2,qW (by simp)]at p3
    exact p3
   ·rw[au rfl,aw _,ag]
    rw[hk2,qX rfl]at p3;have e:List.take (((ab.length+1:Nat):Int).toNat-((ab.length:Nat):Int).toNat) (List.drop ((ab.length:Nat):Int).toNat z.2)=[c]:=by rw[hzz];exact qh4 ab c t
    rw[e];exact p3
def zo2(fu n:Nat)(hfu:90000000<=fu)(z:cd)(hz:z.1.length<=1000)(hb:z.2.length<=100000)(ht:ej z.2=false):∀(ab aa:Bs)(f:Bool),z.2=ab++aa->aa.length<n->f=(decide (z.2.length<=60)&&ab.all fp) ->
  qd4 fu n f (ab.length:Int) z=some (kz z):=by
 induction n with
 |zero=>intro ab aa f _ h;omega|succ n ih=>
  intro ab aa f hzz h hf;have ac:z.2.length=ab.length+aa.length:=by rw[hzz];simp
  rw[qd4,qql]
  cases aa with
  |nil=>
   rw[List.append_nil]at hzz;rw[ap (by simp only[qZ]at ac;omega),hf]
   unfold kz;rw[ht,qW (by simp),← hzz]
   cases hc:(decide (z.2.length<=60)&&z.2.all fp)
   ·rw[ay rfl,qW (by intro q;rw[q.2,decide_eq_true q.1]at hc;cases hc)]
    have:=zo3 fu fu hfu z hz [] z.2 o5 [] 0 rfl (by omega) hb (by simp) (by decide) (by simp)
    simpa [o5] using this
   ·rw[qA,decide_eq_true_eq]at hc;have hq:=qyx z.2;rw[au rfl,qX hc,ag (by simp[aq];omega),ag (by simp[aq];omega),zo5 fu hfu _ hb,qB,ag (by simp[aq];omega)]
    simp
  |cons c t=>
   simp only[qL]at h ac;have hx:am z.2 (ab.length:Int)=some c:=by rw[hzz];exact bm ab c t
   have st:=fun f'(hf':f'=(decide (z.2.length<=60)&&(ab++[c]).all fp))=>ih (ab++[c]) t f' (by rw[hzz];simp) (by omega) hf'
   simp only[qM,qL,qZ,wO]at st;have hp:(decide (32<=(c.toNat:Int)/\(c.toNat:Int)<=126))=fp c:=by
    unfold fp;rw[Bool.eq_iff_iff];simp only[decide_eq_true_eq,qA,UInt8.le_iff_toNat_le];show _↔32<=c.toNat/\c.toNat<=126;omega
   rw[ag]
   cases f
   ·rw[ay rfl,qd5,aw _]
    exact st false (by
     rw[List.all_append];cases h1:decide (z.2.length<=60)
     ·rfl
     ·rw[h1,Bool.true_and]at hf;rw[← hf];rfl)
   ·rw[au rfl,hx,qB,ma,hp,qB,qd5,aw _]
    exact st (fp c) (by
     rw[List.all_append,← Bool.and_assoc,← hf];simp)
def zo0(fu:Nat)(hfu:90000000<=fu)(p:cd)(h1:p.1.length<=1000)(h2:p.2.length<=100000):qjh fu p=some (kz p):=by
 unfold qjh;rw[qok fu (by omega) _,qB]
 cases ht:ej p.2
 ·rw[ay rfl];exact zo2 fu fu hfu p h1 h2 ht [] p.2 _ rfl (by omega) (by simp;omega)
 ·rw[au rfl,ag (by simp[aq];omega),ag (by simp[aq];omega),ag (by simp[aq];omega)]
  unfold kz;rw[qX ht]
def zoo(fu n:Nat)(hfu:90000000<=fu)(m:dt)(hs:SmV m):∀(ab aa:List cd)(out:Bs),m.2.2=ab++aa->aa.length<n->out.length<=3000+ab.length*200000000 ->
  qd2 fu n out (ab.length:Int) m=some (out++aa.flatMap kz):=by
 induction n with
 |zero=>intro ab aa out _ h;omega|succ n ih=>
  intro ab aa out hm h ho;have hl:=hs.2.2.1;have ac:m.2.2.length=ab.length+aa.length:=by rw[hm];simp
  rw[qd2,qqj]
  cases aa with
  |nil=>rw[ap (by simp only[qZ]at ac;omega)];simp|cons p t=>
   simp only[qL]at h ac;have hp:=hs.2.2.2 p (by rw[hm];simp)
   have hpl:=q9s p hp.1 hp.2;have hx:am m.2.2 (ab.length:Int)=some p:=by rw[hm];exact bm ab p t
   rw[ag,hx,qB,zo0 fu hfu p hp.1 hp.2,qB,ag (by simp only[aq];omega),aw _]
   have st:=ih (ab++[p]) t (out++kz p) (by rw[hm];simp) (by omega) (by simp;omega)
   simp only[qM,qL,qZ,wO]at st;refine st.trans ?_;rw[List.flatMap_cons,qS]
def zop(fu:Nat)(hfu:90000000<=fu)(m:dt)(hs:SmV m):qjf fu m=some (mw m):=by
 obtain⟨g1,g2,g3,g4⟩:=hs;unfold qjf;rw[ag (by simp[aq];omega),ag (by simp[aq];omega)]
 have:=zoo fu fu hfu m ⟨g1,g2,g3,g4⟩ [] m.2.2 ((m.1++([47]:Bs))++m.2.1) rfl (by omega) (by simp;omega)
 simpa [mw] using this
end Go.Sym
namespace Go.Sym
abbrev ci:Bs:=[67,111,110,116,101,110,116,45,84,121,112,101]
abbrev ctn:Bs:=[99,111,110,116,101,110,116,45,116,121,112,101]
abbrev mpN:Bs:=[109,117,108,116,105,112,97,114,116]
abbrev dy:Bs:=[98,111,117,110,100,97,114,121]
def zcd(l:List bj):cn l ctn=cn l ci:=rfl
def gm(l:List bj):Option dt:=match cn l ci with|[v]=>gu v|_=>none
def tyP(fu:Nat)(k:Int)(v:Bs):Option qlk:=(qai fu v).bind fun x4=>bq x4 (fun a5=>(e9 a5.2.2).bind fun x7=>some (.inl (a5.1,(a5.2.1,(k,!x7))))) (fun b6=>(e9 (b6.2.2.1,b6.2.2.2.1)).bind fun x8=>some (.inr (b6.1,(b6.2.1,(k,(!x8,b6.2.2.2.2))))))
def zq9(fu:Nat)(hfu:90000000<=fu)(k:Int)(v:Bs)(h:v.length<=4000000):tyP fu k v=some (match gu v with|some m => .inr (m.1,(m.2.1,(k,(true,m.2.2))))|none => .inl ([],([],(k,false)))):=by
 unfold tyP;obtain⟨R,h1,h2⟩:=q8e fu hfu v h;rw[h1,qB]
 cases hp:gu v with
 |none=>
  rw[hp]at h2;obtain⟨f,rfl,hf⟩:=h2;simp only[bq,qd,qB];have:(f.1 != 0)=true:=by simpa using hf
  rw[this];rfl
 |some m=>rw[hp]at h2;simp only at h2;subst h2;rfl
section typ
variable(fu:Nat)(hfu:90000000<=fu)(l:List bj)(hs:∀x∈l,x.1.length<=4000000/\x.2.length<=4000000)(hl:l.length<=4000000)
include hfu hs hl
def zrb(k:Nat)(y:bj)(hy:am l (k:Int)=some y)(n:Nat):∀(ab aa:List bj),l=ab++aa->aa.length<n ->
  t6 fu n l (k:Int) (ab++aa) ((ab.length+aa.length:Nat):Int) (ab.length:Int) [] []=if cn aa ci=[] then tyP fu (k:Int) y.2 else some (.inl ([],([],(0,false)))):=by
 induction n with
 |zero=>intro ab aa _ h;omega|succ n ih=>
  intro ab aa hp h;have ac:l.length=ab.length+aa.length:=by rw[hp];simp
  rw[t6,qko]
  cases aa with
  |nil=>rw[ap,ap,hy,qB,show cn [] ci=[] from rfl,qX rfl];rfl|cons x t=>
   simp only[qL]at h ac;have hx:=hs x (by rw[hp];simp)
   have st:=ih (ab++[x]) t (by rw[hp];simp) (by omega)
   simp only[qM,qL,qZ,qS,wM,wO]at st;rw[ag (by simp only[qL];omega),bm,qB,qr fu hfu _ _ hx.1 (by simp),qB,ve]
   cases hk:lk x.1 ci
   ·rw[ay rfl,qar,aw _,qW (show ¬((x.1.map lo==ci.map lo)=true) by show ¬lk x.1 ci=true;rw[hk];simp),show(ab.length+(x::t).length:Nat)=ab.length+1+t.length by simp only[qL];omega]
    exact st
   ·rw[au rfl,ag,qX (show(x.1.map lo==ci.map lo)=true from hk),qW (by simp)]
def zra(n:Nat):∀(ab aa:List bj),l=ab++aa->aa.length<n ->
  (cn aa ci=[]->t6 fu n l (-1) (ab++aa) ((ab.length+aa.length:Nat):Int) (ab.length:Int) [] []=some (.inl ([],([],(0,false))))) /\
  (∀u x w,aa=u++x::w->cn u ci=[]->lk x.1 ci=true->t6 fu n l (-1) (ab++aa) ((ab.length+aa.length:Nat):Int) (ab.length:Int) [] []=if cn w ci=[] then tyP fu ((ab.length+u.length:Nat):Int) x.2 else some (.inl ([],([],(0,false))))):=by
 induction n with
 |zero=>intro ab aa _ h;omega|succ n ih=>
  intro ab aa hp h;have ac:l.length=ab.length+aa.length:=by rw[hp];simp
  rw[t6,qko]
  cases aa with
  |nil=>exact⟨fun _=>by rw[ap,ag],fun u x w e=>by simp at e⟩
  |cons y t=>
   simp only[qL]at h ac;have hy:=hs y (by rw[hp];simp)
   obtain⟨s1,s2⟩:=ih (ab++[y]) t (by rw[hp];simp) (by omega)
   simp only[qM,qL,qZ,qS,wM,wO]at s1 s2;rw[ag (by simp only[qL];omega),bm,qB,qr fu hfu _ _ hy.1 (by simp),qB,ve,show(ab.length+(y::t).length:Nat)=ab.length+1+t.length by simp only[qL];omega]
   cases hk:lk y.1 ci
   ·rw[ay rfl,qar,aw _,qW (show ¬((y.1.map lo==ci.map lo)=true) by show ¬lk y.1 ci=true;rw[hk];simp)]
    refine⟨s1,fun u x w e hu hx => ?_⟩
    cases u with
    |nil=>rw[List.nil_append,List.cons.injEq]at e;rw[e.1,hx]at hk;cases hk
    |cons z u=>
     rw[wK,List.cons.injEq]at e;obtain⟨rfl,e⟩:=e;rw[ve,qW (show ¬((y.1.map lo==ci.map lo)=true) by show ¬lk y.1 ci=true;rw[hk];simp)]at hu
     have:=s2 u x w e hu hx;rw[show(ab.length+(y::u).length:Nat)=ab.length+1+u.length by simp only[qL];omega]
     exact this
   ·rw[au rfl,ap,qar,aw _,qX (show(y.1.map lo==ci.map lo)=true from hk)]
    refine⟨fun e=>by simp at e,fun u x w e hu hx => ?_⟩
    cases u with
    |nil=>
     rw[List.nil_append,List.cons.injEq]at e;obtain⟨rfl,rfl⟩:=e;have:=zrb fu hfu l hs hl ab.length y (by rw[hp];exact bm ab y t) n (ab++[y]) t (by rw[hp];simp) (by omega)
     simp only[qM,qL,qZ,qS,wM,wO]at this;exact this
    |cons z u=>
     rw[wK,List.cons.injEq]at e;obtain⟨rfl,e⟩:=e;rw[ve,qX (show(y.1.map lo==ci.map lo)=true from hk)]at hu
     simp at hu
def qzu:∃R,qaq fu l=some R/\match gm l with
  |some m=>∃ab x aa,l=ab++x::aa/\cn l ci=[x.2]/\lk x.1 ci=true/\cn ab ci=[]/\cn aa ci=[]/\R = .inr (m.1,(m.2.1,((ab.length:Int),(true,m.2.2))))|none=>∃k,R = .inl ([],([],(k,false))):=by
 obtain⟨h1,h2⟩:=zra fu hfu l hs hl fu [] l rfl (by omega)
 simp only[List.nil_append,qZ,wO]at h1 h2;unfold qaq;rw[show((0:Nat):Int)=0 from rfl]at h1 h2
 have hd:cn l ci=[]\/∃u x w,l=u++x::w/\cn u ci=[]/\lk x.1 ci=true:=by
  clear h1 h2 hs hl
  induction l with
  |nil=>exact .inl rfl|cons y t ih=>
   rw[ve];cases hk:lk y.1 ci
   ·rw[qW (show ¬((y.1.map lo==ci.map lo)=true) by show ¬lk y.1 ci=true;rw[hk];simp)]
    rcases ih with g|⟨u,x,w,e,g1,g2⟩
    ·exact .inl g
    ·exact .inr ⟨y::u,x,w,by rw[e];rfl,by rw[ve,qW (show ¬((y.1.map lo==ci.map lo)=true) by show ¬lk y.1 ci=true;rw[hk];simp)];exact g1,g2⟩
   ·exact .inr ⟨[],y,t,rfl,rfl,hk⟩
 have vapp:∀(u w:List bj)(x:bj),lk x.1 ci=true->cn (u++x::w) ci=cn u ci++x.2::cn w ci:=fun u w x hx=>by
  unfold cn;rw[List.filter_append,List.filter_cons,qX (show(x.1.map lo==ci.map lo)=true from hx),List.map_append];rfl
 rcases hd with g|⟨u,x,w,e,g1,g2⟩
 ·refine⟨_,h1 g,?_⟩;unfold gm;rw[g];exact⟨0,rfl⟩
 ·have hr:=h2 u x w e g1 g2;have hv:=vapp u w x g2;rw[← e,g1,List.nil_append]at hv;by_cases hw:cn w ci=[]
  ·rw[qX hw,zq9 fu hfu _ _ (hs x (by rw[e];simp)).2]at hr
   refine⟨_,hr,?_⟩;rw[hw]at hv;unfold gm;rw[hv];simp only
   cases hp:gu x.2 with|none=>exact⟨_,rfl⟩|some m=>exact⟨u,x,w,e,rfl,g2,g1,hw,rfl⟩
  ·rw[qW hw]at hr;refine⟨_,hr,?_⟩;unfold gm;rw[hv]
   cases hh:cn w ci with|nil=>exact absurd hh hw|cons=>exact⟨0,rfl⟩
end typ
def qou{l:List bj}{m:dt}(h:gm l=some m):(fe m).1=0:=by
 unfold gm at h;split at h
 ·exact(qyq h).2
 ·cases h
def qzt(fu:Nat)(hfu:90000000<=fu)(l:List bj)(hs:jw l):qab fu l=some (match gm l with|some m=>(m,true)|none=>(([],([],[])),false)):=by
 unfold qab;rw[qzw fu hfu l ctn (by simp) hs,qB,zcd,fj]
 unfold gm
 cases hv:cn l ci with
 |nil=>rw[qX (by simp)];rfl|cons v t=>
  cases t with
  |cons w t=>rw[qX (by simp only[qL];omega)];rfl|nil=>
   rw[qW (by simp),ag,show([v]:List Bs)[(0:Int).toNat]? = some v from rfl,qB,qjx]
   simp only;unfold gu;by_cases h4:4000<v.length
   ·rw[ag,qX h4]
   ·rw[ap,qW h4,qrn,ag,show([v]:List Bs)[(0:Int).toNat]? = some v from rfl,qB,q8p fu hfu v,qB]
    cases hm:ql v with
    |none=>rfl|some m=>
     simp only;rw[cf,zal fu hfu m (qnt hm),qB,fj]
     by_cases h0:(fe m).1≠0
     ·rw[qX h0,qX h0]
     ·rw[qW h0,qW h0]
def bOk(b:Bs):Bool := !b.isEmpty&&(decide (b.length<=60)&&(b.all fp && !(b.getLast? == some 32)))
def bnd(l:List bj):Option Bs:=match gm l with|some m=>if lk m.1 mpN=true/\(bp m.2.2 dy).2=true/\bOk (bp m.2.2 dy).1=true then some (bp m.2.2 dy).1 else none|none=>none
def q9g(l:List cd)(nm:Bs)(M:Nat)(h:∀x∈l,x.2.length<=M):(bp l nm).1.length<=M:=by
 induction l with
 |nil=>simp[bp,par]|cons p l ih=>
  rw[qyk];split
  ·exact h p qH
  ·exact ih (fun x hx=>h x (qE _ hx))
def zmw(c:UInt8):qfx c=some (fp c):=by unfold qfx fp;by_cases h:(32:UInt8)<=c<;>simp[h]
def zgq(fu:Nat)(s:Bs)(h:s.length<fu:=by omega)(hb:s.length<9223372036854775807:=by omega):qj0 fu s=some (s.all fp):=by
 have e:∀n,qe5 fu n=w8 qfx n:=by
  intro n;induction n with|zero=>rfl|succ n ih=>rw[qe5,ih];funext a b c;rfl
 unfold qj0;rw[e];exact qvt _ _ zmw _ _ h hb
def zj5(t:Bs)(hb:t.length<=4000000:=by omega):qk6 t [32]=some (t.getLast? == some 32):=by
 unfold qk6 qfc;rw[show(([32]:List UInt8).length:Int)=1 from rfl]
 rcases List.eq_nil_or_concat t with rfl|⟨u,c,rfl⟩
 ·rfl
 ·rw[List.concat_eq_append]at *;simp only[qM,qL,qZ]at hb;rw[ou,pc _,ag,ag,qB,List.getLast?_concat]
  have e:List.drop ((u.length:Nat):Int).toNat (u++[c])=[c]:=xg u [c];rw[e];congr 1;rw[Bool.eq_iff_iff];simp
def zhx(fu:Nat)(hfu:90000000<=fu)(l:List bj)(hs:∀x∈l,x.1.length<=4000000/\x.2.length<=4000000)(hl:l.length<=4000000):∃R,qkp fu l=some R/\match bnd l with
  |some b=>R=(b,true)|none=>R.2=false:=by
 obtain⟨R,h1,h2⟩:=qzu fu hfu l hs hl;unfold qkp bnd;rw[h1,qB]
 cases ht:gm l with
 |none=>
  rw[ht]at h2;obtain⟨k,rfl⟩:=h2;exact⟨_,rfl,rfl⟩
 |some m=>
  rw[ht]at h2;obtain⟨ab,x,aa,e1,e2,e3,e4,e5,rfl⟩:=h2;have h0:=qou ht;have hv:=qhk h0;simp only[bq];rw[cf,qr fu hfu _ _ (by have:=hv.1;omega) (by simp),qB]
  cases hk:lk m.1 mpN
  ·rw[wl,dh];exact⟨_,rfl,by simp⟩
  ·have hbl:=q9g m.2.2 dy 100000 (fun x hx=>(hv.2.2.2 x hx).2)
   rw[wl,cf,qs9,qx2 fu hfu (m.1,(m.2.1,m.2.2)) dy (by simp) hv.smD,qB,qW (by simpa using h0)]
   simp only;generalize hb:(bp m.2.2 dy).1=b at *;generalize hi:(bp m.2.2 dy).2=i at *;unfold bOk
   cases b with
   |nil=>rw[show(!(([]:Bs)==[]))=false from rfl,ay rfl];cases i<;>exact⟨_,rfl,by simp⟩
   |cons c b=>
    rw[show(!((c::b:Bs)==[]))=true from rfl,au rfl]
    by_cases h60:(c::b).length<=60
    ·rw[ag,zgq fu _,qB]
     cases ha:(c::b).all fp
     ·rw[ay rfl];cases i<;>exact⟨_,rfl,by simp[ha]⟩
     ·rw[au rfl,zj5 _,qB]
      cases i
      ·exact⟨_,rfl,by simp⟩
      ·rw[au rfl];refine⟨_,rfl,?_⟩;cases hg:((c::b).getLast? == some 32)
       ·rw[qX ⟨by first|rfl|trivial,by first|rfl|trivial,by simp only[List.isEmpty_cons,Bool.not_false,Bool.true_and,Bool.and_true];exact decide_eq_true h60⟩];rfl
       ·rw[qW (by simp)];rfl
    ·rw[ap]
     have hnot:¬(decide ((c::b).length<=60)=true):=by simpa using h60
     cases i
     ·exact⟨_,rfl,by simp⟩
     ·refine⟨_,rfl,?_⟩;rw[qW (by
       rintro⟨_,_,g⟩
       rw[qA,qA]at g;exact hnot g.2.1)]
def zgx(fu n:Nat)(i:Bool):∀(ab aa:Bs),aa.length<n->ab.length+aa.length<1000000 ->
  ∃R,qet fu n (ab++aa) i (ab.length:Int)=some R/\(if aa.all fp=true/\i=true/\(1<=(ab++aa).length/\(ab++aa).length<=60)/\(ab++aa).getLast? ≠ some 32 then R=(ab++aa,true) else R.2=false):=by
 induction n with
 |zero=>intro ab aa h;omega|succ n ih=>
  intro ab aa h hb;rw[qet,qq6]
  cases aa with
  |nil=>
   rw[ap,List.append_nil]
   cases i
   ·exact⟨_,rfl,by rw[qW (by simp)]⟩
   ·rw[au rfl,ma,qB];by_cases h60:1<=ab.length/\ab.length<=60
    ·rw[ag]
     rcases List.eq_nil_or_concat ab with rfl|⟨u,c,rfl⟩
     ·simp at h60
     ·rw[List.concat_eq_append]at *;simp only[qM,qL,qZ]at hb;rw[ou,pc _,qb7,qB]
      refine⟨_,rfl,?_⟩;rw[List.getLast?_concat];by_cases hc:c=32
      ·rw[qW (by simp[hc])];simp[hc]
      ·rw[qX ⟨rfl,rfl,h60,by simpa using hc⟩];simp[hc]
    ·rw[ap];exact⟨_,rfl,by rw[qW (fun g=>h60 g.2.2.1)]⟩
  |cons c t=>
   simp only[qL]at h hb;have hp:(decide (32<=(c.toNat:Int)/\(c.toNat:Int)<=126))=fp c:=by
    unfold fp;rw[Bool.eq_iff_iff];simp only[decide_eq_true_eq,qA,UInt8.le_iff_toNat_le];show _↔32<=c.toNat/\c.toNat<=126;omega
   rw[ag (by rw[cw];omega),bm,qB,ma,hp,qB,aw _]
   cases hc:fp c
   ·rw[dh];exact⟨_,rfl,by rw[qW (by simp[hc])]⟩
   ·rw[cf];obtain⟨R,g1,g2⟩:=ih (ab++[c]) t (by omega) (by simp;omega)
    rw[qM,wD,qS,wM]at g1;refine⟨R,g1,?_⟩;rw[qS,wM]at g2;rw[List.all_cons,hc,Bool.true_and];exact g2
def zgw(fu:Nat)(hfu:90000000<=fu)(l:List bj)(hs:jw l):∃R,qjp fu l=some R/\match bnd l with
  |some b=>R=(b,true)|none=>R.2=false:=by
 unfold qjp bnd;rw[qzt fu hfu l hs,qB]
 cases ht:gm l with
 |none=>exact⟨_,rfl,rfl⟩|some m=>
  have h0:=qou ht;have hv:=qhk h0;simp only;rw[cf,w7 fu hfu _ _ (by have:=hv.1;omega) (by simp),qB]
  cases hk:lk m.1 mpN
  ·rw[qes,dh];exact⟨_,rfl,by simp⟩
  ·have hbl:=q9g m.2.2 dy 100000 (fun x hx=>(hv.2.2.2 x hx).2)
   rw[qes,cf,qq7,qhy fu hfu m dy (by simp) hv.smD.2.2,qB]
   obtain⟨R,g1,g2⟩:=zgx fu fu (bp m.2.2 dy).2 [] (bp m.2.2 dy).1 (by omega) (by simp;omega)
   refine⟨R,g1,?_⟩;simp only[List.nil_append]at g2;by_cases hc:(bp m.2.2 dy).1.all fp=true/\(bp m.2.2 dy).2=true/\(1<=(bp m.2.2 dy).1.length/\(bp m.2.2 dy).1.length<=60)/\(bp m.2.2 dy).1.getLast? ≠ some 32
   ·rw[qX hc]at g2;have hb:bOk (bp m.2.2 dy).1=true:=by
     unfold bOk;have:(bp m.2.2 dy).1.isEmpty=false:=by
      cases hh:(bp m.2.2 dy).1 with|nil=>rw[hh]at hc;simp at hc|cons=>rfl
     rw[this,hc.1,decide_eq_true hc.2.2.1.2];simp;exact hc.2.2.2
    rw[qX ⟨by first|rfl|trivial,hc.2.1,hb⟩];exact g2
   ·rw[qW hc]at g2;rw[qW (by
     rintro⟨_,q1,q2⟩
     apply hc;unfold bOk at q2;simp only[qA,Bool.not_eq_true',decide_eq_true_eq,beq_eq_false_iff_ne]at q2;refine⟨q2.2.2.1,q1,⟨?_,q2.2.1⟩,q2.2.2.2⟩
     cases hh:(bp m.2.2 dy).1 with
     |nil=>rw[hh]at q2;simp at q2| cons=>simp)]
    exact g2
def q50{l:List bj}{b:Bs}(h:bnd l=some b):1<=b.length/\b.length<=60:=by
 unfold bnd at h;split at h
 ·split at h
  ·rename_i hc;cases h
   have q:=hc.2.2;unfold bOk at q;simp only[qA,Bool.not_eq_true',decide_eq_true_eq]at q;refine⟨?_,q.2.1⟩;generalize (bp _ dy).1=z at *
   cases z with|nil=>simp at q|cons=>simp
  ·cases h
 ·cases h
def qb9(t b:Bs):Int:=if t=([45,45]:Bs)++b then 1 else if t=(([45,45]:Bs)++b)++([45,45]:Bs) then 2 else 0
def jb(line b:Bs):Int:=qb9 (gv line) b
def ql9{α:Type}{a b:Bs}{x y:α}:(bif a==b then x else y)=if a=b then x else y:=by
 by_cases h:a=b
 ·rw[au (by simpa using h),qX h]
 ·rw[ay (by simpa using h),qW h]
def zk7(fu:Nat)(hfu:90000000<=fu)(line b:Bs)(h:line.length<=4000000)(hb:b.length<=1000):qky fu line b=some (jb line b):=by
 unfold qky jb qb9;rw[zq2 fu line,qB,ag (by simp[aq];omega),ql9,ag (by simp[aq];omega),ag (by simp[aq];omega),ql9]
 split
 ·rfl
 ·split<;>rfl
def zli(fu:Nat)(s b:Bs)(hs:s.length<=4000000)(hb:b.length<=1000)(n:Nat):∀(u w:Bs),s=u++w->u.length<n->z8 fu n s b (u.length:Int)=some (qb9 (gv u) b):=by
 induction n with
 |zero=>intro u w _ h;omega|succ n ih=>
  intro u w hu h;have ac:s.length=u.length+w.length:=by rw[hu];simp
  have fin:qaa fu (z8 fu n) s b (u.length:Int) false=some (qb9 u b):=by
   rw[qaa,ay rfl,ag,ag (by simp[aq];omega),show List.take ((u.length:Nat):Int).toNat s=u by rw[hu];exact yq u w,ql9,ag,ag (by simp[aq];omega),ag (by simp[aq];omega),ql9]
   unfold qb9;split
   ·rfl
   ·split<;>rfl
  rw[z8,qri];rcases List.eq_nil_or_concat u with rfl|⟨t,c,rfl⟩
  ·rw[ap];exact fin
  ·rw[List.concat_eq_append]at *;rw[ag,ou,pc _ (by simp at ac;omega),qhz]
   have hx:am s (t.length:Int)=some c:=by rw[hu,qS];exact bm t c w
   rw[hx,qB,qck,qB];cases hc:bl c
   ·rw[ou]at fin;rw[fin];rfl
   ·rw[qaa,au rfl,qrj,pc _ (by simp at ac;omega),qX rfl]
    exact ih t (c::w) (by rw[hu];simp) (by simp at h;omega)
def zlg(fu:Nat)(hfu:90000000<=fu)(s b:Bs)(hs:s.length<=4000000)(hb:b.length<=1000):qrh fu s b=some (jb s b):=
 zli fu s b hs hb fu s [] (by simp) (by omega)
def cr:Bs->Bs|[]=>[]|c::t=>if f5 c t=true then[] else c::cr t
def dr:Bs->Bs|[]=>[]|c::t=>if f5 c t=true then t.tail else dr t
def xf:∀r:Bs,(r=cr r++13::10::dr r/\Lib.index r [13,10]=((cr r).length:Int))\/(cr r=r/\dr r=[]/\Lib.index r [13,10] = -1)
 |[] => .inr ⟨rfl,rfl,rfl⟩|c::t=>by
  have hp:([13,10]:Bs).isPrefixOf (c::t)=f5 c t:=by
   unfold f5
   cases t with|nil=>simp[List.isPrefixOf]|cons d t=>simp[List.isPrefixOf,ql8]
  rw[cr,dr,Lib.index,hp];by_cases hc:f5 c t=true
  ·obtain⟨rfl,r',rfl⟩:=qni hc;rw[qX hc,qX hc,qX hc];exact .inl ⟨rfl,rfl⟩
  ·rw[qW hc,qW hc,qW hc];rcases xf t with⟨h1,h2⟩|⟨h1,h2,h3⟩
   ·refine .inl ⟨by rw[wK,← h1],?_⟩
    rw[h2,qW (by simp)];simp
   ·refine .inr ⟨by rw[h1],h2,?_⟩
    rw[h3];rfl
def qwo(r:Bs):r.take (cr r).length=cr r:=by
 rcases xf r with⟨h1,_⟩|⟨h1,_,_⟩
 ·have e:r.take (cr r).length=(cr r++13::10::dr r).take (cr r).length:=by rw[← h1]
  rw[e,List.take_left]
 ·rw[h1];simp
def qn0(r:Bs):dr r <:+ r:=by
 rcases xf r with⟨h1,_⟩|⟨_,h2,_⟩
 ·exact⟨cr r++[13,10],by simp;exact h1.symm⟩
 ·rw[h2];exact List.nil_suffix
def qyd(c:UInt8)(t:Bs):(dr (c::t)).length<=t.length:=by
 rcases xf (c::t) with⟨h1,_⟩|⟨_,h2,_⟩
 ·have:=congrArg List.length h1;simp only[qM,qL]at this;omega
 ·rw[h2];simp
def qwn(r:Bs):(cr r).length<=r.length:=by
 rcases xf r with⟨h1,_⟩|⟨h1,_,_⟩
 ·have:=congrArg List.length h1;simp only[qM,qL]at this;omega
 ·rw[h1];exact wF _
def qwp(s r:Bs):Bs:=s.take (s.length-r.length-2)
def jy(st:Option Bs)(r:Bs)(out:List Bs):List Bs:=match st with|some s=>out++[qwp s r]|none=>out
def g9(b:Bs):Nat->Bs->Option Bs->List Bs->List Bs
 |0,_,_,out=>out|_+1,[],st,out=>match st with|some s=>out++[s]|none=>out
 |n+1,c::t,st,out=>if jb (cr (c::t)) b=0 then g9 b n (dr (c::t)) st out
  else if jb (cr (c::t)) b=2 then jy st (c::t) out else g9 b n (dr (c::t)) (some (dr (c::t))) (jy st (c::t) out)
def fc(body:Bs)(st:Option Bs):Int:=match st with|some s=>pos body s|none => -1
def zk8(l b:Bs):jb l b=0\/jb l b=1\/jb l b=2:=by
 unfold jb qb9;split
 ·exact .inr (.inl rfl)
 ·split
  ·exact .inr (.inr rfl)
  ·exact .inl rfl
def qx0{body s r:Bs}(hs:s <:+ body)(hr:r <:+ s)(hb:body.length<=4000000):0<=pos body s/\pos body s<=(if af (pos body r-2)>pos body s then af (pos body r-2) else pos body s)/\(if af (pos body r-2)>pos body s then af (pos body r-2) else pos body s)<=(body.length:Int) /\
  List.take ((if af (pos body r-2)>pos body s then af (pos body r-2) else pos body s).toNat-(pos body s).toNat) (List.drop (pos body s).toNat body)=qwp s r:=by
 have h1:=hs.length_le;have h2:=hr.length_le;rw[qhq hs];unfold qwp pos;rw[d8]
 refine⟨by omega,?_,?_,?_⟩
 ·split<;>omega
 ·split<;>omega
 ·congr 1;split<;>omega
def zm8{body r:Bs}(hr:r <:+ body)(hb:body.length<=4000000):(if(body.length:Int)<af (af (pos body r+((cr r).length:Int))+2) then(body.length:Int) else af (af (pos body r+((cr r).length:Int))+2))=pos body (dr r):=by
 have h1:=hr.length_le;rcases xf r with⟨h,_⟩|⟨h,h2,_⟩
 ·have:=congrArg List.length h;simp only[qM,qL]at this;unfold pos;rw[ni _ _,d8]
  split<;>omega
 ·rw[h2,h,ij];unfold pos;rw[ni _ _,d8]
  split<;>omega
def zii(fu:Nat)(hfu:90000000<=fu)(body b:Bs)(hb:body.length<=4000000)(hbb:b.length<=1000)(r:Bs)(hr:r <:+ body)(st:Option Bs)(hst:∀s,st=some s->s <:+ body/\r <:+ s)(z out:List Bs)(ho:out.length<=4000000:=by omega) :
  qas fu (pos body r) (cr r) body b (fc body st) z out =
   if jb (cr r) b=0 then some (.inl (body,(b,(fc body st,(z,out))))) else if jb (cr r) b=2 then some (.inr (body,(b,(fc body st,jy st r out)))) else some (.inl (body,(b,(pos body (dr r),(z,jy st r out))))):=by
 have hrm:=lb;have hcl:=qwn r;have hrl:=hr.length_le;unfold qas;rw[zk7 fu hfu _ b (by omega) hbb,qB,iy]
 by_cases h0:jb (cr r) b=0
 ·rw[qX h0,qX h0]
 rw[qW h0,qW h0,zm8 hr hb,iy]
 cases st with
 |none=>
  rw[show fc body none = -1 from rfl,ap]
  try rw[iy]
  by_cases h2:jb (cr r) b=2
  ·rw[qX h2,qX h2];rfl
  ·rw[qW h2,qW h2];rfl
 |some s=>
  obtain⟨g1,g2⟩:=hst s rfl;obtain⟨q1,q2,q3,q4⟩:=qx0 g1 g2 hb;rw[show fc body (some s)=pos body s from rfl,ag q1,ag ⟨q1,q2,q3⟩,q4,ag]
  by_cases h2:jb (cr r) b=2
  ·rw[qX h2,qX h2];rfl
  ·rw[qW h2,qW h2];rfl
def q47(st:Option Bs)(r:Bs)(out:List Bs):(jy st r out).length<=out.length+1:=by unfold jy;cases st<;>simp
def q66(st:Option Bs)(out:List Bs):List Bs:=match st with|some s=>out++[s]|none=>out
def zih(fu:Nat)(hfu:90000000<=fu)(body b:Bs)(hb:body.length<=4000000)(hbb:b.length<=1000)(z:List Bs)(n:Nat):∀(r:Bs)(st:Option Bs)(out:List Bs),r <:+ body->(∀s,st=some s->s <:+ body/\r <:+ s)->r.length<n->out.length+r.length<=4000000 ->
  (∃x,wn fu n (pos body r) body body b (fc body st) z out=some (.inl (body,(body,(b,(x,g9 b n r st out)))))) \/
  (∃st' out',wn fu n (pos body r) body body b (fc body st) z out=some (.inr (body,(body,(b,(fc body st',(z,out'))))))/\g9 b n r st out=q66 st' out'/\out'.length<=4000000/\∀s,st'=some s->s <:+ body):=by
 induction n with
 |zero=>intro r st out _ _ h;omega|succ n ih=>
  intro r st out hr hst h ho;rw[wn,qtj]
  cases r with
  |nil=>
   rw[ij,ap]
   exact .inr ⟨st,out,rfl,rfl,by omega,fun s hs=>(hst s hs).1⟩
  |cons c t=>
   simp only[qL]at h ho;have hL:(c::t).length=t.length+1:=rfl;have hrl:=hr.length_le;simp only[qL]at hrl;have hcl:=qwn (c::t);have hnl:=qyd c t;have hge:=sy body (c::t);have hnx:dr (c::t) <:+ body:=(qn0 _).trans hr;rw[ag (l8 hr),ag hge,ag (by decide),qhq hr]
   have hI:wh (c::t) [13,10]=some (Lib.index (c::t) [13,10]):=by
    unfold wh;rw[ag (by refine⟨by simp,by simp only[qL];omega,by simp[maxLen]⟩)]
   have step:∀q:Option qu9,q=((qas fu (pos body (c::t)) (cr (c::t)) body b (fc body st) z out).bind fun x2=>bq x2 (fun a3=>wn fu n (pos body (dr (c::t))) body a3.1 a3.2.1 a3.2.2.1 a3.2.2.2.1 a3.2.2.2.2) (fun b4=>some (.inl (body,b4)))) ->
     (∃x,q=some (.inl (body,(body,(b,(x,g9 b (n+1) (c::t) st out))))))\/(∃st' out',q=some (.inr (body,(body,(b,(fc body st',(z,out'))))))/\g9 b (n+1) (c::t) st out=q66 st' out'/\out'.length<=4000000/\∀s,st'=some s->s <:+ body):=by
    intro q hq;rw[hq,zii fu hfu body b hb hbb (c::t) hr st hst z out,g9]
    have hal:=q47 st (c::t) out;by_cases h0:jb (cr (c::t)) b=0
    ·simp only[qX h0,qB,bq];exact ih (dr (c::t)) st out hnx (fun s hs=>⟨(hst s hs).1,(qn0 _).trans (hst s hs).2⟩) (by omega) (by omega)
    ·simp only[qW h0];by_cases h2:jb (cr (c::t)) b=2
     ·simp only[qX h2,qB,bq];exact .inl ⟨_,rfl⟩
     ·simp only[qW h2,qB,bq];exact ih (dr (c::t)) (some (dr (c::t))) _ hnx (fun s hs=>by cases hs;exact⟨hnx,List.suffix_refl _⟩) (by omega) (by omega)
   apply step;rw[hI,qB];rcases xf (c::t) with⟨h1,h2⟩|⟨h1,h2,h3⟩
   ·have ac:=congrArg List.length h1;simp only[qM,qL]at ac;have e1:af (pos body (c::t)+((cr (c::t)).length:Int))=((body.length-(c::t).length+(cr (c::t)).length:Nat):Int):=by unfold pos;rw[ni _ _]
    have e2:af (((body.length-(c::t).length+(cr (c::t)).length:Nat):Int)+2)=pos body (dr (c::t)):=by unfold pos;rw[d8];simp only[qL];omega
    have e3:((body.length-(c::t).length+(cr (c::t)).length:Nat):Int).toNat-(pos body (c::t)).toNat=(cr (c::t)).length:=by unfold pos;omega
    rw[h2,ag,e1,ag (by unfold pos;simp only[qL];omega),e3,qwo,e2]
   ·have e3:(body.length:Int).toNat-(pos body (c::t)).toNat=(cr (c::t)).length:=by rw[h1];unfold pos;omega
    rw[h3,ap,ag,e3,qwo,h2,ij]
def q6g(b:Bs):∀(n:Nat)(r:Bs)(st:Option Bs)(out:List Bs),r.length<n->g9 b n r st out=g9 b (r.length+1) r st out:=by
 intro n
 induction n using Nat.strongRecOn with
 |ind n ih=>
  intro r st out h;obtain⟨n,rfl⟩:∃m,n=m+1:=⟨n-1,by omega⟩
  cases r with
  |nil=>rfl|cons c t=>
   simp only[qL]at h ⊢;have hnl:=qyd c t;rw[g9,g9];have e:∀st' out',g9 b n (dr (c::t)) st' out'=g9 b (t.length+1) (dr (c::t)) st' out':=fun st' out'=>by
    rw[ih n (by omega) _ _ _ (by omega)]
    by_cases hq:t.length+1=n
    ·rw[hq];exact(ih n (by omega) _ _ _ (by omega)).symm
    ·exact(ih (t.length+1) (by omega) _ _ _ (by omega)).symm
   rw[e,e]
def xe(body b:Bs):List Bs:=g9 b (body.length+1) body none []
def zij(fu:Nat)(hfu:90000000<=fu)(body b:Bs)(hb:body.length<=4000000)(hbb:b.length<=1000):qkr fu body b=some (xe body b):=by
 have hrm:=lb;unfold qkr qth qti xe;rw[qB];have:=zih fu hfu body b hb hbb [] fu body none [] (List.suffix_refl _) (by simp) (by omega) (by simpa using hb)
 rw[qyr,show fc body none = -1 from rfl,q6g b fu body none [] (by omega)]at this
 rcases this with⟨x,h⟩|⟨st',out',h1,h2,h3,h4⟩
 ·rw[h];rfl
 ·rw[h1,qB,h2];simp only[bq]
  cases st' with
  |none=>rw[show fc body none = -1 from rfl,ap];rfl|some s=>
   have hge:=sy body s;rw[show fc body (some s)=pos body s from rfl,ag hge.1,ag hge,ag,qhq (h4 s rfl)];rfl
def znw(fu:Nat)(r0:(Bs->Bs->Int->Int->(List Bs)->Option ((List Bs))))(body b:Bs)(s6 s7:Int)(out:List Bs)(hb:body.length<=4000000)(n:Nat):∀(u:Bs),u <:+ body->u.length<n ->
  qev fu r0 n body b s6 s7 (pos body u) out=qex fu r0 body b s6 s7 (pos body (u.drop (cr u).length)) (pos body (dr u)) out:=by
 induction n with
 |zero=>intro u _ h;omega|succ n ih=>
  intro u hu h;rw[qev,qrc]
  cases u with
  |nil=>rw[ij,ap,qew,ay rfl,au];simp[dr,ij]|cons c t=>
   have ht:t <:+ body:=(List.suffix_cons _ _).trans hu;simp only[qL]at h;have hc:za body (pos body (c::t))=some (f5 c t):=by
    obtain⟨p,e1,e2⟩:=q9n hu;have:=hu.length_le;rw[e2,e1];exact q9x p c t (by rw[e1]at hb;simp at hb;omega)
   rw[ag (l8 hu),hc,qB,qew,cr,dr];by_cases hq:f5 c t=true
   ·obtain⟨rfl,r',rfl⟩:=qni hq;have hle:=hu.length_le;simp only[qL]at hle;rw[hq,cf,ay (by have:=l8 hu;simp;omega),qX rfl,qX rfl]
    have e:af (pos body (13::10::r')+2)=pos body r':=by unfold pos;rw[d8 (by simp only[qL];omega)];simp only[qL];omega
    rw[e];rfl
   ·have:f5 c t=false:=by simpa using hq
    rw[this,dh,qrd,o6 hu,qW (by simp),qW (by simp)]
    exact ih t ht (by omega)
def zn0(fu:Nat)(hfu:90000000<=fu)(body b:Bs)(hb:body.length<=4000000)(hbb:b.length<=1000)(n:Nat):∀(r:Bs)(st:Option Bs)(out:List Bs),r <:+ body->(∀s,st=some s->s <:+ body/\r <:+ s)->r.length<n->out.length+r.length<=4000000 ->
  tp fu n body b (fc body st) (pos body r) out=some (g9 b n r st out):=by
 have hrm:=lb
 induction n with
 |zero=>intro r st out _ _ h;omega|succ n ih=>
  intro r st out hr hst h ho;rw[tp,qrb]
  cases r with
  |nil=>
   rw[ij,ap]
   show _=some (match st with|some s=>out++[s]|none=>out)
   cases st with
   |none=>rw[show fc body none = -1 from rfl,ap]|some s=>
    have hge:=sy body s;rw[show fc body (some s)=pos body s from rfl,ag hge.1,ag hge,ag (by simp;simp at ho;omega),qhq (hst s rfl).1]
  |cons c t=>
   simp only[qL]at h ho;have hrl:=hr.length_le;simp only[qL]at hrl;have hcl:=qwn (c::t);have hnl:=qyd c t;have hnx:dr (c::t) <:+ body:=(qn0 _).trans hr;have hal:=q47 st (c::t) out;rw[ag (l8 hr),znw fu _ body b _ _ out hb fu (c::t) hr (by simp only[qL];omega),g9,qex]
   have hds:(c::t).drop (cr (c::t)).length <:+ (c::t):=List.drop_suffix _ _;have hle:=qys (s:=body) hds;have g1:=sy body (c::t);have g2:=sy body ((c::t).drop (cr (c::t)).length);have e:List.take ((pos body ((c::t).drop (cr (c::t)).length)).toNat-(pos body (c::t)).toNat) (List.drop (pos body (c::t)).toNat body)=cr (c::t):=by
    rw[qyt hr hds,List.length_drop,show(c::t).length-((c::t).length-(cr (c::t)).length)=(cr (c::t)).length by omega,qwo]
   rw[ag ⟨g1.1,hle,g2.2⟩,e,zlg fu hfu _ b (by simp only[qL]at hcl;omega) hbb,qB]
   have nx:∀st' out',(∀s,st'=some s->s <:+ body/\dr (c::t) <:+ s)->out'.length<=out.length+1->tp fu n body b (fc body st') (pos body (dr (c::t))) out'=some (g9 b n (dr (c::t)) st' out'):=fun st' out' h1 h2=>ih _ st' out' hnx h1 (by omega) (by omega)
   rcases zk8 (cr (c::t)) b with hk|hk|hk
   ·rw[hk,ap,qX rfl,zy,ay (by rfl)]
    exact nx st out (fun s hs=>⟨(hst s hs).1,(qn0 _).trans (hst s hs).2⟩) (by omega)
   ·rw[hk,ag,qW (by omega),qW (by omega)]
    have p5:∀o,o=jy st (c::t) out->v7 fu (tp fu n) body b (pos body (dr (c::t))) 1 o=some (g9 b n (dr (c::t)) (some (dr (c::t))) (jy st (c::t) out)):=by
     intro o he;rw[v7,zy,ay (by rfl),he]
     exact nx (some (dr (c::t))) _ (fun s hs=>by cases hs;exact⟨hnx,List.suffix_refl _⟩) hal
    cases st with
    |none=>rw[show fc body none = -1 from rfl,ap];exact p5 _ rfl|some s=>
     obtain⟨q1,q2,q3,q4⟩:=qx0 (hst s rfl).1 (hst s rfl).2 hb;rw[show fc body (some s)=pos body s from rfl,ag q1,cv]
     by_cases hlt:af (pos body (c::t)-2)<pos body s
     ·rw[qW (by omega)]at q2 q3 q4
      rw[qX hlt,v8,ag ⟨q1,q2,q3⟩,q4,ag]
      exact p5 _ rfl
     ·rw[qW hlt,v8];by_cases heq:af (pos body (c::t)-2)=pos body s
      ·rw[qW (by omega)]at q2 q3 q4
       rw[heq,ag ⟨q1,q2,q3⟩,q4,ag]
       exact p5 _ rfl
      ·rw[qX (by omega)]at q2 q3 q4
       rw[ag ⟨q1,q2,q3⟩,q4,ag]
       exact p5 _ rfl
   ·rw[hk,ag,qW (by omega),qX rfl]
    have p5:∀o,o=jy st (c::t) out->v7 fu (tp fu n) body b (pos body (dr (c::t))) 2 o=some (jy st (c::t) out):=by
     intro o he;rw[v7,zy,au,he]
    cases st with
    |none=>rw[show fc body none = -1 from rfl,ap];exact p5 _ rfl|some s=>
     obtain⟨q1,q2,q3,q4⟩:=qx0 (hst s rfl).1 (hst s rfl).2 hb;rw[show fc body (some s)=pos body s from rfl,ag q1,cv]
     by_cases hlt:af (pos body (c::t)-2)<pos body s
     ·rw[qW (by omega)]at q2 q3 q4
      rw[qX hlt,v8,ag ⟨q1,q2,q3⟩,q4,ag]
      exact p5 _ rfl
     ·rw[qW hlt,v8];by_cases heq:af (pos body (c::t)-2)=pos body s
      ·rw[qW (by omega)]at q2 q3 q4
       rw[heq,ag ⟨q1,q2,q3⟩,q4,ag]
       exact p5 _ rfl
      ·rw[qX (by omega)]at q2 q3 q4
       rw[ag ⟨q1,q2,q3⟩,q4,ag]
       exact p5 _ rfl
def zn1(fu:Nat)(hfu:90000000<=fu)(body b:Bs)(hb:body.length<=4000000)(hbb:b.length<=1000):qra fu body b=some (xe body b):=by
 have:=zn0 fu hfu body b hb hbb fu body none [] (List.suffix_refl _) (by simp) (by omega) (by simpa using hb)
 rw[qyr,show fc body none = -1 from rfl,q6g b fu body none [] (by omega)]at this
 exact this
def zbm(l:List bj)(f:bj->Nat)(hf:∀x,x.1.length+x.2.length+1<=f x):l.length<=(l.map f).sum/\∀x∈l,x.1.length+x.2.length<=(l.map f).sum:=by
 induction l with
 |nil=>exact⟨wF _,fun x h=>by cases h⟩
 |cons y l ih=>
  have hy:=hf y;refine⟨by simp only[qL,List.map_cons,List.sum_cons];omega,fun x hx => ?_⟩
  rw[List.map_cons,List.sum_cons];rcases List.mem_cons.1 hx with rfl|hx
  ·omega
  ·have:=ih.2 x hx;omega
def qzk:∀b:List UInt8,(List.map (Ty.byte.bk:Ty.byte.den->Nat) b).sum=b.length
 |[]=>rfl|c::b=>by
  show 1+(List.map (Ty.byte.bk:Ty.byte.den->Nat) b).sum=b.length+1;rw[qzk b];omega
def xn(x:bj):Nat:=(x.1.length+1)+(x.2.length+1)
def zf0(l:List bj)(b:List UInt8)(h:((l.map xn).sum+1)+(b.length+1)<=1048576):SmM (l,b):=by
 obtain⟨h1,h2⟩:=zbm l xn (fun x=>by unfold xn;omega)
 refine⟨⟨by simp only;omega,fun x hx => ?_⟩,by simp only;omega⟩
 have:=h2 x hx;omega
def zfz(m:List bj×List UInt8)(h:(Ty.prod (.list (.prod .str .str)) (.list .byte)).bk m<=1048576):SmM m:=by
 obtain⟨l,b⟩:=m;have h:((l.map xn).sum+1)+((List.map (Ty.byte.bk:Ty.byte.den->Nat) b).sum+1)<=1048576:=h;rw[qzk]at h;exact zf0 l b h
abbrev TP:Type:=Tree (List (Bs×Bs)×Bs)
abbrev τP:Ty := .prod (.list (.prod .str .str)) (.list .byte)
def cm(t:TP):Nat:=(Ty.tree τP).bk t
def ta(x:List (Bs×Bs)×Bs)(l:List TP):cm (.node x l)=τP.bk x+(l.map cm).sum+2:=zb0 τP.bk x l
def d7(t:TP):Tree.node t.val t.kids=t:=by cases t;rfl
def zqe(l:List TP)(k:TP)(h:k∈l):cm k<=(l.map cm).sum:=by
 obtain⟨a,b,rfl⟩:=List.append_of_mem h;simp;omega
def qct{t k:TP}(h:k∈t.kids):cm k+2<=cm t:=by
 cases t with
 |node x l=>
  rw[ta];have:=zqe l k h;omega
def zqd(l:List TP):l.length<=(l.map cm).sum:=by
 induction l with
 |nil=>simp|cons k l ih=>
  have:2<=cm k:=by cases k;rw[ta];omega
  simp only[qL,List.map_cons,List.sum_cons];omega
def yu(t:TP):t.kids.length+2<=cm t:=by
 cases t with|node x l=>rw[ta];have:=zqd l;show l.length+2<=_;omega
def qcu(t:TP):2<=cm t:=by cases t;rw[ta];omega
def zq4(t:TP):τP.bk t.val<=cm t:=by cases t;rw[ta];show τP.bk _<=_;simp only[Tree.val];omega
def rx(x:List (Bs×Bs)×Bs):Prop:=SmM x/\x.1.length<=4000000/\(∀y∈x.1,y.1.length<=4000000/\y.2.length<=4000000)/\x.2.length<=4000000
def zpx(x:List (Bs×Bs)×Bs)(h:τP.bk x<=1048576):rx x:=by
 refine⟨zfz x h,?_⟩;obtain⟨l,b⟩:=x;have h:((l.map xn).sum+1)+((List.map (Ty.byte.bk:Ty.byte.den->Nat) b).sum+1)<=1048576:=h;rw[qzk]at h;obtain⟨h1,h2⟩:=zbm l xn (fun x=>by unfold xn;omega)
 exact⟨by simp only;omega,fun y hy=>by have:=h2 y hy;omega,by simp only;omega⟩
def qoz(l:List bj)(b:Bs):Int:=match gm l with|none=>5|some m=>if 0<b.length\/lk m.1 mpN=false\/(bp m.2.2 dy).2=true\/60<=m.2.2.length\/cn l ci≠[mw m]\/2000<(mw m).length then 5 else 0
def zrz(fu:Nat)(hfu:90000000<=fu)(t:TP)(hs:rx t.val):qkz fu t=some (qoz t.val.1 t.val.2):=by
 obtain⟨_,h1,h2,h3⟩:=hs;obtain⟨R,g1,g2⟩:=qzu fu hfu t.val.1 h2 h1;unfold qkz qoz;rw[g1,qB];simp only[d7]
 cases ht:gm t.val.1 with
 |none=>
  rw[ht]at g2;obtain⟨k,rfl⟩:=g2;simp only[bq];by_cases hb:0<t.val.2.length
  ·rw[ag,nt,au rfl]
  ·rw[ap,dh,nt,au rfl]
 |some m=>
  rw[ht]at g2;obtain⟨ab,x,aa,e1,e2,e3,e4,e5,rfl⟩:=g2;have h0:=qou ht;have hv:=qhk h0;simp only[bq];by_cases hb:0<t.val.2.length
  ·rw[ag,nt,au rfl,qX (.inl hb)]
  rw[ap,cf,qr fu hfu _ _ (by have:=hv.1;omega) (by simp),qB,nt,d7]
  cases hk:lk m.1 mpN
  ·rw[dh,qX (.inr (.inl rfl))]
  rw[cf,qtk,qx2 fu hfu (m.1,(m.2.1,m.2.2)) dy (by simp) hv.smD,qB,qW (by simpa using h0),zna fu hfu (m.1,(m.2.1,m.2.2)) hv.smD,qB,qW (by simpa using h0)]
  rw[show((m.1,(m.2.1,m.2.2)):dt)=m from rfl]
  simp only;cases hp:(bp m.2.2 dy).2
  ·rw[ay rfl];by_cases h60:60<=m.2.2.length
   ·rw[ag,qX (.inr (.inr (.inr (.inl h60))))]
   rw[ap]
   by_cases h4:4000<(mw m).length
   ·rw[qX h4,qX (by omega)];rfl
   ·have hx:am t.val.1 (ab.length:Int)=some x:=by rw[e1];exact bm ab x aa
    rw[qW h4];simp only[qd,qB];rw[ay (by rfl),hx,qB,q5t,e2]
    by_cases he:mw m=x.2
    ·rw[qW (by rw[he];simp),cv]
     by_cases h2k:2000<(mw m).length
     ·rw[qX (by omega),qX (by omega)]
     ·rw[qW (by omega),qW (by
       rintro (q|q|q|q|q|q)
       ·exact hb q
       ·simp at q
       ·simp at q
       ·exact h60 q
       ·exact q (by rw[he])
       ·exact h2k q)]
    ·rw[qX (by simpa using he),qX (.inr (.inr (.inr (.inr (.inl (by simpa using fun q=>he q.symm))))))]
  ·rw[au rfl,qX (.inr (.inr (.inl rfl)))]
def jk(t:TP)(d:Int):Int:=if(oh t.val.1).1≠0 then(oh t.val.1).1 else if 0<t.kids.length then qoz t.val.1 t.val.2 else if 12000<t.val.2.length then 1
 else if bs 0 t.val.2≠0 then bs 0 t.val.2 else match bnd t.val.1 with|none=>0|some b=>if d<8/\0<(xe t.val.2 b).length then 5 else 0
def zhm(fu:Nat)(s:Bs)(h:s.length<fu:=by omega)(hb:s.length<100000000:=by omega):qj1 fu s=some (bs 0 s):=by
 unfold qj1;have:=zhv fu fu [] s 0 h (by simpa using hb) (by omega)
 exact this
def zkq(fu:Nat)(hfu:90000000<=fu)(l:List bj)(b:Bs)(d:Int)(hs:rx (l,b)):qkx fu l b d=some (match bnd l with|none=>[]|some bb=>if d<8 then xe b bb else[]):=by
 obtain⟨_,h1,h2,h3⟩:=hs;obtain⟨R,g1,g2⟩:=zhx fu hfu l h2 h1;unfold qkx;rw[g1,qB]
 cases hb:bnd l with
 |none=>rw[hb]at g2;simp only at g2;rw[g2,dh]|some bb=>
  rw[hb]at g2;simp only at g2;subst g2;rw[cf,cv];have:=q50 hb;by_cases hd:d<8
  ·rw[qW (by omega)];simp only[qX hd];rw[zij fu hfu b bb h3 (by omega)];rfl
  ·rw[qX (by omega)];simp only[qW hd]
def zic(fu:Nat)(hfu:90000000<=fu)(t:TP)(d:Int)(hs:rx t.val):qkq fu (t,d)=some (jk t d):=by
 unfold qkq jk;rw[zkc fu hfu _ hs.1.1,qB,qd,qB,fj];simp only[d7];by_cases h0:(oh t.val.1).1≠0
 ·rw[qX h0,qX h0]
 rw[qW h0,qW h0,cv];by_cases h1:0<t.kids.length
 ·rw[qX (by omega),qX h1,zrz fu hfu t hs];rfl
 rw[qW (by omega),qW h1,cv]
 by_cases h2:12000<t.val.2.length
 ·rw[qX (by omega),qX h2]
 rw[qW (by omega),qW h2,zhm fu _,qB,fj]
 by_cases h3:bs 0 t.val.2≠0
 ·rw[qX h3,qX h3]
 rw[qW h3,qW h3,zkq fu hfu t.val.1 t.val.2 d hs,qB]
 cases bnd t.val.1 with
 |none=>rfl|some b=>
  simp only;by_cases hd:d<8
  ·simp only[qX hd];rw[cv];by_cases hc:0<(xe t.val.2 b).length
   ·rw[qX (by omega),qX ⟨hd,hc⟩]
   ·rw[qW (by omega),qW (fun q=>hc q.2)]
  ·simp only[qW hd];rw[qW (fun q=>hd q.1)];rfl
def zmu(fu:Nat)(hfu:90000000<=fu)(t:TP)(d:Int)(hs:rx t.val):qjv fu t d=some (jk t d):=by
 unfold qjv jk;rw[zog fu hfu _ hs.1.1,qB,fj];simp only[d7];by_cases h0:(oh t.val.1).1≠0
 ·rw[qX h0,qX h0]
 rw[qW h0,qW h0,cv];by_cases h1:0<t.kids.length
 ·rw[qX (by omega),qX h1,qzt fu hfu _ hs.1.1,qB]
  unfold qoz
  cases ht:gm t.val.1 with
  |none=>
   simp only;rw[qhy fu hfu ([],([],[])) dy (by simp) ⟨by simp,by simp⟩,qB,dh,np,au rfl]
  |some m=>
   have h0:=qou ht;have hv:=qhk h0;simp only;rw[qhy fu hfu m dy (by simp) hv.smD.2.2,qB,cf]
   cases hp:(bp m.2.2 dy).2
   ·rw[ay rfl,w7 fu hfu _ _ (by have:=hv.1;omega) (by simp),qB]
    cases hk:lk m.1 mpN
    ·rw[dh,np,au rfl,qX (.inr (.inl rfl))]
    rw[cf,cv];by_cases hb:0<t.val.2.length
    ·rw[qX (by omega),np,au rfl,qX (.inl hb)]
    rw[qW (by omega),np,cv]
    by_cases h60:60<=m.2.2.length
    ·rw[qX (by omega),qX (.inr (.inr (.inr (.inl h60))))]
    rw[qW (by omega),d7,qrk,zop fu hfu m hv,qB,cv]
    by_cases h2k:2000<(mw m).length
    ·rw[qX (by omega),qez,au rfl,qX (by omega)]
    rw[qW (by omega),qzw fu hfu _ ctn (by simp) hs.1.1,qB,zcd]
    have hv1:∃v,cn t.val.1 ci=[v]:=by
     unfold gm at ht;split at ht
     ·rename_i v hv2;exact⟨v,hv2⟩
     ·cases ht
    obtain⟨v,hv1⟩:=hv1;rw[hv1,ag,show([v]:List Bs)[(0:Int).toNat]? = some v from rfl,qB,qez,q5t]
    by_cases he:v=mw m
    ·rw[qW (by rw[he];simp),qW (by
      rintro (q|q|q|q|q|q)
      ·exact hb q
      ·simp at q
      ·simp at q
      ·exact h60 q
      ·exact q (by rw[he])
      ·exact h2k q)];rfl
    ·rw[qX (by simpa using he),qX (.inr (.inr (.inr (.inr (.inl (by simpa using he))))))]
   ·rw[au rfl,np,au rfl,qX (.inr (.inr (.inl rfl)))]
 rw[qW (by omega),qW h1,cv]
 have hbl:=hs.2.2.2;by_cases h2:12000<t.val.2.length
 ·rw[qX (by omega),qX h2]
 rw[qW (by omega),qW h2,znu fu _,qB,fj]
 have hbv:(qv7 (bs 0 t.val.2)).1=bs 0 t.val.2:=by
  rcases zh3 t.val.2.length t.val.2 0 (wF _) with h|h|h<;>rw[h]<;>rfl
 rw[hbv];by_cases h3:bs 0 t.val.2≠0
 ·rw[qX h3,qX h3]
 rw[qW h3,qW h3];obtain⟨R,g1,g2⟩:=zgw fu hfu t.val.1 hs.1.1;rw[g1,qB]
 cases hb:bnd t.val.1 with
 |none=>rw[hb]at g2;simp only at g2;rw[g2];rfl|some b=>
  rw[hb]at g2;simp only at g2 ⊢;subst g2;have:=q50 hb;rw[au rfl,cv];by_cases hd:d<8
  ·rw[qX hd,zn1 fu hfu t.val.2 b hbl (by omega),qB,cv]
   by_cases hc:0<(xe t.val.2 b).length
   ·rw[qX (by omega),qX ⟨hd,hc⟩]
   ·rw[qW (by omega),qW (fun q=>hc q.2)]
  ·rw[qW hd,qW (fun q=>hd q.1)]
def bn:Nat->TP->Int->List (TP×Int)|0,_,_=>[]|n+1,t,d=>(t,d)::t.kids.flatMap fun k=>bn n k (d+1)
def qxa:∀(n:Nat)(t:TP)(d:Int),(bn n t d).length<=cm t:=by
 intro n
 induction n with
 |zero=>intro t d;simp[bn]|succ n ih=>
  intro t d;have key:∀l:List TP,(l.flatMap fun k=>bn n k (d+1)).length<=(l.map cm).sum:=by
   intro l
   induction l with
   |nil=>simp|cons k l ih2=>
    have:=ih k (d+1);rw[List.flatMap_cons,qM,List.map_cons,List.sum_cons];omega
  cases t with
  |node x l=>
   have:=key l;rw[bn,qL,ta];show(l.flatMap _).length+1<=_;omega
def zjq:∀(n:Nat)(t:TP)(d:Int),∀x∈bn n t d,cm x.1<=cm t:=by
 intro n
 induction n with
 |zero=>intro t d x hx;cases hx
 |succ n ih=>
  intro t d x hx;rw[bn]at hx;rcases List.mem_cons.1 hx with e|e
  ·rw[e];exact wF _
  ·obtain⟨k,hk,hx2⟩:=List.mem_flatMap.1 e;have:=ih k (d+1) x hx2;have:=qct hk;omega
def gd(t:TP):Prop:=cm t<=60000000/\∀n d,∀x∈bn n t d,rx x.1.val
def zj1{t:TP}(h:gd t):rx t.val:=h.2 1 0 (t,0) (by rw[bn];exact qH)
def zj0{t k:TP}(h:gd t)(hk:k∈t.kids):gd k:=⟨by have:=qct hk;have:=h.1;omega,fun n d x hx=>h.2 (n+1) (d-1) x (by
 rw[bn];refine qE _ (List.mem_flatMap.2 ⟨k,hk,?_⟩);rw[show d-1+1=d by omega];exact hx)⟩
def zjz{t:TP}(h:cm t<=1048576:=by omega):gd t:=⟨by omega,fun n d x hx=>zpx _ (by have:=zjq n t d x hx;have:=zq4 x.1;omega)⟩
def jo:List (TP×Int)->Nat->Bool->Option (Nat×Bool)|[],i,fl=>some (i,fl)|x::L,i,fl=>if 40<=i then none else jo L (i+1) (fl||decide (8<x.2))
def zau:∀(L M:List (TP×Int))(i:Nat)(fl:Bool),jo (L++M) i fl=(jo L i fl).bind fun x=>jo M x.1 x.2
 |[],_,_,_=>rfl|x::L,M,i,fl=>by
  rw[wK,jo,jo];by_cases h:40<=i
  ·rw[qX h,qX h];rfl
  ·rw[qW h,qW h,zau L M]
def zav:∀(L:List (TP×Int))(i:Nat)(fl:Bool)(x:Nat×Bool),i<=40->jo L i fl=some x->x.1<=40
 |[],_,_,_,h,e=>by cases e;exact h
 |y::L,i,fl,x,h,e=>by
  rw[jo]at e;by_cases h4:40<=i
  ·rw[qX h4]at e;cases e
  ·rw[qW h4]at e;exact zav L _ _ x (by omega) e
def zaw:∀(L:List (TP×Int))(i:Nat)(fl:Bool),i<=40->jo L i fl=if 40<i+L.length then none else some (i+L.length,fl||L.any fun x=>decide (8<x.2))
 |[],i,fl,h=>by rw[jo,qW (by simp;omega)];simp|x::L,i,fl,h=>by
  rw[jo];by_cases h4:40<=i
  ·rw[qX h4,qX (by simp only[qL];omega)]
  ·rw[qW h4,zaw L _ _ (by omega)]
   by_cases h5:40<i+1+L.length
   ·rw[qX h5,qX (by simp only[qL];omega)]
   ·rw[qW h5,qW (by simp only[qL];omega),List.any_cons,Bool.or_assoc,qL,Nat.add_assoc,Nat.add_comm 1]
def zi7(fu:Nat)(hfu:90000000<=fu)(z:Int×Int):∀(n:Nat)(t:TP)(d i:Nat)(fl:Bool),cm t<=n->cm t+d<=70000000->i<=40 ->
  ∃R,qat fu n t (d:Int) (i:Int) z fl=some R/\match jo (bn n t (d:Int)) i fl with
   |none=>∃a b,R = .inl (a,(((2:Int),(-1:Int)),b))|some x=>R = .inr ((x.1:Int),(z,x.2)):=by
 intro n
 induction n with
 |zero=>intro t d i fl h;have:=qcu t;omega|succ n ih=>
  intro t d i fl hz hd hi;rw[qat,qkt,qs7,bn,jo];by_cases h4:40<=i
  ·rw[ag,qX h4,oz];exact⟨_,rfl,_,_,rfl⟩
  rw[ap,qW h4]
  have hr0:(bif fl then some (.inr (z,true)) else some (.inr (z,decide ((8:Int)<(d:Int)))):Option q4r)=some (.inr (z,fl||decide ((8:Int)<(d:Int)))):=by cases fl<;>rfl
  rw[hr0,qB];simp only[bq];rw[aw i]
  have loop:∀(m:Nat)(ab aa:List TP)(i:Nat)(fl:Bool),t.kids=ab++aa->aa.length<m->i<=40 ->
    ∃R,qfy (qat fu n) fu m (d:Int) t.kids (t.kids.length:Int) (ab.length:Int) (i:Int) z fl=some R/\match jo (aa.flatMap fun k=>bn n k ((d:Int)+1)) i fl with
     |none=>∃a b,R = .inl (a,(((2:Int),(-1:Int)),b))|some x=>R = .inr ((x.1:Int),(z,x.2)):=by
   intro m
   induction m with
   |zero=>intro ab aa i fl _ h;omega|succ m ihm=>
    intro ab aa i fl hk h hi;have ac:t.kids.length=ab.length+aa.length:=by rw[hk];simp
    have hks:=yu t;rw[qfy,qta]
    cases aa with
    |nil=>rw[ap (by simp only[qZ]at ac;omega)];exact⟨_,rfl,rfl⟩|cons k aa=>
     simp only[qL]at h ac;have hkm:k∈t.kids:=by rw[hk];simp
     have hx:am t.kids (ab.length:Int)=some k:=by rw[hk];exact bm ab k aa
     have hkz:=qct hkm;rw[ag,hx,qB,d7,aw d,List.flatMap_cons,zau]
     obtain⟨R,g1,g2⟩:=ih k (d+1) i fl (by omega) (by omega) hi
     rw[g1,qB];rw[show((d+1:Nat):Int)=(d:Int)+1 by omega]at g2
     cases hr:jo (bn n k ((d:Int)+1)) i fl with
     |none=>
      rw[hr]at g2;obtain⟨a,b,rfl⟩:=g2;exact⟨_,rfl,a,b,rfl⟩
     |some x=>
      rw[hr]at g2;simp only at g2;subst g2;simp only[bq,qB];rw[aw _]
      have:=ihm (ab++[k]) aa x.1 x.2 (by rw[hk];simp) (by omega) (zav _ _ _ _ hi hr)
      rw[qM,wD]at this;exact this
  have hks:=yu t;exact loop fu [] t.kids (i+1) _ rfl (by omega) (by omega)
def fq:List (TP×Int)->Nat->Option (Int×Int)|[],_=>none|x::L,i=>if jk x.1 x.2≠0 then some (jk x.1 x.2,(i:Int)) else fq L (i+1)
def zax:∀(L M:List (TP×Int))(i:Nat),fq (L++M) i=match fq L i with|some f=>some f|none=>fq M (i+L.length)
 |[],_,_=>rfl|x::L,M,i=>by
  rw[wK,fq,fq];by_cases h:jk x.1 x.2≠0
  ·rw[qX h,qX h]
  ·rw[qW h,qW h,zax L M,qL,Nat.add_assoc,Nat.add_comm 1]
def zi8(fu:Nat)(hfu:90000000<=fu)(z:Int×Int):∀(n:Nat)(t:TP)(d i:Nat),cm t<=n->cm t+d<=70000000->gd t->i+cm t<=70000000 ->
  ∃R,qau fu n t (d:Int) (i:Int) z=some R/\match fq (bn n t (d:Int)) i with
   |some f=>∃a,R = .inl (a,f)|none=>R = .inr (((i+(bn n t (d:Int)).length:Nat):Int),z):=by
 intro n
 induction n with
 |zero=>intro t d i h;have:=qcu t;omega|succ n ih=>
  intro t d i hz hd hs hi;have htp:=qcu t;rw[qau,qku,qs8];rw[show((t.val.1,t.val.2):List (Bs×Bs)×Bs)=t.val from rfl,d7,zic fu hfu t _ (zj1 hs),qB,bn,fq,fj]
  by_cases hc:jk t (d:Int)≠0
  ·rw[qX hc,qX hc,oz];exact⟨_,rfl,_,rfl⟩
  rw[qW hc,qW hc,qB];simp only[bq];rw[aw i]
  have loop:∀(m:Nat)(ab aa:List TP)(i:Nat),t.kids=ab++aa->aa.length<m->i+(aa.map cm).sum<=70000000 ->
    ∃R,qfz (qau fu n) fu m (d:Int) t.kids (t.kids.length:Int) (ab.length:Int) (i:Int) z=some R/\match fq (aa.flatMap fun k=>bn n k ((d:Int)+1)) i with
     |some f=>∃a,R = .inl (a,f)|none=>R = .inr (((i+(aa.flatMap fun k=>bn n k ((d:Int)+1)).length:Nat):Int),z):=by
   intro m
   induction m with
   |zero=>intro ab aa i _ h;omega|succ m ihm=>
    intro ab aa i hk h hi;have ac:t.kids.length=ab.length+aa.length:=by rw[hk];simp
    have hks:=yu t;rw[qfz,qtb]
    cases aa with
    |nil=>rw[ap (by simp only[qZ]at ac;omega)];exact⟨_,rfl,rfl⟩|cons k aa=>
     simp only[qL]at h ac;simp only[List.map_cons,List.sum_cons]at hi;have hkm:k∈t.kids:=by rw[hk];simp
     have hx:am t.kids (ab.length:Int)=some k:=by rw[hk];exact bm ab k aa
     have hkz:=qct hkm;have hfl:=qxa n k ((d:Int)+1);rw[ag,hx,qB,d7,aw d,List.flatMap_cons,zax]
     obtain⟨R,g1,g2⟩:=ih k (d+1) i (by omega) (by omega) (zj0 hs hkm) (by omega)
     rw[g1,qB];rw[show((d+1:Nat):Int)=(d:Int)+1 by omega]at g2
     cases hr:fq (bn n k ((d:Int)+1)) i with
     |some f=>
      rw[hr]at g2;obtain⟨a,rfl⟩:=g2;exact⟨_,rfl,a,rfl⟩
     |none=>
      rw[hr]at g2;simp only at g2;subst g2;simp only[bq];rw[aw _]
      have:=ihm (ab++[k]) aa (i+(bn n k ((d:Int)+1)).length) (by rw[hk];simp) (by omega) (by omega)
      rw[qM,wD]at this;rw[qM,← Nat.add_assoc];exact this
  have hks:=yu t;have hsum:(t.kids.map cm).sum+2<=cm t:=by cases t;rw[ta];show(List.map cm _).sum+2<=_;simp only[Tree.kids];omega
  obtain⟨R,g1,g2⟩:=loop fu [] t.kids (i+1) rfl (by omega) (by omega)
  refine⟨R,g1,?_⟩;rw[qL,show i+((t.kids.flatMap fun k=>bn n k ((d:Int)+1)).length+1)=i+1+(t.kids.flatMap fun k=>bn n k ((d:Int)+1)).length by omega]
  exact g2
def l7(n:Nat)(t:TP):Int×Int:=if 40<(bn n t 0).length then(2,-1) else if(bn n t 0).any (fun x=>decide (8<x.2))=true then(2,-2) else(fq (bn n t 0) 0).getD (0,0)
def zno(fu:Nat)(hfu:90000000<=fu)(t:TP)(hs:gd t):qfw fu t=some (l7 fu t):=by
 have hz:=hs.1;unfold qfw wm;simp only[d7,qB];obtain⟨R,g1,g2⟩:=zi7 fu hfu (0,0) fu t 0 0 false (by omega) (by omega) (by omega)
 rw[show((0:Nat):Int)=0 from rfl,zaw _ _ _ (by omega),wO]at g2
 rw[show((0:Nat):Int)=0 from rfl]at g1
 have e1:qks fu t (0,0) false=R.elim (fun a2=>some (.inl (t,a2.2))) (fun b3=>some (.inr (t,b3.2))):=by
  unfold qks q3o;simp only[d7];rw[g1,qB];cases R<;>rfl
 rw[e1];unfold l7;by_cases h4:40<(bn fu t 0).length
 ·rw[qX h4]at g2;obtain⟨a,b,rfl⟩:=g2;rw[qX h4];rfl
 rw[qW h4]at g2;simp only at g2;subst g2;rw[qW h4];simp only[Sum.elim_inr,qB,bq,Bool.false_or];cases hany:(bn fu t 0).any fun x=>decide (8<x.2)
 ·rw[ay rfl,qW (by simp)]
  obtain⟨R2,q1,q2⟩:=zi8 fu hfu (0,0) fu t 0 0 (by omega) (by omega) hs (by omega)
  rw[show((0:Nat):Int)=0 from rfl]at q1 q2
  have e2:qkw fu t (0,0)=R2.elim (fun a2=>some (.inl (t,a2.2))) (fun b3=>some (.inr (t,b3.2))):=by
   unfold qkw q3p;simp only[d7];rw[q1,qB];cases R2<;>rfl
  rw[e2]
  cases hr:fq (bn fu t 0) 0 with
  |some f=>
   rw[hr]at q2;obtain⟨a,rfl⟩:=q2;rfl
  |none=>rw[hr]at q2;simp only at q2;subst q2;rfl
 ·rw[au rfl,qX rfl];rfl
def q7d(fu:Nat)(hfu:90000000<=fu):∀(n:Nat)(t:TP)(d:Nat),cm t<=n->cm t+d<=70000000->cm t<=60000000 ->
  z7 fu n t (d:Int)=some ((bn n t (d:Int)).map (·.1),(bn n t (d:Int)).map (·.2)):=by
 have hrm:=lb;intro n
 induction n with
 |zero=>intro t d h;have:=qcu t;omega|succ n ih=>
  intro t d hz hd hs;rw[z7,qju,bn];simp only[d7];have hks:=yu t;have hsum:(t.kids.map cm).sum+2<=cm t:=by cases t;rw[ta];show(List.map cm _).sum+2<=_;simp only[Tree.kids];omega
  have loop:∀(m:Nat)(ab aa:List TP)(o:List (TP×Int)),t.kids=ab++aa->aa.length<m->o.length+(aa.map cm).sum<=70000000 ->
    qey (z7 fu n) fu m (d:Int) (ab.length:Int) t (o.map (·.1)) (o.map (·.2))=some ((o++aa.flatMap fun k=>bn n k ((d:Int)+1)).map (·.1),(o++aa.flatMap fun k=>bn n k ((d:Int)+1)).map (·.2)):=by
   intro m
   induction m with
   |zero=>intro ab aa o _ h;omega|succ m ihm=>
    intro ab aa o hk h ho;have ac:t.kids.length=ab.length+aa.length:=by rw[hk];simp
    rw[qey,qrg]
    cases aa with
    |nil=>rw[ap (by simp only[qZ]at ac;omega)];simp|cons k aa=>
     simp only[qL]at h ac;simp only[List.map_cons,List.sum_cons]at ho;have hkm:k∈t.kids:=by rw[hk];simp
     have hx:am t.kids (ab.length:Int)=some k:=by rw[hk];exact bm ab k aa
     have hkz:=qct hkm;have hfl:=qxa n k ((d:Int)+1);rw[ag,hx,qB,d7,aw d,ih k (d+1) (by omega) (by omega) (by omega),qB,show((d+1:Nat):Int)=(d:Int)+1 by omega]
     simp only[d7];rw[ag,ag,aw _,← List.map_append,← List.map_append]
     have:=ihm (ab++[k]) aa (o++bn n k ((d:Int)+1)) (by rw[hk];simp) (by omega) (by rw[qM];omega)
     rw[qM,wD]at this;rw[List.flatMap_cons,← qS];exact this
  have:=loop fu [] t.kids [(t,(d:Int))] rfl (by omega) (by simp;omega)
  exact this
def zmy(fu n:Nat)(hfu:90000000<=fu)(L:List (TP×Int))(hL:L.length<=40)(hs:∀x∈L,rx x.1.val)(z:Int×Int):∀(ab aa:List (TP×Int)),L=ab++aa->aa.length<n ->
  qe1 fu n (L.map (·.1)) (L.map (·.2)) (ab.length:Int) z=some ((fq aa ab.length).getD (0,0)):=by
 induction n with
 |zero=>intro ab aa _ h;omega|succ n ih=>
  intro ab aa hp h;have ac:L.length=ab.length+aa.length:=by rw[hp];simp
  rw[qe1,qrm]
  cases aa with
  |nil=>rw[ap (by rw[wC];simp only[qZ]at ac;omega)];rfl|cons x aa=>
   simp only[qL]at h ac
   have i1:am (L.map (·.1)) (ab.length:Int)=some x.1:=by
    have:=bm (ab.map (·.1)) x.1 (aa.map (·.1));rw[wC]at this;rw[hp,List.map_append,List.map_cons];exact this
   have i2:am (L.map (·.2)) (ab.length:Int)=some x.2:=by
    have:=bm (ab.map (·.2)) x.2 (aa.map (·.2));rw[wC]at this;rw[hp,List.map_append,List.map_cons];exact this
   have hx:=hs x (by rw[hp];simp)
   rw[ag (by rw[wC];omega),i1,qB,i2,qB,d7,zmu fu hfu x.1 x.2 hx,qB,fj,fq]
   by_cases hc:jk x.1 x.2≠0
   ·rw[qX hc,qX hc,ur];rfl
   ·rw[qW hc,qW hc,aw _]
    have:=ih (ab++[x]) aa (by rw[hp];simp) (by omega)
    rw[qM,wD]at this;exact this
def zmx(fu n:Nat)(hfu:90000000<=fu)(L:List (TP×Int))(hL:L.length<=40)(hs:∀x∈L,rx x.1.val)(z:Int×Int):∀(ab aa:List (TP×Int)),L=ab++aa->aa.length<n ->
  qe0 fu n (L.map (·.1)) (L.map (·.2)) (ab.length:Int) z=some (if aa.any (fun x=>decide (8<x.2))=true then(2,-2) else(fq L 0).getD (0,0)):=by
 induction n with
 |zero=>intro ab aa _ h;omega|succ n ih=>
  intro ab aa hp h;have ac:L.length=ab.length+aa.length:=by rw[hp];simp
  rw[qe0,qrl]
  cases aa with
  |nil=>
   rw[ap (by rw[wC];simp only[qZ]at ac;omega)]
   exact zmy fu fu hfu L hL hs z [] L rfl (by omega)
  |cons x aa=>
   simp only[qL]at h ac
   have i2:am (L.map (·.2)) (ab.length:Int)=some x.2:=by
    have:=bm (ab.map (·.2)) x.2 (aa.map (·.2));rw[wC]at this;rw[hp,List.map_append,List.map_cons];exact this
   rw[ag (by rw[wC];omega),i2,qB,cv,List.any_cons]
   by_cases hc:8<x.2
   ·rw[qX hc,ur,decide_eq_true hc,Bool.true_or,qX rfl];rfl
   ·rw[qW hc,decide_eq_false hc,Bool.false_or,aw _]
    have:=ih (ab++[x]) aa (by rw[hp];simp) (by omega)
    rw[qM,wD]at this;exact this
def zmv(fu:Nat)(hfu:90000000<=fu)(t:TP)(hs:gd t):qjw fu t=some (l7 fu t):=by
 unfold qjw qjt l7;simp only[d7];have hz:=hs.1;have:=q7d fu hfu fu t 0 (by omega) (by omega) hs.1
 rw[show((0:Nat):Int)=0 from rfl]at this
 rw[this,qB];simp only;rw[cv,wC];by_cases h4:40<(bn fu t 0).length
 ·rw[qX (by omega),qX h4,ur];rfl
 ·rw[qW (by omega),qW h4]
  exact zmx fu fu hfu _ (by omega) (fun x hx=>hs.2 fu 0 x hx) (0,0) [] _ rfl (by omega)

section sec
variable(fu:Nat)(hfu:90000000<=fu)(path:List Int)(hp:path.length<=2000000)(z:Int×Int)
include hfu hp
end sec
def zay:∀(L:List (TP×Int))(i:Nat)(f:Int×Int),fq L i=some f->f.1≠0/\∃x∈L,f.1=jk x.1 x.2
 |[],_,_,h=>by cases h
 |x::L,i,f,h=>by
  rw[fq]at h;by_cases hc:jk x.1 x.2≠0
  ·rw[qX hc]at h;cases h;exact⟨hc,x,qH,rfl⟩
  ·rw[qW hc]at h;obtain⟨h1,y,h2,h3⟩:=zay L _ _ h;exact⟨h1,y,qE _ h2,h3⟩
def zaz:∀(L:List (TP×Int))(i:Nat),fq L i=none->∀x∈L,jk x.1 x.2=0
 |[],_,_,x,hx=>by cases hx
 |y::L,i,h,x,hx=>by
  rw[fq]at h;split at h
  ·cases h
  ·rename_i hc;rcases List.mem_cons.1 hx with e|e
   ·rw[e];omega
   ·exact zaz L _ h x e
def qyn{fu:Nat}{t:TP}(h:(l7 fu t).1=0):(bn fu t 0).length<=40/\(∀x∈bn fu t 0,jk x.1 x.2=0)/\∀x∈bn fu t 0,x.2<=8:=by
 unfold l7 at h;split at h
 ·cases h
 ·rename_i h1;split at h
  ·cases h
  ·rename_i h2;have hn:fq (bn fu t 0) 0=none:=by
    cases hr:fq (bn fu t 0) 0 with|none=>rfl|some f=>rw[hr]at h;exact absurd h (zay _ _ f hr).1
   refine⟨by omega,fun x hx=>zaz _ _ hn x hx,fun x hx => ?_⟩
   have:¬(8<x.2):=fun q=>h2 (List.any_eq_true.2 ⟨x,hx,by simpa using q⟩)
   omega
def qn2{t:TP}{d:Int}(h:jk t d=0):t.val.1.length<=60/\(∀x∈t.val.1,x.1.length<=60/\x.2.length<=4000)/\(t.kids.length=0->t.val.2.length<=12000):=by
 unfold jk at h;split at h
 ·rename_i q;exact absurd h q
 ·rename_i q;obtain⟨_,h1,h2⟩:=zjj (l:=t.val.1) (by simpa using q)
  refine⟨h1,fun x hx=>⟨(q86 (h2 x hx)).1,(q86 (h2 x hx)).2.1⟩,fun h0 => ?_⟩
  rw[qW (by omega)]at h
  split at h
  ·cases h
  ·omega
abbrev n9:Bs:=[67,111,110,116,101,110,116,45,68,105,115,112,111,115,105,116,105,111,110]
abbrev cdn:Bs:=[99,111,110,116,101,110,116,45,100,105,115,112,111,115,105,116,105,111,110]
abbrev fnN:Bs:=[102,105,108,101,110,97,109,101]
abbrev f8:Bs:=[110,97,109,101]
def ek(l:List bj):dt:=match gm l with|some m=>m|none=>([116,101,120,116],([112,108,97,105,110],[]))
def zca(l:List bj):ru (ek l)/\(fe (ek l)).1=0:=by
 unfold ek
 cases h:gm l with
 |none=>exact⟨⟨by simp,by simp,by simp[jg]⟩,by decide +kernel⟩|some m=>
  unfold gm at h;split at h
  ·exact qyq h
  ·cases h
def zrs(fu:Nat)(hfu:90000000<=fu)(t:TP)(hl:t.val.1.length<=4000000)(hs:∀x∈t.val.1,x.1.length<=4000000/\x.2.length<=4000000):qaz fu t=some (ek t.val.1):=by
 obtain⟨R,g1,g2⟩:=qzu fu hfu t.val.1 hs hl;unfold qaz ek;rw[g1,qB]
 cases h:gm t.val.1 with
 |none=>
  rw[h]at g2;obtain⟨k,rfl⟩:=g2;rfl
 |some m=>
  rw[h]at g2;obtain⟨ab,x,aa,_,_,_,_,_,rfl⟩:=g2;rfl
def mr:List Bs->Option Bs
 |[]=>none|v::vs=>match gu ([120,47]++v) with|some m=>if(bp m.2.2 fnN).2=true then some (bp m.2.2 fnN).1 else mr vs|none=>mr vs
def qbw(l:List bj):Bs×Bool:=match mr (cn l n9) with|some s=>(s,true)|none=>bp (ek l).2.2 f8
def Fv(t:TP):Prop:=t.val.1.length<=60/\∀x∈t.val.1,x.1.length<=60/\x.2.length<=4000
def zcf(fu:Nat)(hfu:90000000<=fu)(m:dt)(nm:Bs)(hn:nm.length<=4000000)(hs:ru m)(h0:(fe m).1=0):po fu m nm=some ((bp m.2.2 nm).1,((bp m.2.2 nm).2,(0,0))):=by
 rw[qx2 fu hfu m nm hn hs,qW (by simpa using h0)]
def zrr(fu n:Nat)(hfu:90000000<=fu)(t:TP)(ht:Fv t):∀(ab aa:List bj),aa.length<n->ab.length+aa.length<100000000->(∀x∈aa,x.1.length<=60/\x.2.length<=4000) ->
  qay fu n (ab++aa) ((ab.length+aa.length:Nat):Int) (ab.length:Int) t=some (match mr (cn aa n9) with
   |some s=>(s,true)| none=>bp (ek t.val.1).2.2 f8):=by
 induction n with
 |zero=>intro ab aa h;omega|succ n ih=>
  intro ab aa h hb hs;rw[qay,qu1];simp only[d7]
  cases aa with
  |nil=>
   obtain⟨y1,y2⟩:=zca t.val.1;rw[ap,zrs fu hfu t (by have:=ht.1;omega) (fun x hx=>by have:=ht.2 x hx;omega),qB,zcf fu hfu _ _ (by simp) y1 y2,qB]
   rfl
  |cons y aa=>
   simp only[qL]at h hb;obtain⟨y1,y2⟩:=hs y qH;have ih:=ih (ab++[y]) aa (by omega) (by simp;omega) (fun x hx=>hs x (qE _ hx))
   simp only[qM,qL,qZ,qS,wM,wO]at ih;have p1:ua fu (qay fu n) (ab++y::aa) ((ab.length+(y::aa).length:Nat):Int) (ab.length:Int) t=some (match mr (cn aa n9) with
     |some s=>(s,true)| none=>bp (ek t.val.1).2.2 f8):=by
    unfold ua;simp only[d7];rw[aw _,show ab.length+(y::aa).length=ab.length+1+aa.length by simp only[qL];omega]
    exact ih
   rw[ag (by simp only[qL];omega),bm,qB,qr fu hfu _ _ (by omega) (by simp),qB,ve]
   cases e:lk y.1 n9
   ·rw[dh,qW (by show ¬lk y.1 n9=true;rw[e];simp)]
    exact p1
   ·rw[cf,qX (show(y.1.map lo==n9.map lo)=true from e),ag (by simp only[aq,qL,qZ];omega)]
    obtain⟨R,g1,g2⟩:=q8e fu hfu ([120,47]++y.2) (by simp only[qM,qL,qZ];omega)
    rw[g1,qB,mr]
    cases hp:gu ([120,47]++y.2) with
    |none=>
     rw[hp]at g2;obtain⟨f,rfl,hf⟩:=g2;simp only[bq];rw[qd,qB,fj,qX hf];exact p1
    |some m=>
     rw[hp]at g2;simp only at g2;subst g2;obtain⟨m1,m2⟩:=qyq hp;simp only[bq];rw[qd,qB,fj,qW (by simp),show((m.1,(m.2.1,m.2.2)):dt)=m from rfl,zcf fu hfu m _ (by simp) m1 m2,qB]
     cases hq:(bp m.2.2 fnN).2
     ·rw[qW (by simp)]
      simp only;rw[ay rfl];exact p1
     ·rw[qX rfl];simp only;rw[au rfl]
def zrq(fu:Nat)(hfu:90000000<=fu)(t:TP)(ht:Fv t):qli fu t=some (qbw t.val.1):=by
 have h:=zrr fu fu hfu t ht [] t.val.1 (by have:=ht.1;omega) (by have:=ht.1;simp;omega) ht.2
 unfold qli qbw;simp only[d7];simpa using h
def ig(t:TP):List Bs:=if t.kids.length=0/\(qbw t.val.1).2=true then[(qbw t.val.1).1] else[]
def qm0(t:TP):(ig t).length<=1:=by unfold ig;split<;>simp
def zfe(fu:Nat)(hfu:90000000<=fu)(i:Int)(t:TP)(ht:Fv t)(out:List Bs)(ho:out.length<=100000000:=by omega):qlh fu i t.val.1 t.val.2 t.kids out=some (out++ig t):=by
 unfold qlh ig;rw[show((Tree.node (t.val.1,t.val.2) t.kids:TP))=t from d7 t,zrq fu hfu t ht,qB]
 cases h:(qbw t.val.1).2
 ·rw[ay rfl,qW (by simp),List.append_nil]
 ·rw[au rfl,iy];by_cases hk:t.kids.length=0
  ·rw[qX (by omega),ag (by simp only[bg,qM,qL,qZ];omega),qX ⟨hk,rfl⟩]
  ·rw[qW (by omega),qW (fun q=>hk q.1),List.append_nil]
def zi9(fu:Nat)(hfu:90000000<=fu):∀(n:Nat)(t:TP)(d i:Nat)(out:List Bs),cm t<=n->cm t+d<=70000000->(∀x∈bn n t (d:Int),Fv x.1)->i+cm t<=70000000->out.length+(bn n t (d:Int)).length<=90000000 ->
  qav fu n t (d:Int) (i:Int) out=some (((i+(bn n t (d:Int)).length:Nat):Int),out++(bn n t (d:Int)).flatMap fun x=>ig x.1):=by
 intro n
 induction n with
 |zero=>intro t d i out h;have:=qcu t;omega|succ n ih=>
  intro t d i out hz hd hs hi ho;have htp:=qcu t;have hft:Fv t:=hs (t,(d:Int)) (by rw[bn];exact qH)
  have ac:=qm0 t;rw[bn]at hs ho ⊢;rw[qL]at ho;rw[qav,qkv,qs5,zfe fu hfu _ t hft out,qB,qB,aw i]
  have loop:∀(m:Nat)(ab aa:List TP)(i:Nat)(out:List Bs),t.kids=ab++aa->aa.length<m->i+(aa.map cm).sum<=70000000->(∀x∈aa.flatMap fun k=>bn n k ((d:Int)+1),Fv x.1)->out.length+(aa.flatMap fun k=>bn n k ((d:Int)+1)).length<=90000000 ->
    qf0 (qav fu n) fu m (d:Int) t.kids (t.kids.length:Int) (ab.length:Int) (i:Int) out=some (((i+(aa.flatMap fun k=>bn n k ((d:Int)+1)).length:Nat):Int),out++(aa.flatMap fun k=>bn n k ((d:Int)+1)).flatMap fun x=>ig x.1):=by
   intro m
   induction m with
   |zero=>intro ab aa i out _ h;omega|succ m ihm=>
    intro ab aa i out hk h hi hf ho;have ac:t.kids.length=ab.length+aa.length:=by rw[hk];simp
    have hks:=yu t;rw[qf0,qtf]
    cases aa with
    |nil=>rw[ap (by simp only[qZ]at ac;omega)];simp|cons k aa=>
     simp only[qL]at h ac;simp only[List.map_cons,List.sum_cons]at hi;have hkm:k∈t.kids:=by rw[hk];simp
     have hx:am t.kids (ab.length:Int)=some k:=by rw[hk];exact bm ab k aa
     have hkz:=qct hkm;have hfl:=qxa n k ((d:Int)+1);rw[List.flatMap_cons,qM]at ho;rw[List.flatMap_cons]at hf;have hlk:((bn n k ((d:Int)+1)).flatMap fun x=>ig x.1).length<=(bn n k ((d:Int)+1)).length:=by
      have:∀L:List (TP×Int),(L.flatMap fun x=>ig x.1).length<=L.length:=by
       intro L
       induction L with
       |nil=>simp|cons x L ih=>
        have h1:=qm0 x.1;rw[List.flatMap_cons,qM,qL];omega
      exact this _
     rw[ag,hx,qB,d7,aw d,List.flatMap_cons]
     have g1:=ih k (d+1) i out (by omega) (by omega) (fun x hx=>hf x (List.mem_append_left _ (by rw[show((d+1:Nat):Int)=(d:Int)+1 by omega]at hx;exact hx))) (by omega) (by rw[show((d+1:Nat):Int)=(d:Int)+1 by omega];omega)
     rw[g1,qB,show((d+1:Nat):Int)=(d:Int)+1 by omega,aw _]
     have:=ihm (ab++[k]) aa (i+(bn n k ((d:Int)+1)).length) (out++(bn n k ((d:Int)+1)).flatMap fun x=>ig x.1) (by rw[hk];simp) (by omega) (by omega) (fun x hx=>hf x (List.mem_append_right _ hx)) (by rw[qM];omega)
     rw[qM,wD]at this;rw[this,qM,List.flatMap_append,qS,Nat.add_assoc]
  have hks:=yu t;have hsum:(t.kids.map cm).sum+2<=cm t:=by cases t;rw[ta];show(List.map cm _).sum+2<=_;simp only[Tree.kids];omega
  have:=loop fu [] t.kids (i+1) (out++ig t) rfl (by omega) (by omega) (fun x hx=>hs x (qE _ hx)) (by rw[qM];omega)
  rw[show((([]:List TP).length:Nat):Int)=0 from rfl]at this
  rw[this,List.flatMap_cons,qS,qL,show i+1+(t.kids.flatMap fun k=>bn n k ((d:Int)+1)).length=i+((t.kids.flatMap fun k=>bn n k ((d:Int)+1)).length+1) by omega]
def qbx(n:Nat)(t:TP):List Bs:=(bn n t 0).flatMap fun x=>ig x.1
def zfd(fu:Nat)(hfu:90000000<=fu)(t:TP)(hs:gd t):qgb fu t=some (if(l7 fu t).1≠0 then(l7 fu t,[]) else((0,0),qbx fu t)):=by
 unfold qgb;simp only[d7];rw[zno fu hfu t hs,qB,qd,qB,fj];by_cases h:(l7 fu t).1≠0
 ·rw[qX h,qX h]
 ·rw[qW h,qW h];obtain⟨q1,q2,_⟩:=qyn (show(l7 fu t).1=0 by simpa using h)
  have hz:=hs.1;unfold qkn;simp only[d7];rw[qB];unfold qs6 wm qtg q3r;simp only[d7,qB];have:=zi9 fu hfu fu t 0 0 [] (by omega) (by omega) (fun x hx=>⟨(qn2 (q2 x hx)).1,(qn2 (q2 x hx)).2.1⟩) (by omega) (by rw[show((0:Nat):Int)=0 from rfl];simp only[qZ];omega)
  rw[show((0:Nat):Int)=0 from rfl]at this
  rw[this];simp only[qB,d7];rfl
-- the document's names
def zrl(l:List bj):cn l cdn=cn l n9:=rfl
def zoi(fu:Nat)(hfu:90000000<=fu)(r0:List TP->Int->List Bs->Option (List Bs))(L:List TP)(i:Nat)(y:TP)(hy:am L (i:Int)=some y)(hs:jw y.val.1)(hi:i<1000000000)(out:List Bs)(ho:out.length<=100000000)(n:Nat) :
  ∀(ab aa:List Bs)(nm:Bs),aa.length+1<n->ab.length+aa.length<100000000->(∀v∈aa,v.length<=4000) ->
   tr fu r0 n L (i:Int) nm false (ab.length:Int) (ab++aa) out=r0 L ((i+1:Nat):Int) (out++match mr aa with
    |some s=>[s]| none=>if(bp (ek y.val.1).2.2 f8).2=true then[(bp (ek y.val.1).2.2 f8).1] else[]):=by
 have hrm:=lb;have hfin:∀(r1:List TP->Int->Bs->Bool->Int->List Bs->List Bs->Option (List Bs))(nm:Bs)(k:Int)(w:List Bs),tu fu r0 r1 L (i:Int) nm false k false w out=r0 L ((i+1:Nat):Int) (out++if(bp (ek y.val.1).2.2 f8).2=true then[(bp (ek y.val.1).2.2 f8).1] else[]):=fun r1 nm k w=>by
  unfold tu;rw[ay rfl,dh,hy,qB,qzt fu hfu y.val.1 hs,qB];have hm:∀m:dt,jg m.2.2->bp m.2.2 f8=bp (ek y.val.1).2.2 f8->((vv fu m f8).bind fun x3=>bif x3.2 then bif decide (List.length (out++([x3.1]:List Bs))<=bg) then r0 L (af ((i:Int)+(1:Int))) (out++([x3.1]:List Bs)) else none else r0 L (af ((i:Int)+(1:Int))) out)
    = r0 L ((i+1:Nat):Int) (out++if(bp (ek y.val.1).2.2 f8).2=true then[(bp (ek y.val.1).2.2 f8).1] else[]):=fun m hm e=>by
   rw[qhy fu hfu m _ (by simp) hm,qB,e,aw i]
   cases h:(bp (ek y.val.1).2.2 f8).2
   ·rw[ay rfl,qW (by simp),List.append_nil]
   ·rw[au rfl,ag (by simp only[qM,qL,qZ];omega),qX rfl]
  cases ht:gm y.val.1 with
  |none=>
   simp only;exact hm ([],([],[])) (by simp[jg]) (by unfold ek;rw[ht])
  |some m=>
   simp only;have hsz:=(zca y.val.1).1;have e:ek y.val.1=m:=by unfold ek;rw[ht]
   rw[e]at hsz;exact hm m hsz.2.2 (by rw[e])
 induction n with
 |zero=>intro ab aa nm h;omega|succ n ih=>
  intro ab aa nm h hb hs;rw[tr,qjs]
  cases aa with
  |nil=>rw[ap,hfin];rfl|cons v aa=>
   simp only[qL]at h hb;have hv:=hs v qH;have ih:=fun nm=>ih (ab++[v]) aa nm (by omega) (by simp;omega) (fun x hx=>hs x (qE _ hx))
   simp only[qM,qL,qZ,qS,wM,wO]at ih;have hg:0<=(ab.length:Int)/\(ab.length:Int).toNat<List.length (ab++v::aa):=by simp
   have hget:(ab++v::aa)[((ab.length:Nat):Int).toNat]? = some v:=by simp
   rw[ag (by simp only[qM,qL];omega),tu,show(!false)=true from rfl,au rfl,qrf,ag hg,hget,qB,ag (by simp only[aq,qL,qZ];omega),
    q8p fu hfu _ (by simp only[qM,qL,qZ];omega),qB,mr]
   have next:∀nm:Bs,z6 fu r0 (tr fu r0 n) L (i:Int) nm false (ab.length:Int) out (ab++v::aa)=r0 L ((i+1:Nat):Int) (out++match mr aa with
     |some s=>[s]| none=>if(bp (ek y.val.1).2.2 f8).2=true then[(bp (ek y.val.1).2.2 f8).1] else[]):=fun nm=>by
    unfold z6;rw[aw _,ih nm]
   have miss:∀m:dt,wd fu r0 (tr fu r0 n) L (i:Int) nm false (ab.length:Int) false out (ab++v::aa) m=r0 L ((i+1:Nat):Int) (out++match mr aa with
     |some s=>[s]| none=>if(bp (ek y.val.1).2.2 f8).2=true then[(bp (ek y.val.1).2.2 f8).1] else[]):=fun m=>by
    unfold wd;rw[ay rfl,next]
   cases hmd:ql ([120,47]++v) with
   |none=>
    have hp:gu ([120,47]++v)=none:=by
     unfold gu;rw[hmd];split<;>rfl
    rw[hp];simp only;rw[show bad.2=false from rfl,ay rfl,miss]
   |some m=>
    simp only;have hsz:=qnt hmd (by simp only[qM,qL,qZ];omega)
    rw[au rfl,ag hg,qB];by_cases h39:(v.length:Int)<=3998
    ·rw[ag h39,zal fu hfu m hsz,qB];have h4:¬4000<([120,47]++v).length:=by simp only[qM,qL,qZ];omega
     by_cases h0:(fe m).1=0
     ·have hp:gu ([120,47]++v)=some m:=by
       unfold gu;rw[qW h4,hmd];simp only;rw[qW (by simpa using h0)]
      rw[hp,h0,show((0:Int)==0)=true from rfl]
      simp only;unfold wd;rw[au rfl,qhy fu hfu m _ (by simp) hsz.2.2,qB]
      cases hq:(bp m.2.2 fnN).2
      ·rw[qW (by simp),next]
      ·rw[qX rfl];unfold z6;rw[aw _]
       obtain⟨n,rfl⟩:∃k,n=k+1:=⟨n-1,by omega⟩
       rw[tr,qjs];have hend:∀(r1:List TP->Int->Bs->Bool->Int->List Bs->List Bs->Option (List Bs))(k:Int)(w:List Bs),tu fu r0 r1 L (i:Int) (bp m.2.2 fnN).1 true k false w out=r0 L ((i+1:Nat):Int) (out++[(bp m.2.2 fnN).1]):=fun r1 k w=>by
        unfold tu;rw[ay rfl,cf,au rfl,ag (by simp only[qM,qL,qZ];omega),aw i]
       rw[show(!true)=false from rfl]
       by_cases hl:((ab.length+1:Nat):Int)<((ab++v::aa).length:Int)
       ·rw[ag hl];exact hend _ _ _
       ·rw[ap hl];exact hend _ _ _
     ·have hp:gu ([120,47]++v)=none:=by
       unfold gu;rw[qW h4,hmd];simp only;rw[qX h0]
      have h0':((fe m).1==0)=false:=by rw[beq_eq_false_iff_ne];exact h0
      rw[hp,h0',miss]
    ·have hp:gu ([120,47]++v)=none:=by
      unfold gu;rw[qX (by simp only[qM,qL,qZ];omega)]
     rw[ap h39,hp,miss]
def zoj(fu:Nat)(hfu:90000000<=fu)(n:Nat):∀(ab aa:List TP)(out:List Bs),aa.length<n->ab.length+aa.length<100000000->(∀x∈aa,Fv x)->out.length+aa.length<=100000000 ->
  zz fu n (ab++aa) (ab.length:Int) out=some (out++aa.flatMap ig):=by
 induction n with
 |zero=>intro ab aa out h;omega|succ n ih=>
  intro ab aa out h hb hs ho;rw[zz,qre]
  cases aa with
  |nil=>rw[ap];simp|cons y aa=>
   simp only[qL]at h hb ho;have hy:=hs y qH;have hl:=qm0 y;have ih:=ih (ab++[y]) aa (out++ig y) (by omega) (by simp;omega) (fun x hx=>hs x (qE _ hx)) (by rw[qM];omega)
   simp only[qM,qL,qZ,qS,wM,wO]at ih;rw[ag (by simp only[qM,qL];omega),bm,qB,List.flatMap_cons]
   by_cases hk:(0:Int)<(y.kids.length:Int)
   ·have e:ig y=[]:=by unfold ig;rw[qW (by omega)]
    rw[ag hk,aw _]
    rw[e,List.append_nil]at ih;rw[e,List.nil_append];exact ih
   ·have hsf:jw y.val.1:=⟨by have:=hy.1;omega,fun x hx=>by have:=hy.2 x hx;omega⟩
    rw[ap hk,qB,qzw fu hfu _ _ (by simp) hsf,qB,zrl]
    have hvl:=zrm y.val.1 n9;have hv1:=hy.1;have:=zoi fu hfu (zz fu n) (ab++y::aa) ab.length y (bm ab y aa) hsf (by omega) out (by omega) fu [] (cn y.val.1 n9) [] (by omega) (by simp;omega) (fun v hv=>by
     unfold cn at hv;obtain⟨x,hx,rfl⟩:=List.mem_map.1 hv;exact(hy.2 x (List.mem_filter.1 hx).1).2)
    simp only[List.nil_append,qZ]at this;rw[show((0:Nat):Int)=0 from rfl]at this
    rw[this];have e:(match mr (cn y.val.1 n9) with
      |some s=>[s]| none=>if(bp (ek y.val.1).2.2 f8).2=true then[(bp (ek y.val.1).2.2 f8).1] else[])=ig y:=by
     unfold ig qbw
     cases mr (cn y.val.1 n9) with
     |some s=>simp only;rw[qX ⟨by omega,trivial⟩]|none=>
      simp only;by_cases hq:(bp (ek y.val.1).2.2 f8).2=true
      ·rw[qX hq,qX ⟨by omega,hq⟩]
      ·rw[qW hq,qW (fun z=>hq z.2)]
    rw[e];exact ih
def zjk(fu:Nat)(hfu:90000000<=fu)(t:TP)(hs:gd t)(hp:(l7 fu t).1=0):qjr fu t=some (qbx fu t):=by
 have hz:=hs.1;obtain⟨q1,q2,_⟩:=qyn hp;unfold qjr qjt qbx;simp only[d7];have h:=q7d fu hfu fu t 0 (by omega) (by omega) (by omega)
 rw[show((0:Nat):Int)=0 from rfl]at h
 rw[h,qB];simp only
 have:=zoj fu hfu fu [] ((bn fu t 0).map (·.1)) [] (by rw[wC];omega) (by simp;omega) (fun x hx=>by
  obtain⟨z,hz,rfl⟩:=List.mem_map.1 hx;exact⟨(qn2 (q2 z hz)).1,(qn2 (q2 z hz)).2.1⟩) (by simp;omega)
 simp only[List.nil_append,qZ]at this;rw[show((0:Nat):Int)=0 from rfl]at this
 rw[this,List.flatMap_map]
def zqb(fu n:Nat):∀(ab aa:List Bs),aa.length<n->ab.length+aa.length<100000000->qeb fu n (ab++aa) (ab++aa) (ab.length:Int)=some true:=by
 induction n with
 |zero=>intro ab aa h;omega|succ n ih=>
  intro ab aa h hb;rw[qeb,qqo]
  cases aa with
  |nil=>rw[ap]|cons y aa=>
   simp only[qL]at h hb;have ih:=ih (ab++[y]) aa (by omega) (by simp;omega)
   simp only[qM,qL,qZ,qS,wM,wO]at ih;rw[ag (by simp only[qM,qL];omega),bm,qB,qB,show(y==y)=true by simp,cf,aw _]
   exact ih
def zqa(fu:Nat)(l:List Bs)(h:l.length<fu:=by omega)(hb:l.length<100000000:=by omega):qea fu l l=some true:=by
 unfold qea;rw[fj,qW (by simp)]
 have:=zqb fu fu [] l h (by simpa using hb)
 simpa using this
def zrp:qro 100000000=some true:=by kernel_rfl
def zjl(n:Nat)(t:TP):(qbx n t).length<=(bn n t 0).length:=by
 unfold qbx;have:∀L:List (TP×Int),(L.flatMap fun x=>ig x.1).length<=L.length:=by
  intro L
  induction L with
  |nil=>simp|cons x L ih=>
   have h1:=qm0 x.1;rw[List.flatMap_cons,qM,qL];omega
 exact this _
def zlb(t:TP)(hs:gd t):qac 100000000 t=some true:=by
 unfold qac;simp only[d7];rw[zrp,qB,cf,zfd _ (by omega) t hs,qB,zmv _ (by omega) t hs,qB,fj]
 by_cases h:(l7 100000000 t).1≠0
 ·rw[qX h,qX h,au];rfl
 ·have h0:(l7 100000000 t).1=0:=by simpa using h
  have hl:=zjl 100000000 t;obtain⟨q1,_,_⟩:=qyn h0;rw[qW h,qW h,iy,qX rfl,zjk _ (by omega) t hs h0,qB,zqa _ (qbx 100000000 t)];rfl
def zlc(x:TP×Unit)(h:bks [.tree τP] x<=1048576):qac 100000000 x.1=some true:=by
 obtain⟨t,_⟩:=x;have h:cm t+0<=1048576:=h;exact zlb t (zjz)
end Go.Sym
