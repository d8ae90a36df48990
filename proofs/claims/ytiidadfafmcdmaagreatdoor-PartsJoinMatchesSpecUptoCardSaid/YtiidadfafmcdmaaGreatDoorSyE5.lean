/- What the claim rests on, part 5: gathered texts. -/
import Derived.Sort.AssemblyPlain
import Derived.Test.YtiidadfafmcdmaaGreatDoorSyE3
set_option maxRecDepth 100000
set_option linter.defProp false
set_option linter.unusedSimpArgs false
set_option linter.unusedVariables false
namespace Go.Sym
def eg{x:Int}(h1 : -9223372036854775808<=x:=by omega)(h2:x<9223372036854775808:=by omega):af x=x:=by
 unfold af IntKind.wrap;simp[IntKind.signed,IntKind.bits];omega
def aw{α:Type}{b:Bool}{x y:α}(h:b=true:=by first|rfl|simp;done):(bif b then x else y)=x:=by subst h;rfl
def ay{α:Type}{b:Bool}{x y:α}(h:b=false):(bif b then x else y)=y:=by subst h;rfl
def cq{α:Type}{p:Prop}[Decidable p]{x y:α}:(bif decide p then x else y)=if p then x else y:=by by_cases h:p<;>simp[h]
def ag{α:Type}{p:Prop}[Decidable p]{x y:α}(h:p:=by first|omega|simp;done|simp;omega):(bif decide p then x else y)=x:=aw (decide_eq_true h)
def aq{α:Type}{p:Prop}[Decidable p]{x y:α}(h:¬p:=by first|omega|simp;done|simp;omega):(bif decide p then x else y)=y:=ay (decide_eq_false h)
def q88{α:Type}{b:Bool}{x y:α}:(bif !b then x else y)=if b=false then x else y:=by cases b<;>rfl
def fp{α:Type}{a b:Int}{x y:α}:(bif a != b then x else y)=if a≠b then x else y:=by
 by_cases h:a=b
 ·rw[ay (by simp[h]),qW (by simp[h])]
 ·rw[aw (by simp[h]),qX h]
def jb{α:Type}{a b:Int}{x y:α}:(bif a==b then x else y)=if a=b then x else y:=by
 by_cases h:a=b
 ·rw[aw (by simp[h]),qX h]
 ·rw[ay (by simp[h]),qW h]
def lg{α:Type}{a b:UInt8}{x y:α}:(bif a==b then x else y)=if a=b then x else y:=by
 by_cases h:a=b
 ·rw[aw (by simp[h]),qX h]
 ·rw[ay (by simp[h]),qW h]
def qch{α:Type}{a b:UInt8}{x y:α}:(bif a != b then x else y)=if a≠b then x else y:=by
 by_cases h:a=b
 ·rw[ay (by simp[h]),qW (by simp[h])]
 ·rw[aw (by simp[h]),qX h]
def q2g{α:Type}{p:Prop}[Decidable p]{x y:α}:(if p then some x else some y)=some (if p then x else y):=by split<;>rfl
def iy{α β:Type}(l:List α)(i:Int)(f:α->Option β):(bif decide (0<=i/\i.toNat<List.length l) then(l[i.toNat]?).bind f else none)=(am l i).bind f:=by
 unfold am;by_cases h:0<=i
 ·by_cases h2:i.toNat<l.length
  ·simp[h,h2]
  ·simp[h,h2]
 ·simp[h]
def vm{α:Type}(l:List α)(k:Nat)(h:k<l.length):am l (k:Int)=some l[k]:=by
 unfold am;rw[qX (by omega)];simp[h]
def bg{α:Type}(ab:List α)(c:α)(aa:List α):am (ab++c::aa) (ab.length:Int)=some c:=by
 unfold am;rw[qX (by omega)];simp
def qz{α:Type}(ab:List α)(c:α)(aa:List α):(ab++c::aa)[((ab.length:Nat):Int).toNat]? = some c:=by simp
def qqs{α:Type}(ab:List α)(c d:α)(aa:List α):List.set (ab++c::aa) ((ab.length:Nat):Int).toNat d=ab++d::aa:=by simp
def au(k:Nat)(h:k<9223372036854775807:=by omega):af ((k:Int)+1)=((k+1:Nat):Int):=by rw[eg];omega
def jl(P:UInt8->Prop)(h:∀n:_root_.Fin 256,P (UInt8.ofNat n.val))(c:UInt8):P c:=by
 have:=h ⟨c.toNat,c.toNat_lt⟩;simpa using this
def lo(c:UInt8):UInt8:=if 65<=c/\c<=90 then c+32 else c
def bl(c:UInt8):Bool:=c==32||c==9
def ik(l:List UInt8):List UInt8:=(l.reverse.dropWhile bl).reverse
def bf(l:List UInt8):List UInt8:=l.dropWhile bl
def sf(l:List UInt8):List UInt8:=ik (bf l)
def qjo(t:List UInt8)(c:UInt8):ik (t++[c])=if bl c then ik t else t++[c]:=by
 unfold ik;rw[List.reverse_append,List.reverse_singleton,wM,List.dropWhile];cases bl c
 ·simp
 ·simp
def p6(n:Nat)(h:n<1000000000:=by omega):af (((n+1:Nat):Int)-1)=(n:Int):=by rw[eg];omega
def qda{α:Type}(t:List α)(c:α):am (t++[c]) (t.length:Int)=some c:=bg t c []
def qqy{α:Type}(t:List α)(c:α):List.take ((t.length:Nat):Int).toNat (t++[c])=t:=by simp
def ph{α:Type}(t:List α)(c:α):((t++[c]).length:Int)=((t.length+1:Nat):Int):=by simp
def y5{α:Type}(ab:List α)(aa:List α):List.drop ((ab.length:Nat):Int).toNat (ab++aa)=aa:=by simp
def z7{α:Type}(ab:List α)(aa:List α):List.take ((ab.length:Nat):Int).toNat (ab++aa)=ab:=by simp
def qoq{α:Type}(ab:List α)(c:α)(aa:List α):List.drop ((ab.length+1:Nat):Int).toNat (ab++c::aa)=aa:=by
 rw[show((ab.length+1:Nat):Int).toNat=(ab++[c]).length by simp,show ab++c::aa=(ab++[c])++aa by simp]
 simp
def c7{α:Type}(ab:List α)(c:α)(aa:List α):((ab++c::aa).length:Int)=((ab.length+aa.length+1:Nat):Int):=by simp;omega
def qde{α:Type}(ab:List α)(aa:List α):((ab++aa).length:Int)=((ab.length+aa.length:Nat):Int):=by simp
def qc8(k:UInt8)(t r:List UInt8)(h:∀x∈t,x≠k):Lib.indexByte (t++k::r) k=(t.length:Int):=by
 induction t with
 |nil=>simp[Lib.indexByte]|cons c t ih=>
  have hc:=h c qH;rw[wK,Lib.indexByte,ih (fun x hx=>h x (qE _ hx)),qW (by simpa using hc),qW (by simp<;>omega)]
  simp
def qc9(k:UInt8)(t:List UInt8)(h:∀x∈t,x≠k):Lib.indexByte t k = -1:=by
 induction t with
 |nil=>rfl|cons c t ih=>
  have hc:=h c qH;rw[Lib.indexByte,ih (fun x hx=>h x (qE _ hx)),qW (by simpa using hc),qX (by decide)]
def zy(k:UInt8):∀(s:List UInt8),(∃t r,s=t++k::r/\∀x∈t,x≠k)\/∀x∈s,x≠k
 |[] => .inr (fun _ h=>by cases h)
 |c::s=>by
  by_cases hc:c=k
  ·subst hc;exact .inl ⟨[],s,rfl,fun _ h=>by cases h⟩
  ·rcases zy k s with⟨t,r,rfl,h⟩|h
   ·exact .inl ⟨c::t,r,rfl,fun x hx=>(List.mem_cons.1 hx).elim (fun e=>e▸hc) (h x)⟩
   ·exact .inr fun x hx=>(List.mem_cons.1 hx).elim (fun e=>e▸hc) (h x)
def zbo(k:UInt8)(s:List UInt8):(0<=Lib.indexByte s k)↔k∈s:=by
 rcases zy k s with⟨t,r,rfl,h⟩|h
 ·rw[qc8 k t r h];simp
 ·rw[qc9 k s h];constructor
  ·intro h;omega
  ·intro hk;exact absurd rfl (h k hk)
def dx{α:Type}{x y:α}:(bif !false then x else y)=x:=rfl
def ci{α:Type}{x y:α}:(bif !true then x else y)=y:=rfl
def qn7(a b:UInt8):(a==b)=(b==a):=by
 by_cases h:a=b
 ·rw[h]
 ·rw[beq_false_of_ne h,beq_false_of_ne (Ne.symm h)]
def q9e{a b:Nat}(h:a<b):Nat.blt a b=true:=Nat.ble_eq_true_of_le h
def q9d{a b:Nat}(h:¬a<b):Nat.blt a b=false:=by
 cases hq:Nat.blt a b
 ·rfl
 ·exact absurd (Nat.le_of_ble_eq_true hq) h
def qz8(l:List UInt8)(k:Nat)(c:UInt8)(h:l[k]? = some c):(⟨l.toArray⟩:ByteArray).get! k=c:=by
 obtain⟨hk,rfl⟩:=List.getElem?_eq_some_iff.1 h;show(l.toArray)[k]! = _;simp[hk]
def zvt(l:List UInt8):(⟨l.toArray⟩:ByteArray).size=l.length:=by simp[ByteArray.size]
def zd8(s:List UInt8)(p:Nat)(c:UInt8)(h:s[p]? = some c)(hc:c.toNat<128):e9 s p=(c.toNat,1):=by
 unfold e9 Utf8.decode;simp only[Nat.add_zero,qz8 s p c h,hc,if_true]
def zt0(s:List UInt8)(p:Nat)(c:UInt8)(h:s[p]? = some c)(hc:128<=c.toNat):128<=(e9 s p).1/\1<=(e9 s p).2/\∀j,j<(e9 s p).2->∃d,s[p+j]? = some d/\128<=d.toNat:=by
 have hn:¬c.toNat<128:=by omega
 have cont:∀k,(decide (p+k<(⟨s.toArray⟩:ByteArray).size)&&((⟨s.toArray⟩:ByteArray).get! (p+k)).toNat/64==2)=true->∃d,s[p+k]? = some d/\128<=d.toNat:=by
  intro k hk;simp only[qA,decide_eq_true_eq,beq_iff_eq,zvt]at hk;obtain⟨h1,h2⟩:=hk;refine⟨s[p+k],by simp[h1],?_⟩
  rw[qz8 s (p+k) s[p+k] (by simp[h1])]at h2
  omega
 have z:∀j,j<1->∃d,s[p+j]? = some d/\128<=d.toNat:=fun j hj=>by
  obtain rfl:j=0:=by omega
  exact⟨c,h,hc⟩
 unfold e9 Utf8.decode;simp only[Nat.add_zero,qz8 s p c h,hn,if_false];split
 ·rename_i hk;simp only[qA]at hk;have c1:=cont 1 (by simpa using hk.2)
  split
  ·rename_i hge;refine⟨hge,by simp,fun j hj => ?_⟩
   match j,hj with|0,_=>exact⟨c,h,hc⟩|1,_=>exact c1
  ·exact⟨by simp[Utf8.runeError],wF _,z⟩
 ·split
  ·rename_i hk;simp only[qA]at hk;have c1:=cont 1 (by simpa using hk.1.2)
   have c2:=cont 2 (by simpa using hk.2)
   split
   ·rename_i hge;simp only[qA,decide_eq_true_eq]at hge;refine⟨by simp only;omega,by simp,fun j hj => ?_⟩
    match j,hj with|0,_=>exact⟨c,h,hc⟩|1,_=>exact c1|2,_=>exact c2
   ·exact⟨by simp[Utf8.runeError],wF _,z⟩
  ·split
   ·rename_i hk;simp only[qA]at hk;have c1:=cont 1 (by simpa using hk.1.1.2)
    have c2:=cont 2 (by simpa using hk.1.2)
    have c3:=cont 3 (by simpa using hk.2)
    split
    ·rename_i hge;simp only[qA,decide_eq_true_eq]at hge;refine⟨by simp only;omega,by simp,fun j hj => ?_⟩
     match j,hj with|0,_=>exact⟨c,h,hc⟩|1,_=>exact c1|2,_=>exact c2|3,_=>exact c3
    ·exact⟨by simp[Utf8.runeError],wF _,z⟩
   ·exact⟨by simp[Utf8.runeError],wF _,z⟩
def zt1(n:Int)(h:128<=n):∃t c,oc n=t++[c]/\128<=c.toNat/\t.length<=3:=by
 unfold oc Utf8.encode;have hc:∀c:Nat,(if Utf8.valid n=true then n.toNat else Utf8.runeError)=c->128<=c:=by
  intro c hc;split at hc
  ·omega
  ·subst hc;decide
 have last:∀m:Nat,128<=(UInt8.ofNat (0x80+m%64)).toNat:=fun m=>by
  simp only[UInt8.toNat_ofNat'];omega
 generalize hq:(if Utf8.valid n=true then n.toNat else Utf8.runeError)=c
 have hc:=hc c hq;simp only[];rw[qW (by omega)]
 split
 ·exact⟨[_],_,rfl,last _,by simp⟩
 ·split
  ·exact⟨[_,_],_,rfl,last _,by simp⟩
  ·exact⟨[_,_,_],_,rfl,last _,by simp⟩
def zq2(c:UInt8):(c+97)-65=c+32:=by
 rw[UInt8.sub_eq_add_neg,UInt8.add_assoc];rfl
def zcf(fu:Nat):∀(n:Nat)(ab aa:List UInt8),aa.length<n->ab.length+aa.length<=9223372036854775807 ->
  qbh fu n ((ab.length+aa.length:Nat):Int) (ab.length:Int) (ab++aa)=some (ab++aa.map lo)
 |0,_,_,h,_=>absurd h (by omega)|n+1,ab,[],_,_=>by simp[qbh,ql2]|n+1,ab,c::aa,h,hb=>by
  simp only[qL]at h hb;have ih:=fun d=>zcf fu n (ab++[d]) aa (by omega) (by simp;omega)
  simp only[qM,qL,qZ,qS,wM,wO]at ih;have e:((ab.length+(c::aa).length:Nat):Int)=((ab.length+1+aa.length:Nat):Int):=by simp only[qL];omega
  have hl:0<=(ab.length:Int)/\(ab.length:Int).toNat<(ab++c::aa).length:=by simp
  rw[e];simp only[qbh,ql2];rw[ag,ag hl,qz,qB,qqs,au _,cq,cq,ih,ih,ag hl,qB]
  unfold lo;simp only[List.map_cons,zq2];by_cases h1:(65:UInt8)<=c
  ·by_cases h2:c<=90
   ·simp[h1,h2]
   ·simp[h1,h2]
  ·simp[h1]
def zce(fu:Nat)(s:List UInt8)(h:s.length<fu)(hb:s.length<=maxLen):qgb fu s=some (s.map lo):=by
 unfold qgb;rw[ag hb];have:=zcf fu fu [] s h (by simpa [maxLen] using hb)
 simpa using this
def mv(x a b:Int):fw x a b=some (decide (a<=x/\x<=b)):=by
 unfold fw;by_cases h:a<=x<;>simp[h]
def zf9(a b:UInt8):((a.toNat:Int)<=(b.toNat:Int))↔a<=b:=by rw[UInt8.le_iff_toNat_le];omega
def zd4(fu:Nat):∀(n:Nat)(ab aa:List UInt8),aa.length<n->ab.length+aa.length<=9223372036854775807 ->
  qaq fu n (ab.length:Int) (ab++aa)=some (ab++aa.map lo)
 |0,_,_,h,_=>absurd h (by omega)|n+1,ab,[],_,_=>by simp[qaq,qk9]|n+1,ab,c::aa,h,hb=>by
  simp only[qL]at h hb;have ih:=fun d=>zd4 fu n (ab++[d]) aa (by omega) (by simp;omega)
  simp only[qM,qL,qZ,qS,wM,wO]at ih;have hl:0<=(ab.length:Int)/\(ab.length:Int).toNat<(ab++c::aa).length:=by simp
  simp only[qaq,qk9];rw[ag,ag hl,qz,qB,mv,qB,au _,cq,ag hl,qB,ag hl,qB,qqs,ih,ih]
  unfold lo;simp only[List.map_cons];have e1:=zf9 65 c;have e2:=zf9 c 90;have q1:((65:UInt8).toNat:Int)=65:=rfl;have q2:((90:UInt8).toNat:Int)=90:=rfl;rw[q1]at e1;rw[q2]at e2;by_cases h1:(65:UInt8)<=c/\c<=90
  ·rw[qX ⟨e1.2 h1.1,e2.2 h1.2⟩,qX h1]
  ·rw[qW (fun q=>h1 ⟨e1.1 q.1,e2.1 q.2⟩),qW h1]
def qqe(fu:Nat)(s:List UInt8)(h:s.length<fu)(hb:s.length<=maxLen):ul fu s=some (s.map lo):=by
 unfold ul;rw[ag hb];have:=zd4 fu fu [] s h (by simpa [maxLen] using hb)
 simpa using this
def zmy(fu:Nat)(a b:List UInt8)(ha:a.length<fu)(hb:b.length<fu)(ha':a.length<=maxLen)(hb':b.length<=maxLen):kv fu a b=some (a.map lo==b.map lo):=by
 unfold kv;rw[jb,zce fu a ha ha',zce fu b hb hb'];by_cases h:(a.length:Int)=b.length
 ·rw[qX h];rfl
 ·rw[qW h];have:(a.map lo==b.map lo)=false:=by
   rw[beq_eq_false_iff_ne];intro q;apply h;have:=congrArg List.length q;simp only[wC]at this;omega
  rw[this]
def q8q(fu:Nat)(a b:List UInt8)(ha:a.length<fu)(hb:b.length<fu)(ha':a.length<=maxLen)(hb':b.length<=maxLen):ji fu a b=some (a.map lo==b.map lo):=by
 unfold ji;rw[qqe fu a ha ha',qqe fu b hb hb'];rfl
def zwu(c:UInt8):gl (c.toNat:Int)=c:=by
 unfold gl;have:=c.toNat_lt;rw[show((c.toNat:Int)%256).toNat=c.toNat by omega]
 simp
def zfm(s:List UInt8)(c:UInt8):qhn s c=some (Lib.indexByte s c):=rfl
def zp5(fu:Nat)(cs:List UInt8)(c:UInt8)(h:c.toNat<128):u7 fu cs (c.toNat:Int)=some (Lib.indexByte cs c):=by
 unfold u7 qho;rw[ag,ag,zwu,zfm];rfl
def zp3(fu n:Nat):∀(cs:List UInt8)(p:Nat),(∀c∈cs,c.toNat<128)->cs.length-p<n->p<=cs.length->qhp fu n cs p=some (-1):=by
 induction n with
 |zero=>intro cs p _ h;omega|succ n ih=>
  intro cs p hA h hp;rw[qhp,qwr];by_cases hlt:p<cs.length
  ·have e:cs[p]? = some cs[p]:=List.getElem?_eq_getElem hlt;have hc:=hA cs[p] (List.getElem_mem hlt);rw[aw (q9e hlt),zd8 cs p _ e hc,jb,qW (by simp only;omega)]
   exact ih cs (p+1) hA (by omega) (by omega)
  ·rw[ay (q9d hlt)]
def zp4(fu:Nat)(cs:List UInt8)(r:Int)(hr:128<=r)(hA:∀c∈cs,c.toNat<128)(hfu:cs.length<fu)(hb:cs.length<1000):u7 fu cs r=some (-1):=by
 unfold u7 qho;rw[ag,aq,jb]
 by_cases h1:r=65533
 ·rw[qX h1];exact zp3 fu fu cs 0 hA (by omega) (by omega)
 rw[qW h1];have hv:∃b,qnh r=some b:=by
  unfold qnh;simp only[cq]
  repeat' split
  all_goals exact⟨_,rfl⟩
 obtain⟨b,hv⟩:=hv;rw[hv,qB];cases b
 ·rfl
 rw[show(!true)=false from rfl,qF]
 obtain⟨t,c,e,hc,ht⟩:=zt1 r hr;rw[e,ph,p6 _]
 obtain⟨n,rfl⟩:∃n,fu=n+1:=⟨fu-1,by omega⟩
 rw[qm7,qws];by_cases hl:t.length<cs.length
 ·have hcs:=hA cs[t.length] (List.getElem_mem hl);have hne:cs[t.length]≠c:=fun e=>by rw[e]at hcs;omega
  rw[ag,vm _ _ hl,qB,qda,qB,qch,qX hne,au _,ag,qB,zfm,qB,qc9,ag (by decide)]
  intro x hx e;have:=hA x (List.mem_of_mem_drop hx);rw[e]at this;omega
 ·rw[aq]
def la(cs:List UInt8):List Bool:=cs.foldl (fun m c=>m.set c.toNat true) (List.replicate 256 false)
structure AC(cs:List UInt8):Prop where
 two:2<=cs.length
 few:cs.length<100
 low:∀c∈cs,c.toNat<128
 set:∀n,qb0 (n+100) cs=some (la cs,true)
 get:∀c:UInt8,(la cs)[c.toNat]? = some (cs.contains c)
 len:(la cs).length=256
def qzd{cs:List UInt8}(A:AC cs)(c:UInt8):qbz c (la cs)=some (cs.contains c,la cs):=by
 unfold qbz;rw[A.get];rfl
def zpr{cs:List UInt8}(A:AC cs)(fu n:Nat):∀(ab aa:List UInt8),aa.length<n->ab.length+aa.length<1000000000 ->
  ∃r,qhl fu n (ab++aa) (ab.length:Int) (la cs)=some r/\decide (0<=r)=aa.any cs.contains:=by
 induction n with
 |zero=>intro ab aa h;omega|succ n ih=>
  intro ab aa h hb;rw[qhl,qwo]
  cases aa with
  |nil=>rw[aq];exact⟨-1,rfl,rfl⟩|cons c aa=>
   simp only[qL]at h hb;rw[c7,ag,bg,qB,qzd A,qB]
   cases hc:cs.contains c
   ·obtain⟨r,h1,h2⟩:=ih (ab++[c]) aa (by omega) (by simp;omega)
    refine⟨r,?_,by rw[h2,List.any_cons,hc,Bool.false_or]⟩
    rw[au _]
    simpa using h1
   ·exact⟨_,rfl,by rw[List.any_cons,hc,Bool.true_or];exact decide_eq_true (by omega)⟩
def zps{cs:List UInt8}(A:AC cs)(fu:Nat)(hfu:100<=fu)(s:List UInt8):∀(n p:Nat),s.length-p<n->p<=s.length ->
  ∃r,qhm fu n cs s p=some r/\decide (0<=r)=(s.drop p).any cs.contains:=by
 intro n
 induction n with
 |zero=>intro p h;omega|succ n ih=>
  intro p h hp;rw[qhm,qwp];by_cases hlt:p<s.length
  ·have e:s[p]? = some s[p]:=List.getElem?_eq_getElem hlt;have hd:s.drop p=s[p]::s.drop (p+1):=List.drop_eq_getElem_cons hlt;rw[aw (q9e hlt)];by_cases hc:s[p].toNat<128
   ·rw[zd8 s p _ e hc];simp only;rw[zp5 fu cs _ hc,qB,cq,hd,List.any_cons];by_cases hm:s[p]∈cs
    ·rw[qX ((zbo _ _).2 hm)];exact⟨_,rfl,by rw[show cs.contains s[p]=true by simpa using hm,Bool.true_or];exact decide_eq_true (by omega)⟩
    ·rw[qW (fun h=>hm ((zbo _ _).1 h))]
     obtain⟨r,h1,h2⟩:=ih (p+1) (by omega) (by omega)
     exact⟨r,h1,by rw[h2,show cs.contains s[p]=false by simpa using hm,Bool.false_or]⟩
   ·obtain⟨q1,q2,q3⟩:=zt0 s p _ e (by omega)
    rw[zp4 fu cs _ (by omega) A.low (by have:=A.few;omega) (by have:=A.few;omega),qB,aq (by decide)]
    have hle:p+(e9 s p).2<=s.length:=by
     obtain⟨d,hd,_⟩:=q3 ((e9 s p).2-1) (by omega)
     have:=(List.getElem?_eq_some_iff.1 hd).1;omega
    obtain⟨r,h1,h2⟩:=ih (p+(e9 s p).2) (by omega) hle
    refine⟨r,h1,?_⟩;rw[h2];have:∀w,(∀j,j<w->∃d,s[p+j]? = some d/\128<=d.toNat)->(s.drop (p+w)).any cs.contains=(s.drop p).any cs.contains:=by
     intro w
     induction w with
     |zero=>intro _;rfl|succ w ihw=>
      intro hw;rw[← ihw (fun j hj=>hw j (by omega))]
      obtain⟨d,hd,hd2⟩:=hw w (by omega)
      obtain⟨k1,k2⟩:=List.getElem?_eq_some_iff.1 hd;rw[List.drop_eq_getElem_cons k1,k2,List.any_cons,show cs.contains d=false by
       simp only[List.contains_eq_mem,decide_eq_false_iff_not];intro hm;have:=A.low d hm;omega,Bool.false_or]
      rfl
    exact this _ q3
  ·rw[ay (q9d hlt)];exact⟨-1,rfl,by rw[List.drop_eq_nil_of_le (by omega)];rfl⟩
def znk{cs:List UInt8}(A:AC cs)(fu:Nat)(s:List UInt8)(hfu:100<=fu)(h:s.length<fu)(hb:s.length<1000000000):qm0 fu s cs=some (s.any cs.contains):=by
 unfold qm0;have:∃r,qm5 fu s cs=some r/\decide (0<=r)=s.any cs.contains:=by
  unfold qm5;have h2:=A.two;rw[ay (by cases cs with
   |nil=>simp at h2| cons a b=>rfl),jb,qW (by omega)]
  unfold qxd;rw[qB,cq];split
  ·obtain⟨n,rfl⟩:∃n,fu=n+100:=⟨fu-100,by omega⟩
   rw[A.set,qB];simp only[A.len];rw[aw (by rw[List.length_replicate];rfl),aw]
   have:=zpr A (n+100) (n+100) [] s (by omega) (by simpa using hb)
   simpa using this
  ·have:=zps A fu hfu s fu 0 (by omega) (by omega)
   simpa [qm6] using this
 obtain⟨r,h1,h2⟩:=this;rw[h1,qB,h2]
def zlb:∀n:_root_.Fin 256,(la [13,10,0])[(UInt8.ofNat n.val).toNat]? = some (([13,10,0]:List UInt8).contains (UInt8.ofNat n.val)):=by decide +kernel
def ac1:AC [13,10,0]:=⟨by decide,by decide,by decide,fun n=>by kernel_rfl,fun c=>jl (fun c=>(la [13,10,0])[c.toNat]? = some (([13,10,0]:List UInt8).contains c)) zlb c,by decide +kernel⟩
def zlc:∀n:_root_.Fin 256,(la [32,9])[(UInt8.ofNat n.val).toNat]? = some (([32,9]:List UInt8).contains (UInt8.ofNat n.val)):=by decide +kernel
def ac3:AC [32,9]:=⟨by decide,by decide,by decide,fun n=>by kernel_rfl,fun c=>jl (fun c=>(la [32,9])[c.toNat]? = some (([32,9]:List UInt8).contains c)) zlc c,by decide +kernel⟩
def q9c(c:UInt8):([32,9]:List UInt8).contains c=bl c:=by rw[Bool.eq_iff_iff];simp[bl]
def ze3(c:UInt8)(s:List UInt8):ik (c::s)=if ik s=[] then(if bl c then[] else[c]) else c::ik s:=by
 unfold ik;rw[List.reverse_cons];generalize s.reverse=r
 induction r with
 |nil=>simp[List.dropWhile];cases bl c<;>rfl
 |cons x r ih=>
  rw[wK,List.dropWhile,List.dropWhile];cases bl x
  ·simp
  ·simpa using ih
def po(c:UInt8)(s:List UInt8):bf (c::s)=if bl c then bf s else c::s:=by
 unfold bf;rw[List.dropWhile];cases bl c<;>rfl
def zgf:∀s:List UInt8,bf (ik s)=sf s
 |[]=>rfl|c::s=>by
  unfold sf;have ih:=zgf s;unfold sf at ih;rw[ze3,po];cases hc:bl c
  ·simp only[wJ,if_false];rw[ze3,hc];simp only[wJ,if_false];split
   ·rw[po,hc];rfl
   ·rw[po,hc];rfl
  ·simp only[if_true];rw[← ih];split
   ·rename_i h;rw[h]
   ·rw[po,hc];rfl
def ze4(s:List UInt8):(ik s).length<=s.length:=by
 unfold ik;rw[List.length_reverse];have:=(List.dropWhile_sublist bl (l:=s.reverse)).length_le;simpa using this
def lw(s:List UInt8):(bf s).length<=s.length:=(List.dropWhile_sublist bl).length_le
def tr(s:List UInt8):Bool := !(s.head?.any bl) && !(s.getLast?.any bl)
def zw2(s:List UInt8):decide (sf s=s)=tr s:=by
 unfold tr;cases hf:s.head?.any bl
 ·cases hl:s.getLast?.any bl
  ·rw[decide_eq_true];rfl;unfold sf;have h1:bf s=s:=by
    cases s with|nil=>rfl|cons c s=>rw[po];simp at hf;rw[hf];rfl
   rw[h1];rcases List.eq_nil_or_concat s with rfl|⟨t,c,rfl⟩
   ·rfl
   ·rw[List.concat_eq_append]at *;rw[qjo];simp at hl;rw[hl];rfl
  ·rw[decide_eq_false];rfl;rw[← zgf];rcases List.eq_nil_or_concat s with rfl|⟨t,c,rfl⟩
   ·simp at hl
   ·rw[List.concat_eq_append]at *;simp at hl;rw[qjo,hl,qX rfl];intro e;have:=Nat.le_trans (lw (ik t)) (ze4 t);rw[e]at this;simp at this;omega
 ·rw[decide_eq_false];rfl
  cases s with
  |nil=>simp at hf|cons c s=>
   simp at hf;unfold sf;rw[po,hf,qX rfl];intro e;have:=Nat.le_trans (ze4 (bf s)) (lw s);rw[e]at this;simp at this;omega
def qn9(c:UInt8):ut c=some (bl c):=by unfold ut bl;cases c==32<;>rfl
def qdo(c:UInt8):sv c=some (bl c):=by unfold sv bl;cases c==32<;>rfl
def qw(f:Int×Int):e7 f=some (f.1 != 0):=rfl
def mr(c:UInt8):Bool:=decide (33<=c)&&decide (c<=126)&&c != 58
def lm(s:List UInt8):Bool:=s != []&&decide (s.length<=60)&&s.all mr
def zrl(c:UInt8):ql4 c=some (mr c):=by
 unfold ql4 mr;cases decide (33<=c)<;>cases decide (c<=126)<;>rfl
def zll(fu n:Nat):∀(ab aa:List UInt8),aa.length<n->ab.length+aa.length<1000000000 ->
  qf7 fu n (ab++aa) ((ab.length+aa.length:Nat):Int) (ab.length:Int)=some (aa.all mr):=by
 induction n with
 |zero=>intro ab aa h;omega|succ n ih=>
  intro ab aa h hb;rw[qf7,quf]
  cases aa with
  |nil=>rw[aq];rfl|cons c aa=>
   simp only[qL]at h hb ⊢;rw[ag,bg,qB,zrl,qB,List.all_cons]
   cases hc:mr c
   ·rfl
   ·have:=ih (ab++[c]) aa (by omega) (by simp;omega)
    rw[au _]
    simp only[qS,wM,qM,qL,qZ]at this;rw[show ab.length+0+1+aa.length=ab.length+(aa.length+1) by omega]at this
    simpa using this
def zou(fu:Nat)(s:List UInt8)(h:61<fu:=by omega):ql3 fu s=some (lm s):=by
 unfold ql3 lm
 cases s with
 |nil=>rfl|cons c s=>
  rw[show(!c::s==([]:List UInt8))=true from rfl,show(c::s != ([]:List UInt8))=true from rfl,qT,cq]
  split
  ·rename_i hl;simp only[qL]at hl;unfold que;have:=zll fu fu [] (c::s) (by simp only[qL];omega) (by simp only[qL,qZ];omega)
   simp only[List.nil_append,qZ,wO]at this;rw[show(0:Int)=((0:Nat):Int) from rfl,this,decide_eq_true (by simp only[qL];omega)]
   rfl
  ·rename_i hl;rw[decide_eq_false (by omega)]
   rfl
def zev(a b c:Int):fw a b c=some (decide (b<=a)&&decide (a<=c)):=by
 unfold fw;rw[cq];split
 ·rename_i h;rw[decide_eq_true h];rfl
 ·rename_i h;rw[decide_eq_false h];rfl
def zrp:∀n:_root_.Fin 256,(decide ((33:Int)<=((UInt8.ofNat n.val).toNat:Int))&&decide (((UInt8.ofNat n.val).toNat:Int)<=126) && !((UInt8.ofNat n.val)==58))=mr (UInt8.ofNat n.val):=by decide +kernel
def zro(c:UInt8):(decide ((33:Int)<=(c.toNat:Int))&&decide ((c.toNat:Int)<=126) && !(c==58))=mr c:=jl (fun c=>(decide ((33:Int)<=(c.toNat:Int))&&decide ((c.toNat:Int)<=126) && !(c==58))=mr c) zrp c
def zur(fu n:Nat):∀(ab aa:List UInt8),aa.length<n->ab.length+aa.length<1000000000 ->
  qeo fu n (ab++aa) (ab.length:Int)=some (aa.all mr&&(decide (1<=ab.length+aa.length)&&decide (ab.length+aa.length<=60))):=by
 induction n with
 |zero=>intro ab aa h;omega|succ n ih=>
  intro ab aa h hb;rw[qeo,qsh]
  cases aa with
  |nil=>
   rw[aq,zev,List.all_nil,Bool.true_and]
   simp only[List.append_nil,qZ,Nat.add_zero,qB];congr 2
   ·rw[Bool.eq_iff_iff];simp only[decide_eq_true_eq];omega
   ·rw[Bool.eq_iff_iff];simp only[decide_eq_true_eq];omega
  |cons c aa=>
   simp only[qL]at h hb ⊢;rw[c7,ag,bg,qB,zev,qB,qB,List.all_cons,← zro]
   cases decide ((33:Int)<=(c.toNat:Int))&&decide ((c.toNat:Int)<=126)
   ·rfl
   ·cases c==58
    ·have:=ih (ab++[c]) aa (by omega) (by simp;omega)
     rw[au _]
     simp only[qS,wM,qM,qL,qZ]at this;rw[show ab.length+(0+1)+aa.length=ab.length+(aa.length+1) by omega]at this
     simpa using this
    ·rfl
def zuq(fu:Nat)(s:List UInt8)(h:s.length<fu)(hb:s.length<1000000000):qkz fu s=some (lm s):=by
 unfold qkz lm;have:=zur fu fu [] s h (by simpa using hb)
 rw[show(0:Int)=(([]:List UInt8).length:Int) from rfl,show s=[]++s from rfl,this]
 simp only[qZ,wO,List.nil_append];congr 1
 cases s with
 |nil=>rfl|cons c s=>
  rw[show(c::s != ([]:List UInt8))=true from rfl,decide_eq_true (show 1<=(c::s).length by simp)]
  simp only[Bool.true_and];exact Bool.and_comm _ _
def qy(s:List UInt8):Bool := !(s.any ([13,10,0]:List UInt8).contains)&&tr s
def zbf(fu:Nat)(s:List UInt8)(hfu:100<=fu)(h:s.length<fu)(hb:s.length<1000000000):ql7 fu s=some (qy s):=by
 unfold ql7 qup qy;rw[znk ac1 fu s hfu h hb,qB,qB];cases s.any ([13,10,0]:List UInt8).contains
 ·rw[dx];unfold tr
  cases s with
  |nil=>rfl|cons c t=>
   rw[ay (by rfl),show am (c::t) (0:Int)=some c from rfl,qB,qn9,qB]
   rw[show(c::t).head?.any bl=bl c from rfl]
   cases bl c
   ·rw[dx];rcases List.eq_nil_or_concat (c::t) with e|⟨u,d,e⟩
    ·cases e
    ·rw[List.concat_eq_append]at e;rw[e]at hb ⊢;simp only[qM,qL,qZ]at hb;rw[ph,p6 _,qda,qB,qn9,qB]
     simp
   ·rfl
 ·rfl
def ze2(fu:Nat)(_r0:Nat->List UInt8->Option (List UInt8))(n:Nat):∀(s:List UInt8),s.length<n->s.length<1000000000->qfh fu n s=some (ik s):=by
 induction n with
 |zero=>intro s h;omega|succ n ih=>
  intro s h hb;rw[qfh,qs8];rcases List.eq_nil_or_concat s with rfl|⟨t,c,rfl⟩
  ·rw[aq];rfl
  ·rw[List.concat_eq_append]at *;simp only[qM,qL,qZ]at h hb;rw[ph,ag,p6 _,qda,qB,qdo,qB,qqy,ag,ih t (by omega) (by omega),qjo]
   cases bl c<;>rfl
def ztr(fu n:Nat):∀(s:List UInt8),s.length<n->s.length<fu->s.length<1000000000->qff fu n s=some (sf s):=by
 induction n with
 |zero=>intro s h;omega|succ n ih=>
  intro s h hf hb;rw[qff,qs7]
  cases s with
  |nil=>
   rw[aq]
   unfold qfg;rw[ay (by rfl),ze2 fu (fun _ _=>none) fu [] hf hb];rfl
  |cons c s=>
   rw[ag,show am (c::s) (0:Int)=some c from rfl,qB,qdo,qB]
   unfold qfg sf;rw[po];simp only[qL]at h hf hb;cases bl c
   ·rw[ay (by rfl),ze2 fu (fun _ _=>none) fu (c::s) (by simp only[qL];omega) (by simp only[qL];omega)];rfl
   ·rw[aw]
    unfold qs9;rw[ag (by simp only[qL];omega)]
    exact ih s (by omega) (by omega) (by omega)
def ztq(fu:Nat)(s:List UInt8)(h:s.length<fu)(hb:s.length<1000000000):qs6 fu s=some (sf s):=ztr fu fu s h h hb
def zwy(fu n:Nat):∀(s:List UInt8),s.length<n->s.length<1000000000->qhs fu n s (la [32,9])=some (ik s,la [32,9]):=by
 induction n with
 |zero=>intro s h;omega|succ n ih=>
  intro s h hb;rw[qhs,qxj];rcases List.eq_nil_or_concat s with rfl|⟨t,c,rfl⟩
  ·rw[aq];rfl
  ·rw[List.concat_eq_append]at *;simp only[qM,qL,qZ]at h hb;rw[ph,ag,p6 _,qda,qB,qzd ac3,qB,qqy,ag,ih t (by omega) (by omega),qjo,q9c]
   cases bl c<;>rfl
def zw1(fu:Nat)(s:List UInt8)(hfu:100<=fu:=by omega)(h:s.length<fu:=by omega)(hb:s.length<1000000000:=by omega):qhq fu s [32,9]=some (ik s):=by
 unfold qhq
 cases s with
 |nil=>rfl|cons c s=>
  rw[ay (by rfl)]
  unfold qnc;rw[ay (by rfl)]
  unfold qw5;rw[ay (by decide)]
  unfold qnd;rw[ay (by rfl)]
  unfold qw6;obtain⟨n,rfl⟩:∃n,fu=n+100:=⟨fu-100,by omega⟩
  rw[ac3.set,qB];simp only[ac3.len];rw[aw (by rw[List.length_replicate];rfl),aw]
  unfold qng;rw[zwy _ _ _ h hb];rfl
def zr6(fu:Nat)(hfu:10<=fu)(c a b d:UInt8):uo fu c [a,b,d]=some (([a,b,d]:List UInt8).contains c):=by
 obtain⟨n,rfl⟩:∃n,fu=n+10:=⟨fu-10,by omega⟩
 unfold uo;simp only[qay,qlc];rw[aw,show am [a,b,d] (0:Int)=some a from rfl,qB]
 simp only[List.contains_cons,List.contains_nil,Bool.or_false];rw[qn7 a c,show(af (0+1))=(1:Int) from rfl]
 cases c==a
 ·rw[ay (by rfl),aw,show am [a,b,d] (1:Int)=some b from rfl,qB,qn7 b c,show(af (1+1))=(2:Int) from rfl]
  cases c==b
  ·rw[ay (by rfl),aw,show am [a,b,d] (2:Int)=some d from rfl,qB,qn7 d c,show(af (2+1))=(3:Int) from rfl]
   cases c==d
   ·rfl
   ·rfl
  ·rfl
 ·rfl
def ztx(fu n:Nat)(hfu:10<=fu):∀(ab aa:List UInt8),aa.length<n->ab.length+aa.length<1000000000->ab.length+aa.length<fu ->
  qam fu n (ab++aa) (ab.length:Int)=some (if aa.any ([13,10,0]:List UInt8).contains || !tr (ab++aa) then 11 else 0):=by
 induction n with
 |zero=>intro ab aa h;omega|succ n ih=>
  intro ab aa h hb hf;rw[qam,qsg]
  cases aa with
  |nil=>
   rw[aq,List.append_nil,ztq fu ab (by simpa using hf) (by simpa using hb),qB,← zw2,List.any_nil,Bool.false_or]
   by_cases e:sf ab=ab
   ·rw[decide_eq_true e,e];simp
   ·rw[decide_eq_false e,aw (by simpa using e)];rfl
  |cons c aa=>
   simp only[qL]at h hb hf;rw[c7,ag,bg,qB,zr6 fu hfu,qB,List.any_cons]
   cases hc:([13,10,0]:List UInt8).contains c
   ·have:=ih (ab++[c]) aa (by omega) (by simp;omega) (by simp;omega)
    rw[ay (by rfl),au _,Bool.false_or]
    simpa using this
   ·rfl
def mo(n v:List UInt8):Int:=if lm n then(if 4000<v.length then 1 else if qy v then 0 else 11) else 10
def ztw(fu:Nat)(n v:List UInt8)(hfu:10<=fu)(hn:n.length<fu)(hv:v.length<fu)(hnb:n.length<1000000000)(hvb:v.length<1000000000):qen fu n v=some (mo n v):=by
 unfold qen mo;rw[zuq fu n hn hnb,qB];cases lm n
 ·rfl
 ·rw[ay (by rfl),qX rfl,cq]
  split
  ·rename_i h;rw[qX (by omega)]
  ·rename_i h;rw[qW (by omega)]
   have:=ztx fu fu hfu [] v hv (by simpa using hvb) (by simpa using hv)
   simp only[List.nil_append,qZ]at this;have this:qam fu fu v 0=some (if(v.any ([13,10,0]:List UInt8).contains || !tr v)=true then 11 else 0):=this
   rw[this];unfold qy;cases v.any ([13,10,0]:List UInt8).contains<;>cases tr v<;>rfl
def tk(c:UInt8):Bool:=decide (33<=c)&&decide (c<=126) && !([40,41,60,62,64,44,59,58,92,34,47,91,93,63,61,42,37,39]:Bs).contains c
def zws:∀n:_root_.Fin 256,ot (UInt8.ofNat n.val)=some (tk (UInt8.ofNat n.val)):=by decide +kernel
def qjz(c:UInt8):ot c=some (tk c):=jl (fun c=>ot c=some (tk c)) zws c
def zr7(fu n:Nat)(c:UInt8):∀(ab aa:Bs),aa.length<n->ab.length+aa.length<1000000000 ->
  qay fu n c (ab++aa) (ab.length:Int)=some (aa.contains c):=by
 induction n with
 |zero=>intro ab aa h;omega|succ n ih=>
  intro ab aa h hb;rw[qay,qlc]
  cases aa with
  |nil=>rw[aq];rfl|cons d aa=>
   simp only[qL]at h hb;rw[c7,ag,bg,qB,au _,lg,List.contains_cons]
   have:=ih (ab++[d]) aa (by omega) (by simp;omega)
   simp only[qM,qL,qZ,qS,wM]at this;by_cases e:d=c
   ·rw[qX e];simp[e]
   ·rw[qW e,this];have:(c==d)=false:=by simp;exact fun h=>e h.symm
    rw[this,Bool.false_or]
def zdc(fu:Nat)(c:UInt8)(l:Bs)(h:l.length<fu:=by omega)(hb:l.length<1000000000:=by omega):uo fu c l=some (l.contains c):=by
 have:=zr7 fu fu c [] l h (by simpa using hb)
 simpa [uo] using this
def q2a(fu:Nat)(hfu:100<=fu)(c:UInt8):qa1 fu c=some (tk c):=by
 unfold qa1;rw[mv,qB,zdc fu c _ (by simp;omega) (by simp),qB]
 unfold tk;have h1:(33<=(c.toNat:Int)/\(c.toNat:Int)<=126)↔(33<=c/\c<=126):=by
  rw[UInt8.le_iff_toNat_le,UInt8.le_iff_toNat_le];show _↔(33<=c.toNat/\c.toNat<=126);omega
 by_cases h2:33<=c/\c<=126
 ·rw[decide_eq_true (h1.2 h2),aw rfl,decide_eq_true h2.1,decide_eq_true h2.2];rfl
 ·rw[decide_eq_false (fun h=>h2 (h1.1 h)),ay rfl]
  by_cases h3:33<=c
  ·have h4:¬c<=126:=fun h=>h2 ⟨h3,h⟩
   rw[decide_eq_false h4];simp
  ·rw[decide_eq_false h3];simp
def yt(P:UInt8->Option Bool):Nat->Bs->Int->Int->Option Bool|0,_,_,_=>none|n+1,s0,s7,s8=>bif decide (s8<s7) then(am s0 s8).bind fun c1=>(P c1).bind fun x2=>bif !x2 then some false else yt P n s0 s7 (af (s8+(1:Int))) else some true
def zlk(P:UInt8->Option Bool)(p:UInt8->Bool)(hP:∀c,P c=some (p c))(n:Nat):∀(ab aa:Bs),aa.length<n->ab.length+aa.length<9223372036854775807 ->
  yt P n (ab++aa) ((ab.length+aa.length:Nat):Int) (ab.length:Int)=some (aa.all p):=by
 induction n with
 |zero=>intro ab aa h;omega|succ n ih=>
  intro ab aa h hb;rw[yt]
  cases aa with
  |nil=>rw[aq];rfl|cons d aa=>
   simp only[qL]at h hb ⊢;rw[ag,bg,qB,hP,qB,au _,List.all_cons]
   have:=ih (ab++[d]) aa (by omega) (by simp;omega)
   simp only[qM,qL,qZ,qS,wM]at this;cases p d
   ·rfl
   ·rw[ay (by rfl),Bool.true_and,show((ab.length+(aa.length+1):Nat):Int)=((ab.length+1+aa.length:Nat):Int) by omega]
    exact this
def qyo(P:UInt8->Option Bool)(p:UInt8->Bool)(hP:∀c,P c=some (p c))(n:Nat)(s:Bs)(h:s.length<n)(hb:s.length<9223372036854775807):yt P n s (s.length:Int) 0=some (s.all p):=by
 have:=zlk P p hP n [] s h (by simpa using hb)
 simpa using this
def zlh(fu:Nat)(s:Bs)(h:s.length<fu)(hb:s.length<9223372036854775807):qlz fu s=some (s.all tk):=by
 have e:∀n,qf8 fu n=yt ot n:=by
  intro n;induction n with|zero=>rfl|succ n ih=>rw[qf8,ih];funext a b c;rfl
 unfold qlz;rw[e];exact qyo _ _ qjz _ _ h hb
def dw(s:Bs):Bool := !s.isEmpty&&decide (s.length<=60)&&s.all tk
def qq2(fu:Nat)(s:Bs)(h:s.length<fu:=by omega)(hb:s.length<9223372036854775807:=by omega):xx fu s=some (dw s):=by
 unfold xx dw;rw[zlh fu s h hb]
 cases s with
 |nil=>rfl|cons c s=>
  rw[aw]
  by_cases h1:(c::s).length<=60
  ·rw[ag,decide_eq_true h1];simp
  ·rw[aq,decide_eq_false h1];simp
def zu7(fu n:Nat)(hfu:100<=fu):∀(ab aa:Bs),aa.length<n->ab.length+aa.length<1000000000 ->
  qfe fu n (ab++aa) (ab.length:Int)=some (aa.all tk&&decide (1<=ab.length+aa.length/\ab.length+aa.length<=60)):=by
 induction n with
 |zero=>intro ab aa h;omega|succ n ih=>
  intro ab aa h hb;rw[qfe,qs5]
  cases aa with
  |nil=>
   rw[aq,mv,qB]
   simp only[List.append_nil,List.all_nil,Bool.true_and,qZ,Nat.add_zero];congr 1;apply decide_eq_decide.2;omega
  |cons d aa=>
   simp only[qL]at h hb;rw[c7,ag,bg,qB,q2a fu hfu,qB,au _,List.all_cons]
   have:=ih (ab++[d]) aa (by omega) (by simp;omega)
   simp only[qM,qL,qZ,qS,wM]at this;cases tk d
   ·rfl
   ·rw[ay (by rfl),Bool.true_and]
    refine this.trans ?_;simp only[qL];congr 2;apply decide_eq_decide.2;omega
def qqq(fu:Nat)(hfu:100<=fu)(s:Bs)(h:s.length<fu:=by omega)(hb:s.length<1000000000:=by omega):xj fu s=some (dw s):=by
 have:=zu7 fu fu hfu [] s h (by simpa using hb)
 simp only[List.nil_append,qZ,wO]at this;unfold xj;refine this.trans ?_;unfold dw
 cases s with
 |nil=>rfl|cons c s=>
  congr 1;rw[Bool.and_comm];congr 1;show decide _=(true&&decide _);rw[Bool.true_and];apply decide_eq_decide.2;simp only[qL];omega
open Go.Lib (decodeL decodeN decodeL_N validD validD_step decodeL_le decodeL_width)
def rn(l:Bs):Int×Int:=if(decodeL l).1=65533/\(decodeL l).2=1 then(-1,1) else(((decodeL l).1:Nat),((decodeL l).2:Nat))
def l8(a b:Nat)(h:a+b<9223372036854775808:=by omega):af ((a:Int)+(b:Int))=((a+b:Nat):Int):=by rw[eg];omega
def zpu{α:Type}(ab l:List α)(k:Nat)(h:k<l.length):am (ab++l) ((ab.length+k:Nat):Int)=some l[k]:=by
 rw[vm _ _ (by simp;omega)];simp
def zpv(ab l:Bs)(k:Nat)(h:k<l.length):am (ab++l) ((ab.length+k:Nat):Int)=some (l.getD k 0):=by
 rw[zpu ab l k h];simp[List.getD,h]
def qdk(fu n:Nat)(ab l:Bs)(size v least k:Nat)(hk:k<size:=by omega)(hl:k<l.length:=by omega)(hv:v<10000000:=by omega)(hb:ab.length+l.length<1000000000:=by omega)(hs:size<=4:=by omega) :
  sy fu (n+1) (ab++l) (ab.length:Int) (size:Int) (v:Int) (least:Int) (k:Int) =
   if 128<=(l.getD k 0).toNat/\(l.getD k 0).toNat<=191 then sy fu n (ab++l) (ab.length:Int) (size:Int) ((64*v+(l.getD k 0).toNat-128:Nat):Int) (least:Int) ((k+1:Nat):Int) else some (-1,1):=by
 have hc:(l.getD k 0).toNat<256:=(l.getD k 0).toNat_lt;rw[sy,qlh,ag,l8 _ _,zpv ab l k hl,qB,mv,qB,au k]
 generalize (l.getD k 0).toNat=x at hc;by_cases h:128<=x/\x<=191
 ·rw[qX h,decide_eq_true (by omega),ci,show(64:Int)*(v:Int)=((64*v:Nat):Int) by omega,eg (x:=((64*v:Nat):Int)) (by omega) (by omega),eg (x:=((64*v:Nat):Int)+(x:Int)) (by omega) (by omega),eg]
  congr 1;omega
 ·rw[qW h,decide_eq_false (by omega),dx]
def q1h(fu n:Nat)(s:Bs)(i:Int)(size v least:Nat) :
  sy fu (n+1) s i (size:Int) (v:Int) (least:Int) (size:Int)=if v<least\/1114111<v\/(55296<=v/\v<=57343) then some (-1,1) else some ((v:Int),(size:Int)):=by
 rw[sy,qlh,aq]
 by_cases h1:v<least
 ·rw[ag,qX (.inl h1)]
 rw[aq]
 by_cases h2:1114111<v
 ·rw[ag,qX (.inr (.inl h2))]
 rw[aq,mv,qB]
 by_cases h3:55296<=v/\v<=57343
 ·rw[ag,qX (.inr (.inr h3))]
 ·rw[aq,qW (by omega)]
def q1g(fu:Nat)(ab l:Bs)(size v least:Nat)(h:l.length<size)(hs:size<=4:=by omega)(hb:ab.length+l.length<1000000000:=by omega):sx fu (ab++l) (ab.length:Int) (size:Int) (v:Int) (least:Int)=some (-1,1):=by
 rw[sx,jb,qW (by omega),l8 _ _,qfd,ag (by rw[qde];omega)]
def q1f(fu:Nat)(ab l:Bs)(size v least:Nat)(h:¬l.length<size)(h0:size≠0:=by omega)(hs:size<=4:=by omega)(hb:ab.length+l.length<1000000000:=by omega):sx fu (ab++l) (ab.length:Int) (size:Int) (v:Int) (least:Int)=sy fu fu (ab++l) (ab.length:Int) (size:Int) (v:Int) (least:Int) ((1:Nat):Int):=by
 rw[sx,jb,qW (by omega),l8 _ _,qfd,aq (by rw[qde];omega)];rfl
def qiq(x:Nat×Nat):Int×Int:=if x.1=65533/\x.2=1 then(-1,1) else((x.1:Nat),(x.2:Nat))
def qc3:qiq (65533,1)=(-1,1):=rfl
def qz1(x k:Nat)(h:k≠1):qiq (x,k)=((x:Int),(k:Int)):=qW (fun q=>h q.2)
def oe(n b0 b1 b2 b3:Nat):Int×Int:=qiq (decodeN n b0 b1 b2 b3)
def zvi(n b0 b1 b2 b3:Nat)(h:b0<128):oe n b0 b1 b2 b3=((b0:Int),1):=by
 unfold oe decodeN;rw[qX h];unfold qiq;rw[qW (fun q=>by have:=q.1;simp only at this;omega)];rfl
def zvj(n b0 b1 b2 b3:Nat)(h:192<=b0/\b0<=223)(h1:b1<256):oe n b0 b1 b2 b3=if n<2 then(-1,1) else if 128<=b1/\b1<=191 then(if(64*(b0-192)+b1-128)<128\/1114111<(64*(b0-192)+b1-128)\/(55296<=(64*(b0-192)+b1-128)/\(64*(b0-192)+b1-128)<=57343) then(-1,1) else(((64*(b0-192)+b1-128:Nat):Int),2)) else(-1,1):=by
 unfold oe decodeN;rw[qW (c:=b0<128) (by omega)]
 by_cases a1:b0/32=6/\(1<n/\b1/64=2)
 ·rw[qX a1,qW (c:=n<2) (by omega),qX (c:=128<=b1/\b1<=191) (by omega)]
  obtain⟨z,hz⟩:∃z,b0%32*64+b1%64=z:=⟨_,rfl⟩;obtain⟨y,hy⟩:∃y,64*(b0-192)+b1-128=y:=⟨_,rfl⟩;have hzy:z=y:=by omega
  have hm:y<2048:=by omega
  rw[hz,hy,hzy];by_cases a2:y ≥ 128
  ·rw[qX a2,qz1 _ _ (by decide),qW (by omega)];rfl
  ·rw[qW a2,qc3,qX (by omega)]
 ·rw[qW a1,qW (c:=b0/16=14/\_) (by omega),qW (c:=b0/8=30/\_) (by omega),qc3]
  by_cases a3:n<2
  ·rw[qX a3]
  ·rw[qW a3,qW (by omega)]
def zvk(n b0 b1 b2 b3:Nat)(h:224<=b0/\b0<=239)(h1:b1<256)(h2:b2<256):oe n b0 b1 b2 b3=if n<3 then(-1,1) else if 128<=b1/\b1<=191 then(if 128<=b2/\b2<=191 then(if(64*(64*(b0-224)+b1-128)+b2-128)<2048\/1114111<(64*(64*(b0-224)+b1-128)+b2-128)\/(55296<=(64*(64*(b0-224)+b1-128)+b2-128)/\(64*(64*(b0-224)+b1-128)+b2-128)<=57343) then(-1,1) else(((64*(64*(b0-224)+b1-128)+b2-128:Nat):Int),3)) else(-1,1)) else(-1,1):=by
 unfold oe decodeN;rw[qW (c:=b0<128) (by omega),qW (c:=b0/32=6/\_) (by omega)]
 by_cases a1:b0/16=14/\(1<n/\b1/64=2)/\(2<n/\b2/64=2)
 ·rw[qX a1,qW (c:=n<3) (by omega),qX (c:=128<=b1/\b1<=191) (by omega),qX (c:=128<=b2/\b2<=191) (by omega)]
  obtain⟨z,hz⟩:∃z,b0%16*4096+b1%64*64+b2%64=z:=⟨_,rfl⟩;obtain⟨y,hy⟩:∃y,64*(64*(b0-224)+b1-128)+b2-128=y:=⟨_,rfl⟩;have hzy:z=y:=by omega
  have hm:y<65536:=by omega
  rw[hz,hy,hzy];by_cases a2:y ≥ 2048/\(y<55296\/(57344<=y/\y<=1114111))
  ·rw[qX a2,qz1 _ _ (by decide),qW (by omega)];rfl
  ·rw[qW a2,qc3,qX (by omega)]
 ·rw[qW a1,qW (c:=b0/8=30/\_) (by omega),qc3]
  by_cases a3:n<3
  ·rw[qX a3]
  ·rw[qW a3];by_cases a4:128<=b1/\b1<=191
   ·rw[qX a4,qW (by omega)]
   ·rw[qW a4]
def zvl(n b0 b1 b2 b3:Nat)(h:240<=b0/\b0<=247)(h1:b1<256)(h2:b2<256)(h3:b3<256):oe n b0 b1 b2 b3=if n<4 then(-1,1) else if 128<=b1/\b1<=191 then(if 128<=b2/\b2<=191 then(if 128<=b3/\b3<=191 then(if(64*(64*(64*(b0-240)+b1-128)+b2-128)+b3-128)<65536\/1114111<(64*(64*(64*(b0-240)+b1-128)+b2-128)+b3-128)\/(55296<=(64*(64*(64*(b0-240)+b1-128)+b2-128)+b3-128)/\(64*(64*(64*(b0-240)+b1-128)+b2-128)+b3-128)<=57343) then(-1,1) else(((64*(64*(64*(b0-240)+b1-128)+b2-128)+b3-128:Nat):Int),4)) else(-1,1)) else(-1,1)) else(-1,1):=by
 unfold oe decodeN;rw[qW (c:=b0<128) (by omega),qW (c:=b0/32=6/\_) (by omega),qW (c:=b0/16=14/\_) (by omega)]
 by_cases a1:b0/8=30/\(1<n/\b1/64=2)/\(2<n/\b2/64=2)/\(3<n/\b3/64=2)
 ·rw[qX a1,qW (c:=n<4) (by omega),qX (c:=128<=b1/\b1<=191) (by omega),qX (c:=128<=b2/\b2<=191) (by omega),qX (c:=128<=b3/\b3<=191) (by omega)]
  obtain⟨z,hz⟩:∃z,b0%8*262144+b1%64*4096+b2%64*64+b3%64=z:=⟨_,rfl⟩;obtain⟨y,hy⟩:∃y,64*(64*(64*(b0-240)+b1-128)+b2-128)+b3-128=y:=⟨_,rfl⟩;have hzy:z=y:=by omega
  rw[hz,hy,hzy];by_cases a2:y ≥ 65536/\(y<55296\/(57344<=y/\y<=1114111))
  ·rw[qX a2,qz1 _ _ (by decide),qW (by omega)];rfl
  ·rw[qW a2,qc3,qX (by omega)]
 ·rw[qW a1,qc3];by_cases a3:n<4
  ·rw[qX a3]
  ·rw[qW a3];by_cases a4:128<=b1/\b1<=191
   ·rw[qX a4];by_cases a5:128<=b2/\b2<=191
    ·rw[qX a5,qW (by omega)]
    ·rw[qW a5]
   ·rw[qW a4]
def zvm(n b0 b1 b2 b3:Nat)(h:(128<=b0/\b0<192)\/248<=b0)(hb:b0<256):oe n b0 b1 b2 b3=(-1,1):=by
 unfold oe decodeN;rw[qW (c:=b0<128) (by omega),qW (c:=b0/32=6/\_) (by omega),qW (c:=b0/16=14/\_) (by omega),qW (c:=b0/8=30/\_) (by omega)];rfl
def zup(l:Bs):rn l=oe l.length (l.getD 0 0).toNat (l.getD 1 0).toNat (l.getD 2 0).toNat (l.getD 3 0).toNat:=by unfold rn oe qiq;rw[decodeL_N]
def zfe(fu:Nat)(hfu:10<=fu)(ab:Bs)(c:UInt8)(t:Bs)(hb:ab.length+t.length<100000000:=by omega):qfc fu (ab++c::t) (ab.length:Int)=some (rn (c::t)):=by
 have hl:(c::t).length=t.length+1:=rfl;obtain⟨n,rfl⟩:∃n,fu=n+10:=⟨fu-10,by omega⟩
 rw[zup,show(c::t).getD 0 0=c from rfl]
 generalize hl2:c::t=l at *;have b1:=(l.getD 1 0).toNat_lt;have b2:=(l.getD 2 0).toNat_lt;have b3:=(l.getD 3 0).toNat_lt;have hc:=c.toNat_lt;unfold qfc;rw[show am (ab++l) (ab.length:Int)=some c by rw[← hl2];exact bg ab c t,qB]
 by_cases h0:c.toNat<128
 ·rw[ag,zvi _ _ _ _ _ h0]
 rw[aq,mv,qB]
 by_cases h2:192<=c.toNat/\c.toNat<=223
 ·rw[ag,zvj _ _ _ _ _ h2 b1,eg,show(c.toNat:Int)-192=((c.toNat-192:Nat):Int) by omega]
  by_cases g:l.length<2
  ·rw[qX g];exact q1g (n+10) ab l 2 _ 128 g
  ·rw[qW g];refine(q1f (n+10) ab l 2 _ 128 g).trans ?_
   rw[qdk (n+10) (n+9) ab l 2 _ 128 1]
   by_cases g1:128<=(l.getD 1 0).toNat/\(l.getD 1 0).toNat<=191
   ·rw[qX g1,qX g1];refine(q1h (n+10) (n+8) _ _ 2 _ 128).trans ?_;rw[q2g];rfl
   ·rw[qW g1,qW g1]
 rw[aq,mv,qB]
 by_cases h3:224<=c.toNat/\c.toNat<=239
 ·rw[ag,zvk _ _ _ _ _ h3 b1 b2,eg,show(c.toNat:Int)-224=((c.toNat-224:Nat):Int) by omega]
  by_cases g:l.length<3
  ·rw[qX g];exact q1g (n+10) ab l 3 _ 2048 g
  ·rw[qW g];refine(q1f (n+10) ab l 3 _ 2048 g).trans ?_
   rw[qdk (n+10) (n+9) ab l 3 _ 2048 1]
   by_cases g1:128<=(l.getD 1 0).toNat/\(l.getD 1 0).toNat<=191
   ·rw[qX g1,qX g1,qdk (n+10) (n+8) ab l 3 _ 2048 2]
    by_cases g2:128<=(l.getD 2 0).toNat/\(l.getD 2 0).toNat<=191
    ·rw[qX g2,qX g2];refine(q1h (n+10) (n+7) _ _ 3 _ 2048).trans ?_;rw[q2g];rfl
    ·rw[qW g2,qW g2]
   ·rw[qW g1,qW g1]
 rw[aq,mv,qB]
 by_cases h4:240<=c.toNat/\c.toNat<=247
 ·rw[ag,zvl _ _ _ _ _ h4 b1 b2 b3,eg,show(c.toNat:Int)-240=((c.toNat-240:Nat):Int) by omega]
  by_cases g:l.length<4
  ·rw[qX g];exact q1g (n+10) ab l 4 _ 65536 g
  ·rw[qW g];refine(q1f (n+10) ab l 4 _ 65536 g).trans ?_
   rw[qdk (n+10) (n+9) ab l 4 _ 65536 1]
   by_cases g1:128<=(l.getD 1 0).toNat/\(l.getD 1 0).toNat<=191
   ·rw[qX g1,qX g1,qdk (n+10) (n+8) ab l 4 _ 65536 2]
    by_cases g2:128<=(l.getD 2 0).toNat/\(l.getD 2 0).toNat<=191
    ·rw[qX g2,qX g2,qdk (n+10) (n+7) ab l 4 _ 65536 3]
     by_cases g3:128<=(l.getD 3 0).toNat/\(l.getD 3 0).toNat<=191
     ·rw[qX g3,qX g3];refine(q1h (n+10) (n+6) _ _ 4 _ 65536).trans ?_;rw[q2g];rfl
     ·rw[qW g3,qW g3]
    ·rw[qW g2,qW g2]
   ·rw[qW g1,qW g1]
 rw[aq,zvm _ _ _ _ _ (by omega) hc]
 rfl
def qqm(l:Bs):(rn l).1<0↔((decodeL l).1=65533/\(decodeL l).2=1):=by
 unfold rn;split
 ·rename_i h;exact⟨fun _=>h,fun _=>by decide⟩
 ·rename_i h;exact⟨fun q=>absurd q (by simp only;omega),fun q=>absurd q h⟩
def q15(l:Bs):(rn l).2=((decodeL l).2:Int):=by
 unfold rn;split
 ·rename_i h;rw[h.2];rfl
 ·rfl
def zxk(fu n:Nat)(hfu:10<=fu):∀(ab aa:Bs),aa.length<n->ab.length+aa.length<100000000->qfj fu n (ab++aa) (ab.length:Int)=some (validD aa):=by
 induction n with
 |zero=>intro ab aa h;omega|succ n ih=>
  intro ab aa h hb;rw[qfj,qtd]
  cases aa with
  |nil=>rw[aq];rfl|cons c t=>
   have hw:=decodeL_width (c::t);have hle:=decodeL_le (c::t) (by simp)
   simp only[qL]at h hb;rw[ag (by rw[c7];omega),zfe fu hfu ab c t,qB,validD_step (c::t) (by simp)]
   by_cases hbad:(decodeL (c::t)).1=65533/\(decodeL (c::t)).2=1
   ·rw[ag ((qqm _).2 hbad),qX hbad]
   ·rw[aq (fun q=>hbad ((qqm _).1 q)),qW hbad,q15,l8 _ _ (by simp only[qL]at hle;omega)]
    have:=ih (ab++(c::t).take (decodeL (c::t)).2) ((c::t).drop (decodeL (c::t)).2) (by rw[List.length_drop];simp only[qL];omega) (by rw[qM,List.length_take,List.length_drop];simp only[qL]at hle ⊢;omega)
    rw[qS,List.take_append_drop,qM,List.length_take,Nat.min_eq_left hle]at this;exact this
def zvo(fu:Nat)(hfu:10<=fu)(s:Bs)(h:s.length<fu:=by omega)(hb:s.length<100000000:=by omega):qfi fu s=some (validD s):=by
 have:=zxk fu fu hfu [] s h (by simpa using hb)
 simpa [qfi] using this
def zxf:qta (-1)=some [239,191,189]:=by rfl
def zxo(n:Nat):∀(b:Bool)(l:Bs),(vu [239,191,189] n b l).length<=3*l.length:=by
 induction n with
 |zero=>intro b l;simp[vu]|succ n ih=>
  intro b l
  cases l with
  |nil=>simp[vu]|cons c t=>
   rw[vu];split
   ·have:=ih true t;rw[qM];simp only[qL];cases b<;>simp<;>omega
   ·have:=ih false ((c::t).drop (decodeL (c::t)).2);have hle:=decodeL_le (c::t) (by simp)
    rw[qM,List.length_take];rw[List.length_drop]at this;omega
def qd3(rep:Bs):∀(n:Nat)(b:Bool)(l:Bs),l.length<=n->vu rep n b l=vu rep l.length b l:=by
 intro n
 induction n using Nat.strongRecOn with
 |ind n ih=>
  intro b l h
  cases l with
  |nil=>cases n<;>rfl
  |cons c t=>
   obtain⟨m,rfl⟩:∃m,n=m+1:=⟨n-1,by simp only[qL]at h;omega⟩
   simp only[qL]at h ⊢;have hw:=decodeL_width (c::t);rw[vu,vu];have hd:((c::t).drop (decodeL (c::t)).2).length<=t.length:=by rw[List.length_drop];simp only[qL];omega
   rw[ih m (by omega) true t (by omega),ih m (by omega) false _ (by omega)]
   by_cases hm:t.length<m+1
   ·rw[ih t.length (by omega) true t (wF _),ih t.length (by omega) false _ hd]
   ·omega
def zt3(fu n:Nat)(hfu:10<=fu):∀(ab aa out:Bs)(bad:Bool),aa.length<n->ab.length+aa.length<100000000->out.length+3*aa.length<400000000 ->
  qfp fu n (ab++aa) out bad (ab.length:Int)=some (out++vu [239,191,189] aa.length bad aa):=by
 induction n with
 |zero=>intro ab aa out bad h;omega|succ n ih=>
  intro ab aa out bad h hb ho;rw[qfp,qti]
  cases aa with
  |nil=>rw[aq];simp[vu]|cons c t=>
   have hw:=decodeL_width (c::t);have hle:=decodeL_le (c::t) (by simp)
   simp only[qL]at h hb ho;rw[ag (by rw[c7];omega),zfe fu hfu ab c t,qB]
   show _=some (out++vu [239,191,189] (t.length+1) bad (c::t));rw[vu];by_cases hbad:(decodeL (c::t)).1=65533/\(decodeL (c::t)).2=1
   ·have hneg:=(qqm _).2 hbad;rw[aq,qX hbad,decide_eq_true hneg,q15,hbad.2,zxf,qB,l8 _ _]
    have:=fun o=>ih (ab++[c]) t o true (by omega) (by simp;omega)
    simp only[qM,qL,qZ,qS,wM,wO]at this;cases bad
    ·rw[dx,ag (by simp[ap];omega)]
     refine(this (out++[239,191,189]) (by simp;omega)).trans ?_
     simp
    ·rw[ci];refine(this out (by omega)).trans ?_
     simp
   ·have hneg:¬(rn (c::t)).1<0:=fun q=>hbad ((qqm _).1 q)
    have hle':=hle;simp only[qL]at hle';rw[ag,qW hbad,decide_eq_false hneg,q15,l8 _ _,ag (by rw[c7];omega)]
    have e:List.take (((ab.length+(decodeL (c::t)).2:Nat):Int).toNat-((ab.length:Nat):Int).toNat) (List.drop ((ab.length:Nat):Int).toNat (ab++c::t))=(c::t).take (decodeL (c::t)).2:=by
     rw[y5];congr 1;omega
    rw[e,ag (by rw[List.length_take,Nat.min_eq_left hle];simp[ap];omega)]
    have:=ih (ab++(c::t).take (decodeL (c::t)).2) ((c::t).drop (decodeL (c::t)).2) (out++(c::t).take (decodeL (c::t)).2) false (by rw[List.length_drop];simp only[qL];omega) (by rw[qM,List.length_take,List.length_drop];simp only[qL]at hle ⊢;omega) (by rw[qM,List.length_take,List.length_drop];simp only[qL]at hle ⊢;omega)
    rw[qS,List.take_append_drop,qM,List.length_take,Nat.min_eq_left hle]at this;refine this.trans ?_;rw[qS,qd3 _ t.length false ((c::t).drop (decodeL (c::t)).2) (by rw[List.length_drop];simp only[qL];omega)]
def zt5(fu:Nat)(hfu:10<=fu)(s:Bs)(h:s.length<fu:=by omega)(hb:s.length<100000000:=by omega):qlm fu s=some (vu [239,191,189] s.length false s):=by
 have:=zt3 fu fu hfu [] s [] false h (by simpa using hb) (by simp;omega)
 simpa [qlm] using this
def zwv(s:Bs)(h:s.length<=1000000):yf s [239,191,189]=some (vu [239,191,189] s.length false s):=by
 unfold yf;rw[ag ⟨h,by simp⟩]
def zxg(s:Bs)(h:s.length<=1000000:=by omega):yg s=some (validD s):=by
 unfold yg;rw[ag]
end Go.Sym
namespace Go.Sym
open Go.Lib (validD)
abbrev bz:Type:=Bs×Bs
abbrev db:Type:=Bs×Bs×List bz
def nj(l:List bz):Prop:=l.length<=4000000/\∀x∈l,x.1.length<=4000000/\x.2.length<=4000000
def yp(m:db):Prop:=m.1.length<=4000000/\m.2.1.length<=4000000/\nj m.2.2
def lk(a b:Bs):Bool:=a.map lo==b.map lo
def q0p(a b:Bs):lk a b=lk b a:=by unfold lk;rw[Bool.eq_iff_iff];simp only[beq_iff_eq];exact⟨Eq.symm,Eq.symm⟩
def q0q(a:Bs):lk a a=true:=by unfold lk;simp
def ud(fu:Nat)(hfu:90000000<=fu)(a b:Bs)(ha:a.length<=4000000)(hb:b.length<=4000000):kv fu a b=some (lk a b):=
 zmy fu a b (by omega) (by omega) (by simp[maxLen];omega) (by simp[maxLen];omega)
def ve(fu:Nat)(hfu:90000000<=fu)(a b:Bs)(ha:a.length<=4000000)(hb:b.length<=4000000):ji fu a b=some (lk a b):=
 q8q fu a b (by omega) (by omega) (by simp[maxLen];omega) (by simp[maxLen];omega)
def zqd(fu n:Nat)(hfu:90000000<=fu)(p:bz)(hp:p.1.length<=4000000):∀(ab aa:List bz),aa.length<n->ab.length+aa.length<100000000->(∀x∈aa,x.1.length<=4000000) ->
  ∃i:Int,qhh fu n (ab++aa) ((ab.length+aa.length:Nat):Int) (ab.length:Int) p=some (i,p)/\decide (0<=i)=aa.any (fun x=>lk x.1 p.1):=by
 induction n with
 |zero=>intro ab aa h;omega|succ n ih=>
  intro ab aa h hb hs;rw[qhh,qwh]
  cases aa with
  |nil=>rw[aq];exact⟨_,rfl,rfl⟩|cons d aa=>
   simp only[qL]at h hb;rw[ag (by simp only[qL];omega),bg,qB,qu2,ud fu hfu _ _ (hs d qH) hp,qB,qB,au _]
   obtain⟨i,h1,h2⟩:=ih (ab++[d]) aa (by omega) (by simp;omega) (fun x hx=>hs x (qE _ hx))
   simp only[qM,qL,qZ,qS,wM,wO]at h1;cases e:lk d.1 p.1
   ·simp only[qF,List.any_cons,e,Bool.false_or];rw[show(ab.length+(d::aa).length:Nat)=ab.length+1+aa.length by simp only[qL];omega]
    exact⟨i,h1,h2⟩
   ·simp only[qT,List.any_cons,e,Bool.true_or];exact⟨_,rfl,decide_eq_true (by omega)⟩
def zm4(fu:Nat)(hfu:90000000<=fu)(l:List bz)(p:bz)(hp:p.1.length<=4000000)(hs:nj l):qmy fu l p=some (l.any (fun x=>lk x.1 p.1),p):=by
 obtain⟨i,h1,h2⟩:=zqd fu fu hfu p hp [] l (by have:=hs.1;omega) (by have:=hs.1;simp;omega) (fun x hx=>(hs.2 x hx).1)
 simp only[List.nil_append,qZ,wO]at h1;unfold qmy qwg;rw[← h2];exact(congrArg (fun q=>Option.bind q fun x1=>some (decide ((0:Int)<=x1.1),x1.2)) h1).trans rfl
def jx:List bz->List bz->Int×Int
 |_,[]=>(0,0)|ab,p::l=>if dw p.1=false\/20<p.1.length then(10,ab.length) else if ab.any (fun x=>lk x.1 p.1)=true then(7,ab.length) else if 500<p.2.length then(1,ab.length)
  else if validD p.2=false then(5,ab.length) else jx (ab++[p]) l
def d9(m:db):Int×Int:=if dw m.1=false\/dw m.2.1=false then(10,-2) else if 60<m.2.2.length then(2,-3) else jx [] m.2.2
def nj.mono{l l':List bz}(h:nj l)(h1:l'.length<=l.length)(h2:∀x∈l',x∈l):nj l':=⟨Nat.le_trans h1 h.1,fun x hx=>h.2 x (h2 x hx)⟩
def pp(a b:Int):da a b=some (a,b):=rfl
def t7(a b:Int):ft a b=some (a,b):=rfl
def zra:ig=some ((0:Int),(0:Int)):=rfl
def zrk(fu n:Nat)(hfu:90000000<=fu)(m:db)(z:Int×Int):∀(ab aa:List bz),m.2.2=ab++aa->aa.length<n->nj (ab++aa) ->
  qbj fu n (ab++aa) ((ab.length+aa.length:Nat):Int) (ab.length:Int) m z=some (jx ab aa):=by
 induction n with
 |zero=>intro ab aa _ h;omega|succ n ih=>
  intro ab aa hm h hs;rw[qbj,qu3]
  cases aa with
  |nil=>rw[aq];rfl|cons p aa=>
   have hp:=hs.2 p (by simp)
   have hl:=hs.1;simp only[qL,qM]at h hl;rw[ag (by simp only[qL];omega),bg,qB,qq2 fu _,qB,jx]
   have hp3:xv fu (qbj fu n) (ab.length:Int) (ab++p::aa) ((ab.length+(p::aa).length:Nat):Int) (ab.length:Int) false m z p =
     some (if ab.any (fun x=>lk x.1 p.1)=true then(7,(ab.length:Int)) else if 500<p.2.length then(1,(ab.length:Int)) else if validD p.2=false then(5,(ab.length:Int)) else jx (ab++[p]) aa):=by
    rw[xv,ay rfl,ag (by rw[hm,c7];omega),hm,z7,zm4 fu hfu ab p hp.1 (hs.mono (by simp) (fun x hx=>by simp[hx])),qB]
    simp only[];by_cases h1:ab.any (fun x=>lk x.1 p.1)=true
    ·rw[qX h1,aw h1,pp];rfl
    rw[qW h1,ay (by simpa using h1)]
    by_cases h2:500<p.2.length
    ·rw[qX h2,ag,pp];rfl
    rw[qW h2,aq,zxg _,qB]
    cases h3:validD p.2
    ·rw[dx,qX rfl,pp];rfl
    ·rw[ci,qW (by simp),au _]
     have:=ih (ab++[p]) aa (by rw[hm];simp) (by omega) (by simpa using hs)
     simp only[qM,qL,qZ,qS,wM,wO]at this;rw[show(ab.length+(p::aa).length:Nat)=ab.length+1+aa.length by simp only[qL];omega]
     exact this
   cases h0:dw p.1
   ·rw[dx,qX (.inl rfl),xv,aw rfl,pp];rfl
   rw[ci];by_cases h20:20<p.1.length
   ·rw[decide_eq_true (by omega),qX (.inr h20),xv,aw rfl,pp];rfl
   ·rw[decide_eq_false (p:=(20:Int)<(List.length p.1:Int)) (by omega),hp3,qW (c:=true=false\/20<p.1.length) (by simp;omega)]
def q01(fu:Nat)(hfu:90000000<=fu)(m:db)(hs:yp m):s9 fu m=some (d9 m):=by
 obtain⟨h1,h2,h3⟩:=hs;unfold s9 d9;rw[qq2 fu m.1,qB,qq2 fu m.2.1]
 cases g1:dw m.1
 ·rw[dx,qbi,aw rfl,pp,qX (.inl rfl)];rfl
 rw[ci,qB];cases g2:dw m.2.1
 ·rw[qbi,dx,pp,qX (.inr rfl)];rfl
 rw[qbi,ci,qu4,qW (by simp)]
 by_cases g3:60<m.2.2.length
 ·rw[ag,qX g3,pp];rfl
 ·rw[aq,qW g3]
  have:=zrk fu fu hfu m (0,0) [] m.2.2 rfl (by have:=h3.1;omega) h3
  simpa using this
def zun(fu n:Nat)(hfu:90000000<=fu)(r2:wy)(m:db)(z:Int×Int)(p:bz)(rest:List bz)(hp:p.1.length<=4000000):∀(ab aa:List bz),m.2.2=ab++aa++p::rest->aa.length<n->nj m.2.2 ->
  qev fu r2 n ((ab.length+aa.length:Nat):Int) (ab.length:Int) m z p =
   if aa.any (fun x=>lk x.1 p.1)=true then some (7,((ab.length+aa.length:Nat):Int)) else bif decide ((500:Int)<(List.length p.2:Int)) then(ft (1:Int) ((ab.length+aa.length:Nat):Int)).bind fun x4=>some x4 else(qfi fu p.2).bind fun x5=>bif !x5 then(ft (5:Int) ((ab.length+aa.length:Nat):Int)).bind fun x6=>some x6 else r2 (af (((ab.length+aa.length:Nat):Int)+(1:Int))) m z:=by
 induction n with
 |zero=>intro ab aa _ h;omega|succ n ih=>
  intro ab aa hm h hs;rw[qev,qsp]
  cases aa with
  |nil=>rw[aq,qW (by simp)]|cons d aa=>
   have hl:=hs.1;rw[hm]at hl;simp only[qL,qM]at h hl;rw[ag (by simp only[qL];omega)]
   have hx:am m.2.2 (ab.length:Int)=some d:=by rw[hm,qS,wK];exact bg ab d _
   rw[hx,qB,ve fu hfu _ _ (hs.2 d (by rw[hm];simp)).1 hp,qB,au _]
   have:=ih (ab++[d]) aa (by rw[hm];simp) (by omega) hs
   simp only[qM,qL,qZ,qS,wM,wO]at this;cases e:lk d.1 p.1
   ·simp only[qF,List.any_cons,e,Bool.false_or];rw[show(ab.length+(d::aa).length:Nat)=ab.length+1+aa.length by simp only[qL];omega]
    exact this
   ·simp only[qT,List.any_cons,e,Bool.true_or,if_true];rfl
def zul(fu n:Nat)(hfu:90000000<=fu)(m:db)(z:Int×Int)(hs:nj m.2.2):∀(ab aa:List bz),m.2.2=ab++aa->aa.length<n ->
  xa fu n (ab.length:Int) m z=some (jx ab aa):=by
 induction n with
 |zero=>intro ab aa _ h;omega|succ n ih=>
  intro ab aa hm h;rw[xa,qso,hm]
  cases aa with
  |nil=>rw[aq];rfl|cons p aa=>
   have hp:=hs.2 p (by rw[hm];simp)
   have hl:=hs.1;rw[hm]at hl;simp only[qL,qM]at h hl;rw[ag (by rw[c7];omega),bg,qB,qqq fu (by omega) _,qB,jx]
   have hp3:xc fu (xa fu n) (ab.length:Int) false m z p =
     some (if ab.any (fun x=>lk x.1 p.1)=true then(7,(ab.length:Int)) else if 500<p.2.length then(1,(ab.length:Int)) else if validD p.2=false then(5,(ab.length:Int)) else jx (ab++[p]) aa):=by
    rw[xc,ay rfl,qsr];have:=zun fu fu hfu (xa fu n) m z p aa hp.1 [] ab (by rw[hm];simp) (by omega) hs
    simp only[qZ,wO]at this;refine(this:_=_).trans ?_;by_cases h1:ab.any (fun x=>lk x.1 p.1)=true
    ·rw[qX h1,qX h1]
    rw[qW h1,qW h1];by_cases h2:500<p.2.length
    ·rw[qX h2,ag];rfl
    rw[qW h2,aq,zvo fu (by omega) _,qB]
    cases h3:validD p.2
    ·rw[dx,qX rfl];rfl
    ·rw[ci,qW (by simp),au _]
     have:=ih (ab++[p]) aa (by rw[hm];simp) (by omega)
     simpa only [qM,qL,qZ,wO] using this
   cases h0:dw p.1
   ·rw[dx,qX (.inl rfl),xc,aw rfl,t7];rfl
   rw[ci];by_cases h20:20<p.1.length
   ·rw[decide_eq_true (by omega),qX (.inr h20),xc,aw rfl,t7];rfl
   ·rw[decide_eq_false (p:=(20:Int)<(List.length p.1:Int)) (by omega),hp3,qW (c:=true=false\/20<p.1.length) (by simp;omega)]
def zum(fu:Nat)(hfu:90000000<=fu)(m:db)(hs:yp m):qla fu m=some (d9 m):=by
 obtain⟨h1,h2,h3⟩:=hs;unfold qla d9;rw[qqq fu (by omega) m.1,qB,qqq fu (by omega) m.2.1]
 cases g1:dw m.1
 ·rw[dx,qar,aw rfl,t7,qX (.inl rfl)];rfl
 rw[ci,qB];cases g2:dw m.2.1
 ·rw[qar,dx,t7,qX (.inr rfl)];rfl
 rw[qar,ci,qsq,qW (by simp)]
 by_cases g3:60<m.2.2.length
 ·rw[ag,qX g3,t7];rfl
 ·rw[aq,qW g3]
  exact zul fu fu hfu m (0,0) h3 [] m.2.2 rfl (by have:=h3.1;omega)
def par(l:List bz)(nm:Bs):Option Bs:=(l.find? fun x=>lk x.1 nm).map (·.2)
def dq(l:List bz)(nm:Bs):Bs×Bool:=match par l nm with|some v=>(v,true)|none=>([],false)
def qp8(p:bz)(l:List bz)(nm:Bs):dq (p::l) nm=if lk p.1 nm=true then(p.2,true) else dq l nm:=by
 unfold dq par;rw[List.find?_cons];cases lk p.1 nm<;>rfl
def zrc(fu n:Nat)(hfu:90000000<=fu)(nm:Bs)(hn:nm.length<=4000000)(z:Int×Int):∀(ab aa:List bz),aa.length<n->nj (ab++aa) ->
  qgl fu n nm (ab++aa) ((ab.length+aa.length:Nat):Int) (ab.length:Int) z=some ((dq aa nm).1,((dq aa nm).2,(0,0))):=by
 induction n with
 |zero=>intro ab aa h;omega|succ n ih=>
  intro ab aa h hs;rw[qgl,qu0]
  cases aa with
  |nil=>rw[aq];rfl|cons p aa=>
   have hl:=hs.1;simp only[qL,qM]at h hl;rw[ag (by simp only[qL];omega),bg,qB,ud fu hfu _ _ (hs.2 p (by simp)).1 hn,qB,au _,qp8]
   have:=ih (ab++[p]) aa (by omega) (by simpa using hs)
   simp only[qM,qL,qZ,qS,wM,wO]at this;cases e:lk p.1 nm
   ·rw[ay rfl,show(ab.length+(p::aa).length:Nat)=ab.length+1+aa.length by simp only[qL];omega]
    exact this
   ·rfl
def zcq(fu:Nat)(hfu:90000000<=fu)(m:db)(nm:Bs)(hn:nm.length<=4000000)(hs:yp m):qgk fu m nm=some (if(d9 m).1≠0 then([],(false,d9 m)) else((dq m.2.2 nm).1,((dq m.2.2 nm).2,(0,0)))):=by
 unfold qgk;rw[q01 fu hfu m hs,qB,qw,qB,fp];by_cases h:(d9 m).1≠0
 ·rw[qX h,qX h]
 ·rw[qW h,qW h];have:=zrc fu fu hfu nm hn (0,0) [] m.2.2 (by have:=hs.2.2.1;omega) hs.2.2
  simpa using this
def zuy(fu n:Nat)(hfu:90000000<=fu)(nm:Bs)(hn:nm.length<=4000000)(m:db)(hs:nj m.2.2):∀(ab aa:List bz),m.2.2=ab++aa->aa.length<n ->
  qe7 fu n nm (ab.length:Int) m=some (dq aa nm):=by
 induction n with
 |zero=>intro ab aa _ h;omega|succ n ih=>
  intro ab aa hm h;rw[qe7,qs0,hm]
  cases aa with
  |nil=>rw[aq];rfl|cons p aa=>
   have hl:=hs.1;rw[hm]at hl;simp only[qL,qM]at h hl;rw[ag (by rw[c7];omega),bg,qB,ve fu hfu _ _ (hs.2 p (by rw[hm];simp)).1 hn,qB,au _,qp8]
   have:=ih (ab++[p]) aa (by rw[hm];simp) (by omega)
   simp only[qM,qL,qZ,wO]at this;cases e:lk p.1 nm
   ·rw[ay rfl];exact this
   ·rfl
def q18(fu:Nat)(hfu:90000000<=fu)(m:db)(nm:Bs)(hn:nm.length<=4000000)(hs:nj m.2.2):qld fu m nm=some (dq m.2.2 nm):=
 zuy fu fu hfu nm hn m hs [] m.2.2 rfl (by have:=hs.1;omega)
end Go.Sym
namespace Go.Sym
def zwz(fu n:Nat):∀(s:List UInt8),s.length<n->s.length<1000000000->qhr fu n s (la [32,9])=some (bf s,la [32,9]):=by
 induction n with
 |zero=>intro s h;omega|succ n ih=>
  intro s h hb;rw[qhr,qxe]
  cases s with
  |nil=>rw[aq];rfl|cons c s=>
   simp only[qL]at h hb;rw[ag,show am (c::s) (0:Int)=some c from rfl,qB,qzd ac3,qB,q9c,po]
   cases bl c
   ·rfl
   ·rw[ci,ag (by simp only[qL];omega)]
    exact ih s (by omega) (by omega)
def qdh(s:Bs):bf (bf s)=bf s:=by
 induction s with
 |nil=>rfl|cons c s ih=>
  rw[po];by_cases h:bl c=true
  ·rw[qX h];exact ih
  ·rw[qW h,po,qW h]
def rp(s:Bs):bf s <:+ s:=List.dropWhile_suffix _
def zw0(fu:Nat)(s:List UInt8)(hfu:100<=fu:=by omega)(h:s.length<fu:=by omega)(hb:s.length<1000000000:=by omega):qm9 fu s [32,9]=some (bf s):=by
 unfold qm9
 cases s with
 |nil=>rfl|cons c s=>
  rw[ay (by rfl)]
  unfold qna;rw[ay (by rfl)]
  unfold qw3;rw[ay (by decide)]
  unfold qnb;rw[ay (by rfl)]
  unfold qw4;obtain⟨n,rfl⟩:∃n,fu=n+100:=⟨fu-100,by omega⟩
  rw[ac3.set,qB];simp only[ac3.len];rw[aw (by rw[List.length_replicate];rfl),aw]
  unfold qnf;rw[zwz _ _ _ h hb];rfl
def qci(fu:Nat)(hfu:90000000<=fu)(s:Bs)(h:s.length<=4000000):uy fu s=some (bf s):=by
 unfold uy;rw[zw0 fu s];rfl
def b9(p:UInt8->Bool)(s:Bs):Bs×Bs:=((bf s).takeWhile p,(bf s).dropWhile p)
def dz(c:UInt8):Bool:=tk c||c==42
def kg(c:UInt8):Bool:=tk c||(c==37||(c==39||c==42))
def wl(P:UInt8->Option Bool):Nat->Int->Bs->Option (Bs×Bs)
 |0,_,_=>none|n+1,s5,m0=>bif decide (s5<(List.length m0:Int)) then(am m0 s5).bind fun c1=>(P c1).bind fun x2=>(bif x2 then wl P n (af (s5+(1:Int))) m0 else bif decide (0<=s5/\s5<=(List.length m0:Int)) then bif decide (0<=s5/\s5<=(List.length m0:Int)) then some (List.take s5.toNat m0,List.drop s5.toNat m0) else none else none)
  else(bif false then wl P n (af (s5+(1:Int))) m0 else bif decide (0<=s5/\s5<=(List.length m0:Int)) then bif decide (0<=s5/\s5<=(List.length m0:Int)) then some (List.take s5.toNat m0,List.drop s5.toNat m0) else none else none)
def zwl(P:UInt8->Option Bool)(p:UInt8->Bool)(hP:∀c,P c=some (p c))(n:Nat):∀(ab aa:Bs),aa.length<n->ab.length+aa.length<9223372036854775807 ->
  wl P n (ab.length:Int) (ab++aa)=some (ab++aa.takeWhile p,aa.dropWhile p):=by
 induction n with
 |zero=>intro ab aa h;omega|succ n ih=>
  intro ab aa h hb;rw[wl]
  cases aa with
  |nil=>rw[aq,ay rfl,ag,ag,z7,y5];simp|cons d aa=>
   simp only[qL]at h hb;rw[ag (by rw[c7];omega),bg,qB,hP,qB,au _,z7,y5,List.takeWhile_cons,List.dropWhile_cons]
   have:=ih (ab++[d]) aa (by omega) (by simp;omega)
   simp only[qM,qL,qZ,qS,wM,wO]at this;cases p d
   ·rw[ay rfl,ag (by rw[c7];omega),ag (by rw[c7];omega)];simp
   ·rw[aw rfl];simpa using this
def q2s(P:UInt8->Option Bool)(p:UInt8->Bool)(hP:∀c,P c=some (p c))(fu:Nat)(hfu:90000000<=fu)(s:Bs)(h:s.length<=4000000):wl P fu 0 (bf s)=some (b9 p s):=by
 have hl:=lw s;have:=zwl P p hP fu [] (bf s) (by omega) (by simp;omega)
 simpa [b9] using this
def zf3(fu:Nat)(hfu:90000000<=fu)(s:Bs)(h:s.length<=4000000:=by omega):qgz fu s=some (b9 tk s):=by
 have e:∀n,qg0 fu n=wl ot n:=by
  intro n;induction n with|zero=>rfl|succ n ih=>rw[qg0,ih];funext a b;rfl
 unfold qgz;rw[qci fu hfu s h,qB,e];exact q2s _ tk qjz fu hfu s h
def zwq(c:UInt8):qgy c=some (dz c):=by
 unfold qgy dz;rw[qjz,qB];cases tk c<;>rfl
def zwr(c:UInt8):qg3 c=some (kg c):=by
 unfold qg3 kg;rw[qjz,qB];cases tk c
 ·cases c==37
  ·cases c==39<;>rfl
  ·rfl
 ·rfl
def zwj(fu:Nat)(hfu:90000000<=fu)(s:Bs)(h:s.length<=4000000):qmg fu s=some (b9 dz s):=by
 have e:∀n,qg1 fu n=wl qgy n:=by
  intro n;induction n with|zero=>rfl|succ n ih=>rw[qg1,ih];funext a b;rfl
 unfold qmg;rw[qci fu hfu s h,qB,e];exact q2s _ dz zwq fu hfu s h
def zwk(fu:Nat)(hfu:90000000<=fu)(s:Bs)(h:s.length<=4000000:=by omega):qmh fu s=some (b9 kg s):=by
 have e:∀n,qg2 fu n=wl qg3 n:=by
  intro n;induction n with|zero=>rfl|succ n ih=>rw[qg2,ih];funext a b;rfl
 unfold qmh;rw[qci fu hfu s h,qB,e];exact q2s _ kg zwr fu hfu s h
def di(c:UInt8)(s:Bs):Bool×Bs:=match bf s with|[]=>(false,[])|d::t=>if d=c then(true,t) else(false,d::t)
def qp3(fu:Nat)(hfu:90000000<=fu)(c:UInt8)(s:Bs)(h:s.length<=4000000:=by omega):xw fu c s=some (di c s):=by
 unfold xw di;rw[qci fu hfu s h,qB]
 cases bf s with
 |nil=>rfl|cons d t=>
  rw[ay (by rfl),show am (d::t) (0:Int)=some d from rfl,qB,qch]
  by_cases hd:d=c
  ·rw[qW (by simp[hd]),ag (by simp only[qL];omega)];simp[hd]
  ·rw[qX hd];simp[hd]
def qv:Bs->Bs->Option (Bs×Bs)
 |_,[]=>none| out,c::t=>if c=34 then some (out,t) else if c=92 then(match t with
  |[]=>none| d::t'=>qv (out++[d]) t') else qv (out++[c]) t
def qdn(out:Bs)(c:UInt8)(t:Bs):qv out (c::t)=if c=34 then some (out,t) else if c=92 then(match t with
  |[]=>none| d::t'=>qv (out++[d]) t') else qv (out++[c]) t:=by cases t<;>rfl
def ge:4000000000<=a7:=by decide
def ztp(fu n:Nat):∀(ab aa out:Bs),aa.length<n->ab.length+aa.length<100000000->out.length+aa.length<100000000 ->
  qg4 fu n (ab.length:Int) (ab++aa) out=some (match qv out aa with|some (v,t)=>(v,(true,t))|none=>([],(false,ab++aa))):=by
 have hrm:=ge
 induction n using Nat.strongRecOn with
 |ind n ih=>
  intro ab aa out h hb ho;obtain⟨n,rfl⟩:∃m,n=m+1:=⟨n-1,by omega⟩
  rw[qg4,qvh]
  cases aa with
  |nil=>rw[aq];rfl|cons c t=>
   simp only[qL]at h hb ho;rw[ag (by rw[c7];omega),bg,qB,au _,lg]
   have ih1:=ih n (by omega) (ab++[c]) t (out++[c]) (by omega) (by simp;omega) (by simp;omega)
   simp only[qM,qL,qZ,qS,wM,wO]at ih1;by_cases h1:c=34
   ·rw[qX h1,ag (by rw[c7];omega),qoq,qdn,qX h1]
   rw[qW h1,lg];by_cases h2:c=92
   ·rw[qX h2,jb,c7]
    cases t with
    |nil=>rw[qX (by simp),qdn,qW h1,qX h2]|cons d t=>
     simp only[qL]at h hb ho ⊢;rw[qW (by omega),show am (ab++c::d::t) ((ab.length+1:Nat):Int)=some d by have:=bg (ab++[c]) d t;simpa using this,qB,ag,au _,qdn,qW h1,qX h2]
     have ih2:=ih n (by omega) (ab++[c,d]) t (out++[d]) (by omega) (by simp;omega) (by simp;omega)
     simp only[qM,qL,qZ,qS,wK,List.nil_append,wO]at ih2;exact ih2
   ·rw[qW h2,ag,qdn,qW h1,qW h2]
    exact ih1
def wo(s:Bs):Option (Bs×Bs):=if(di 34 s).1=true then qv [] (di 34 s).2 else some (b9 kg (di 34 s).2)
def qdu(c:UInt8)(s:Bs):(di c s).2.length<=s.length:=by
 have:=lw s;unfold di
 cases h:bf s with
 |nil=>simp|cons d t=>
  rw[h]at this;simp only[qL]at this;by_cases hd:d=c
  ·simp only[qX hd];omega
  ·simp only[qW hd,qL];omega
def zxm(fu:Nat)(hfu:90000000<=fu)(s:Bs)(h:s.length<=4000000:=by omega):∃r,qmi fu s=some (match wo s with|some (v,t)=>(v,(true,t))|none=>([],(false,r))):=by
 have hl:=qdu 34 s;unfold qmi wo;rw[qp3 fu hfu 34 s h,qB];cases hs:(di 34 s).1
 ·rw[dx,zwk fu hfu _,qW (by simp)]
  exact⟨[],rfl⟩
 ·rw[ci,qX rfl];have:=ztp fu fu [] (di 34 s).2 [] (by omega) (by simp;omega) (by simp;omega)
  exact⟨(di 34 s).2,by simpa using this⟩
def pl(s:Bs):Option ((Bs×Bs)×Bs):=if(di 61 (b9 dz s).2).1=true then(wo (di 61 (b9 dz s).2).2).map fun x=>(((b9 dz s).1,x.1),x.2) else none
def z6(p:UInt8->Bool)(s:Bs):(b9 p s).1.length+(b9 p s).2.length<=s.length:=by
 have:=lw s;have h:=congrArg List.length (List.takeWhile_append_dropWhile (p:=p) (l:=bf s));rw[qM]at h;unfold b9;simp only;omega
def zd3:∀(out s v t:Bs),qv out s=some (v,t)->v.length+t.length<out.length+s.length/\t <:+ s:=by
 intro out s
 induction s using WellFounded.induction (r:=fun(a b:Bs)=>a.length<b.length) (hwf:=InvImage.wf List.length Nat.lt_wfRel.wf) generalizing out with
 |_ s ih=>
  intro v t h
  cases s with
  |nil=>cases h
  |cons c s=>
   rw[qdn]at h;by_cases h1:c=34
   ·rw[qX h1]at h;cases h;exact⟨by simp,List.suffix_cons _ _⟩
   rw[qW h1]at h;by_cases h2:c=92
   ·rw[qX h2]at h
    cases s with
    |nil=>cases h
    |cons d s=>
     obtain⟨g1,g2⟩:=ih s (by simp;omega) (out++[d]) v t h
     refine⟨by simp at g1 ⊢;omega,g2.trans ((List.suffix_cons _ _).trans (List.suffix_cons _ _))⟩
   ·rw[qW h2]at h;obtain⟨g1,g2⟩:=ih s (by simp) (out++[c]) v t h
    exact⟨by simp at g1 ⊢;omega,g2.trans (List.suffix_cons _ _)⟩
def zfn(c:UInt8)(s:Bs):(di c s).2 <:+ s:=by
 have:=rp s;unfold di
 cases h:bf s with
 |nil=>simp|cons d t=>
  rw[h]at this;by_cases hd:d=c
  ·simp only[qX hd];exact(List.suffix_cons _ _).trans this
  ·simp only[qW hd];exact this
def zf4(p:UInt8->Bool)(s:Bs):(b9 p s).2 <:+ s:=(List.dropWhile_suffix _).trans (rp s)
def zxh{s v t:Bs}(h:wo s=some (v,t)):v.length+t.length<=s.length/\t <:+ s:=by
 have hl:=qdu 34 s;have hx:=zfn 34 s;unfold wo at h;by_cases hs:(di 34 s).1=true
 ·rw[qX hs]at h;obtain⟨g1,g2⟩:=zd3 [] _ _ _ h;exact⟨by simp at g1;omega,g2.trans hx⟩
 ·rw[qW hs]at h;have e:=qJ h;have g1:=z6 kg (di 34 s).2;have g2:=zf4 kg (di 34 s).2;rw[e]at g1 g2;simp only at g1 g2;exact⟨by omega,g2.trans hx⟩
def q0o{s n v t:Bs}(h:pl s=some ((n,v),t)):n.length+v.length+t.length<=s.length/\t <:+ s:=by
 have h1:=z6 dz s;have h1':=zf4 dz s;have h2:=qdu 61 (b9 dz s).2;have h2':=zfn 61 (b9 dz s).2;unfold pl at h;by_cases hs:(di 61 (b9 dz s).2).1=true
 ·rw[qX hs]at h
  cases hv:wo (di 61 (b9 dz s).2).2 with
  |none=>rw[hv]at h;cases h
  |some x=>
   rw[hv]at h;obtain⟨g1,g2⟩:=zxh (v:=x.1) (t:=x.2) hv;have e:=qJ h;obtain⟨rfl,e2⟩:=Prod.mk.inj (Prod.mk.inj e).1;obtain rfl:=(Prod.mk.inj e).2;subst e2;exact⟨by omega,g2.trans (h2'.trans h1')⟩
 ·rw[qW hs]at h;cases h
def pos(s r:Bs):Int:=((s.length-r.length:Nat):Int)
def qdm{s r:Bs}(h:r <:+ s):List.drop (pos s r).toNat s=r:=(List.suffix_iff_eq_drop.1 h).symm
def zdt{s r:Bs}(h:r <:+ s):∃p,s=p++r/\pos s r=(p.length:Int):=by
 obtain⟨p,rfl⟩:=h;exact⟨p,rfl,by unfold pos;simp⟩
def wd{s:Bs}{c:UInt8}{t:Bs}(h:(c::t) <:+ s):am s (pos s (c::t))=some c:=by
 obtain⟨p,rfl,e⟩:=zdt h;rw[e];exact bg p c t
def pq{s:Bs}{c:UInt8}{t:Bs}(h:(c::t) <:+ s)(hb:s.length<1000000000:=by omega):af (pos s (c::t)+1)=pos s t:=by
 have:=h.length_le;simp only[qL]at this;unfold pos;rw[au _];simp only[qL];omega
def ly{s:Bs}{c:UInt8}{t:Bs}(h:(c::t) <:+ s):pos s (c::t)<(s.length:Int):=by
 have:=h.length_le;simp only[qL]at this;unfold pos;simp only[qL];omega
def gz(s:Bs):pos s []=(s.length:Int):=by unfold pos;simp
def qp9(s:Bs):pos s s=0:=by unfold pos;simp
def ru(s r:Bs):0<=pos s r/\pos s r<=(s.length:Int):=by unfold pos;omega
def q1q{s r r':Bs}(h2:r' <:+ r):pos s r<=pos s r':=by have:=h2.length_le;unfold pos;omega
def q1r{s r r':Bs}(h:r <:+ s)(h2:r' <:+ r):List.take ((pos s r').toNat-(pos s r).toNat) (List.drop (pos s r).toNat s)=r.take (r.length-r'.length):=by
 rw[qdm h];have:=h.length_le;have:=h2.length_le;congr 1;unfold pos;omega
def zwm(p:UInt8->Bool)(r:Bs):r.take (r.length-(r.dropWhile p).length)=r.takeWhile p:=by
 have h:r.takeWhile p++r.dropWhile p=r:=List.takeWhile_append_dropWhile;have h2:=congrArg List.length h;rw[qM]at h2;rw[show r.length-(r.dropWhile p).length=(r.takeWhile p).length by omega]
 have e:r.take (r.takeWhile p).length=(r.takeWhile p++r.dropWhile p).take (r.takeWhile p).length:=by rw[h]
 rw[e,List.take_left]
def zvu(fu n:Nat)(s:Bs)(hb:s.length<100000000):∀(r:Bs),r <:+ s->r.length<n->qfr fu n s (pos s r)=some (pos s (bf r)):=by
 induction n with
 |zero=>intro r _ h;omega|succ n ih=>
  intro r hr h;rw[qfr,qtk]
  cases r with
  |nil=>rw[gz,aq];simp[bf,gz]|cons c t=>
   rw[ag (ly hr),wd hr,qB,qdo,qB,pq hr,po]
   cases hc:bl c
   ·rfl
   ·rw[aw rfl,qX rfl];exact ih t ((List.suffix_cons _ _).trans hr) (by simp only[qL]at h;omega)
def wh(fu:Nat)(hfu:90000000<=fu){s r:Bs}(h:s.length<=4000000)(hr:r <:+ s):qd fu s (pos s r)=some (pos s (bf r)):=
 zvu fu fu s (by omega) r hr (by have:=hr.length_le;omega)
def zve(fu n:Nat)(hfu:90000000<=fu)(more:Bs)(hm:more.length<100)(s:Bs)(hb:s.length<100000000):∀(r:Bs),r <:+ s->r.length<n->qfq fu n s (pos s r) more=some (pos s (r.dropWhile fun c=>tk c||more.contains c)):=by
 induction n with
 |zero=>intro r _ h;omega|succ n ih=>
  intro r hr h;rw[qfq,qtj]
  cases r with
  |nil=>rw[gz,aq];simp[gz]|cons c t=>
   rw[ag (ly hr),wd hr,qB,q2a fu (by omega),qB,pq hr,List.dropWhile_cons]
   have:=ih t ((List.suffix_cons _ _).trans hr) (by simp only[qL]at h;omega)
   cases hc:tk c
   ·rw[ay rfl,qB,zdc fu c more,qB,Bool.false_or]
    cases hd:more.contains c
    ·rfl
    ·rw[aw rfl];exact this
   ·rw[aw rfl];exact this
def qjp(fu:Nat)(hfu:90000000<=fu)(more:Bs)(hm:more.length<100){s r:Bs}(h:s.length<=4000000)(hr:r <:+ s)(p:UInt8->Bool)(hp:∀c,(tk c||more.contains c)=p c) :
  qa4 fu s (pos s r) more=some (pos s (r.dropWhile p)):=by
 have:=zve fu fu hfu more hm s (by omega) r hr (by have:=hr.length_le;omega)
 rw[show(fun c=>tk c||more.contains c)=p from funext hp]at this
 exact this
open Go.Lib (decDigits nDigits itoa atoiAll parseUint10 parseMag NumEnd)
def qil(d:Nat)(h:d<10:=by omega):(UInt8.ofNat (48+d)).toNat=48+d:=by
 rw[UInt8.toNat_ofNat'];omega
def qcu(u:Nat)(h:u<10):decDigits u=[UInt8.ofNat (48+u)]:=by rw[decDigits,dif_pos h]
def y4(u:Nat)(h:¬u<10:=by omega):decDigits u=decDigits (u/10)++[UInt8.ofNat (48+u%10)]:=by rw[decDigits,dif_neg h]
def qzk(u:Nat):decDigits u≠[]:=by
 by_cases h:u<10
 ·rw[qcu u h];simp
 ·rw[y4 u h];simp
def qct(u:Nat):∀c∈decDigits u,48<=c.toNat/\c.toNat<=57:=by
 induction u using Nat.strongRecOn with
 |ind u ih=>
  intro c hc;by_cases h:u<10
  ·rw[qcu u h]at hc;rw[List.mem_singleton.1 hc,qil u h];omega
  ·rw[y4 u h]at hc;rcases List.mem_append.1 hc with hc|hc
   ·exact ih (u/10) (by omega) c hc
   ·rw[List.mem_singleton.1 hc,qil _];omega
def qq(k:Nat):∀u,u<10 ^ k->1<=k->(decDigits u).length<=k:=by
 induction k with
 |zero=>intro u _ h;omega|succ k ih=>
  intro u hu _;by_cases h:u<10
  ·rw[qcu u h];simp
  ·rw[y4 u h,qM,wD];have hk:1<=k:=by
    rcases Nat.eq_zero_or_pos k with h0|h0
    ·subst h0;simp at hu;omega
    ·exact h0
   have:=ih (u/10) (by rw[Nat.pow_succ]at hu;omega) hk
   omega
def qu(a:Nat)(l:Bs):Nat:=l.foldl (fun a c=>10*a+(c.toNat-48)) a
def qzr(u:Nat):qu 0 (decDigits u)=u:=by
 induction u using Nat.strongRecOn with
 |ind u ih=>
  by_cases h:u<10
  ·rw[qcu u h];show 10*0+((UInt8.ofNat (48+u)).toNat-48)=u;rw[qil u h];omega
  ·rw[y4 u h];unfold qu;rw[List.foldl_append];have:=ih (u/10) (by omega)
   unfold qu at this;rw[this];show 10*(u/10)+((UInt8.ofNat (48+u%10)).toNat-48)=u;rw[qil _];omega
def znr{u v:Nat}(h:decDigits u=decDigits v):u=v:=by rw[← qzr u,h,qzr]
def zsk:∀(l:Bs)(a:Nat)(c:UInt8),parseUint10 a (l++[c])=match parseUint10 a l with | .ok b=>parseUint10 b [c]|e=>e:=by
 intro l
 induction l with
 |nil=>intro a c;rfl|cons d l ih=>
  intro a c;rw[wK,parseUint10,parseUint10];by_cases h1:48<=d.toNat/\d.toNat<=57
  ·rw[qX h1,qX h1];by_cases h2:1844674407370955162<=a
   ·rw[qX h2,qX h2]
   ·rw[qW h2,qW h2];by_cases h3:18446744073709551616<=a*10+(d.toNat-48)
    ·rw[qX h3,qX h3]
    ·rw[qW h3,qW h3,ih]
  ·rw[qW h1,qW h1]
def zsl(u:Nat):u<9223372036854775808->parseUint10 0 (decDigits u) = .ok u:=by
 induction u using Nat.strongRecOn with
 |ind u ih=>
  intro hu;have step:∀a d,a*10+d=u->d<10->parseUint10 a [UInt8.ofNat (48+d)] = .ok u:=by
   intro a d h1 h2;rw[parseUint10,qil d h2,qX (by omega),qW (by omega),qW (by omega),parseUint10]
   congr 1;omega
  by_cases h:u<10
  ·rw[qcu u h];exact step 0 u (by omega) h
  ·rw[y4 u h,zsk,ih (u/10) (by omega) (by omega)]
   exact step (u/10) (u%10) (by omega) (by omega)
def zl9(u:Nat)(hu:u<9223372036854775808:=by omega):atoiAll (decDigits u) = .ok (u:Int):=by
 have hd:=qct u;have hp:=zsl u hu;have hne:=qzk u
 cases hl:decDigits u with
 |nil=>exact absurd hl hne|cons c r=>
  rw[hl]at hd hp;have hc:=hd c qH;unfold atoiAll;simp only[];rw[qW (c:=c.toNat=43\/c.toNat=45) (by omega),parseMag,qW (by simp),hp]
  simp only[];rw[qW (by omega),qW (by omega),qW (by omega)]
def qpt(u:Nat):itoa (u:Int)=decDigits u:=by unfold itoa;rw[qW (by omega)];simp
def zrz(u:Nat)(most:Int)(h:(u:Int)<=most)(hm:most<9223372036854775808):gx (decDigits u) most=((u:Int),true):=by
 unfold gx;rw[zl9 u]
 simp only[];rw[qX ⟨qpt u,by omega,h⟩]
def q1b{s:Bs}{most:Int}(h:(gx s most).2=true):∃u:Nat,s=decDigits u/\(u:Int)<=most/\gx s most=((u:Int),true):=by
 have h0:=h;unfold gx at h;split at h
 ·rename_i v hv;by_cases hc:itoa v=s/\0<=v/\v<=most
  ·obtain⟨u,rfl⟩:∃u:Nat,v=u:=⟨v.toNat,by omega⟩
   refine⟨u,by rw[← hc.1,qpt],hc.2.2,?_⟩
   unfold gx;rw[hv];simp only[];rw[qX hc]
  ·rw[qW hc]at h;cases h
 ·cases h
def qq4{x:Int}(h1:0<=x:=by omega)(h2:x<18446744073709551616:=by omega):IntKind.u64.wrap x=x:=by
 unfold IntKind.wrap;simp[IntKind.signed,IntKind.bits];omega
def zad(d:Nat)(h:d<10):List.take (d+1-d) (List.drop d ([48,49,50,51,52,53,54,55,56,57]:Bs))=[UInt8.ofNat (48+d)]:=by
 have:∀d:_root_.Fin 10,List.take (d.val+1-d.val) (List.drop d.val ([48,49,50,51,52,53,54,55,56,57]:Bs))=[UInt8.ofNat (48+d.val)]:=by decide
 exact this ⟨d,h⟩
def znv(fu:Nat)(k:Nat):∀(n u:Nat),k<=n->u<10 ^ k->1<=k->u<9223372036854775808->qfk fu n (u:Int)=some (decDigits u):=by
 induction k with
 |zero=>intro n u _ _ h;omega|succ k ih=>
  intro n u hn hu _ hb;obtain⟨n,rfl⟩:∃m,n=m+1:=⟨n-1,by omega⟩
  rw[qfk,qlk];by_cases h:u<10
  ·rw[ag,show(u:Int)+1=((u+1:Nat):Int) by omega,qq4,ag,qcu u h]
   simp only[qY];rw[zad u h]
  ·have hk:1<=k:=by
    rcases Nat.eq_zero_or_pos k with h0|h0
    ·subst h0;simp at hu;omega
    ·exact h0
   have e1:Int.tdiv (u:Int) 10=((u/10:Nat):Int):=by rw[Int.tdiv_eq_ediv_of_nonneg (by omega)];omega
   have e2:Int.tmod (u:Int) 10=((u%10:Nat):Int):=by rw[Int.tmod_eq_emod_of_nonneg (by omega)];omega
   have hr:=ih n (u/10) (by omega) (by rw[Nat.pow_succ]at hu;omega) hk (by omega)
   have ac:(decDigits (u/10)).length<=19:=qq 19 _ (by omega) (by omega)
   rw[aq,e1,qq4,hr,qB,e2,show((u%10:Nat):Int)+1=((u%10+1:Nat):Int) by omega,qq4,ag]
   simp only[qY];simp only[zad (u%10) (Nat.mod_lt _ (by decide))]
   rw[ag (by simp[ap];omega),y4 u h]
def qp6(fu:Nat)(hfu:100<=fu)(u:Nat)(hu:u<9223372036854775808:=by omega):ol fu (u:Int)=some (decDigits u):=by
 unfold ol qtf;rw[aq,qq4,znv fu 19 fu u (by omega) (by omega) (by omega) hu];rfl
def zn0(fu n:Nat):∀(ab aa:Bs)(a:Nat),aa.length<n->ab.length+aa.length<100000000->ab.length<=9->a<10 ^ ab.length ->
  qfm fu n (ab++aa) 1 9 (a:Int) (ab.length:Int)=some (if(∀c∈aa,48<=c.toNat/\c.toNat<=57)/\1<=ab.length+aa.length/\ab.length+aa.length<=9 then(qu a aa:Int) else -1):=by
 induction n with
 |zero=>intro ab aa a h;omega|succ n ih=>
  intro ab aa a h hb hp ha;have hpow:10 ^ ab.length<=10 ^ 9:=Nat.pow_le_pow_right (by omega) hp
  rw[qfm,qtg]
  cases aa with
  |nil=>
   rw[aq,mv,qB]
   simp only[List.append_nil,qZ,Nat.add_zero,List.not_mem_nil,false_implies,implies_true,true_and];by_cases h1:1<=ab.length/\ab.length<=9
   ·rw[decide_eq_true (by omega),ci,qX h1];rfl
   ·rw[decide_eq_false (by omega),dx,qW h1]
  |cons c t=>
   simp only[qL]at h hb;rw[ag (by rw[c7];omega),bg,qB,mv,qB]
   by_cases hc:48<=c.toNat/\c.toNat<=57
   ·rw[decide_eq_true (by omega),ci,qfn]
    by_cases h9:9<=ab.length
    ·rw[ag,qW (by simp only[qL];omega)]
    ·rw[aq,qth,bg,qB,au _]
     have hsub:(c-48).toNat=c.toNat-48:=by
      rw[UInt8.toNat_sub_of_le _ _ (by rw[UInt8.le_iff_toNat_le];show 48<=_;omega)];rfl
     rw[hsub,show(10:Int)*(a:Int)=((10*a:Nat):Int) by omega,eg (x:=((10*a:Nat):Int)) (by omega) (by omega),l8 _ _]
     have:=ih (ab++[c]) t (10*a+(c.toNat-48)) (by omega) (by simp;omega) (by simp;omega) (by simp only[qM,qL,qZ,wO,Nat.pow_succ];omega)
     simp only[qM,qL,qZ,qS,wM,wO]at this;refine this.trans ?_;congr 1;by_cases hq:(∀x∈t,48<=x.toNat/\x.toNat<=57)/\1<=ab.length+1+t.length/\ab.length+1+t.length<=9
     ·rw[qX hq,qX ⟨fun x hx=>(List.mem_cons.1 hx).elim (fun e=>e▸hc) (hq.1 x),by simp only[qL];omega,by simp only[qL];omega⟩];rfl
     ·rw[qW hq,qW (fun g=>hq ⟨fun x hx=>g.1 x (qE _ hx),by have:=g.2;simp only[qL]at this;omega,by have:=g.2;simp only[qL]at this;omega⟩)]
   ·rw[decide_eq_false (by omega),dx,qfn,aw rfl,qW (fun g=>hc (g.1 c qH))]
def znz(fu:Nat)(s:Bs)(h:s.length<fu)(hb:s.length<100000000):qfl fu s 1 9=some (if(∀c∈s,48<=c.toNat/\c.toNat<=57)/\1<=s.length/\s.length<=9 then(qu 0 s:Int) else -1):=by
 have:=zn0 fu fu [] s 0 h (by simpa using hb) (by simp) (by simp)
 simpa [qfl] using this
def zn9:∀(s:Bs)(a k:Nat),(∀c∈s,48<=c.toNat/\c.toNat<=57)->a<10 ^ k->qu a s<10 ^ (k+s.length):=by
 intro s
 induction s with
 |nil=>intro a k _ h;exact h|cons c s ih=>
  intro a k hd h;have hc:=hd c qH;have:=ih (10*a+(c.toNat-48)) (k+1) (fun x hx=>hd x (qE _ hx)) (by rw[Nat.pow_succ];omega)
  rw[qL,show k+(s.length+1)=k+1+s.length by omega];exact this
def zl(s:Bs):Option Int:=if(gx s 1099511627776).2=true/\(gx s 1099511627776).1<1000000000 then some (gx s 1099511627776).1 else none
def zry(fu:Nat)(hfu:1000<=fu)(s:Bs)(h:s.length<fu:=by omega)(hb:s.length<100000000:=by omega):∃x:Int,qfl fu s 1 9=some x /\
  ((zl s=some x/\0<=x/\ol fu x=some s)\/(zl s=none/\(x<0\/(0<=x/\∃t,ol fu x=some t/\t≠s)))):=by
 refine⟨_,znz fu s h hb,?_⟩;by_cases hq:(∀c∈s,48<=c.toNat/\c.toNat<=57)/\1<=s.length/\s.length<=9
 ·rw[qX hq];have hlt:qu 0 s<1000000000:=by
   have h1:=zn9 s 0 0 hq.1 (by simp)
   have h2:10 ^ (0+s.length)<=10 ^ 9:=Nat.pow_le_pow_right (by omega) (by omega)
   omega
  have hN:=qp6 fu (by omega) (qu 0 s)
  by_cases he:decDigits (qu 0 s)=s
  ·refine .inl ⟨?_,by omega,by rw[hN,he]⟩
   have:=zrz (qu 0 s) 1099511627776 (by omega) (by decide)
   rw[he]at this;unfold zl;rw[this,qX ⟨rfl,by simp only;omega⟩]
  ·refine .inr ⟨?_,.inr ⟨by omega,_,hN,he⟩⟩
   unfold zl;rw[qW];rintro⟨g1,_⟩
   obtain⟨u,rfl,_,_⟩:=q1b g1;exact he (by rw[qzr])
 ·rw[qW hq];refine .inr ⟨?_,.inl (by omega)⟩
  unfold zl;rw[qW];rintro⟨g1,g2⟩
  obtain⟨u,rfl,_,g3⟩:=q1b g1;rw[g3]at g2;simp only at g2;refine hq ⟨qct u,?_,qq 9 u (by omega) (by omega)⟩
  have:=qzk u
  cases hd:decDigits u with|nil=>exact absurd hd this|cons=>simp
end Go.Sym
namespace Go.Sym
def hv(c:UInt8):Option UInt8:=if 48<=c/\c<=57 then some (c-48) else if 65<=c/\c<=70 then some (c-65+10) else if 97<=c/\c<=102 then some (c-97+10) else none
def hx(a b:UInt8):Option UInt8:=(hv a).bind fun x=>(hv b).map fun y=>16*x+y
def zmi:∀n:_root_.Fin 256,qbg (UInt8.ofNat n.val)=some ((hv (UInt8.ofNat n.val)).getD 0,(hv (UInt8.ofNat n.val)).isSome):=by decide +kernel
def zmj(c:UInt8):qbg c=some ((hv c).getD 0,(hv c).isSome):=jl (fun c=>qbg c=some ((hv c).getD 0,(hv c).isSome)) zmi c
def pg(c:UInt8):Int:=match hv c with|some x=>(x.toNat:Int)|none => -1
def nw:List UInt8:=[48,49,50,51,52,53,54,55,56,57,65,66,67,68,69,70]
def qix(c:UInt8):Nat->Nat->Int|0,_ => -1|m+1,k=>if nw.getD k 0=c then(k:Int) else if(nw.map lo).getD k 0=c then(k:Int) else qix c m (k+1)
def zpi:∀n:_root_.Fin 256,qix (UInt8.ofNat n.val) 16 0=pg (UInt8.ofNat n.val):=by decide +kernel
def zuj(fu:Nat)(hfu:16<fu)(c:UInt8):∀(m k n:Nat),m+k=16->m<n->qap fu n c (k:Int)=some (qix c m k):=by
 intro m
 induction m with
 |zero=>
  intro k n hk hn;obtain⟨n,rfl⟩:∃j,n=j+1:=⟨n-1,by omega⟩
  rw[qap,qk8,aq];rfl
 |succ m ih=>
  intro k n hk hn;obtain⟨n,rfl⟩:∃j,n=j+1:=⟨n-1,by omega⟩
  have h1:k<nw.length:=by show k<16;omega
  have h2:k<(nw.map lo).length:=by show k<16;omega
  have i1:am nw (k:Int)=some (nw.getD k 0):=by rw[vm _ _ h1];exact congrArg some (List.getElem_eq_getD 0)
  have i2:am (nw.map lo) (k:Int)=some ((nw.map lo).getD k 0):=by rw[vm _ _ h2];exact congrArg some (List.getElem_eq_getD 0)
  rw[qap,qk8,ag]
  rw[show([48,49,50,51,52,53,54,55,56,57,65,66,67,68,69,70]:List UInt8)=nw from rfl]
  rw[i1,qB,lg,qix];by_cases q:nw.getD k 0=c
  ·rw[qX q,qX q]
  ·rw[qW q,qW q,qqe fu nw (by show 16<fu;omega) (by decide),qB,i2,qB,lg]
   by_cases q2:(nw.map lo).getD k 0=c
   ·rw[qX q2,qX q2]
   ·rw[qW q2,qW q2,au _,ih (k+1) n (by omega) (by omega)]
def qql(fu:Nat)(hfu:17<fu)(c:UInt8):w9 fu c=some (pg c):=by
 have:=zuj fu (by omega) c 16 0 fu rfl (by omega)
 unfold w9;rw[show(0:Int)=((0:Nat):Int) from rfl,this,jl (fun c=>qix c 16 0=pg c) zpi c]
def zpo:∀n:_root_.Fin 256,(hv (UInt8.ofNat n.val)).all (fun x=>decide (x.toNat<16))=true:=by decide +kernel
def qpn(c x:UInt8)(h:hv c=some x):x.toNat<16:=by
 have:=jl (fun c=>(hv c).all (fun x=>decide (x.toNat<16))=true) zpo c
 rw[h]at this;simpa using this
def zw7:∀x y:_root_.Fin 16,(py (UInt8.ofNat x.val) (min (4:Int).toNat 8))|||UInt8.ofNat y.val=16*UInt8.ofNat x.val+UInt8.ofNat y.val/\gl (af ((af ((16:Int)*((UInt8.ofNat x.val).toNat:Int)))+((UInt8.ofNat y.val).toNat:Int)))=16*UInt8.ofNat x.val+UInt8.ofNat y.val:=by decide +kernel
def zgi(x y:UInt8)(hx1:x.toNat<16)(hy1:y.toNat<16):(py x (min (4:Int).toNat 8))|||y=16*x+y/\gl (af ((af ((16:Int)*(x.toNat:Int)))+(y.toNat:Int)))=16*x+y:=by
 have:=zw7 ⟨x.toNat,hx1⟩ ⟨y.toNat,hy1⟩;simpa using this
def qdl:Bs->Option UInt8|a::b::_=>hx a b|_=>none
def zsb(r:Bs):∃v,qgc r=some (v,(qdl r).isSome)/\∀x,qdl r=some x->v=x:=by
 match r with
 |[]=>exact⟨0,rfl,fun x h=>by cases h⟩
 |[_]=>exact⟨0,rfl,fun x h=>by cases h⟩
 |a::b::t=>
  have e:qgc (a::b::t)=some ((py ((hv a).getD 0) (min (4:Int).toNat 8))|||(hv b).getD 0,(hv a).isSome&&(hv b).isSome):=by
   unfold qgc;rw[aq (by simp only[qL];omega),show am (a::b::t) 0=some a from rfl,show am (a::b::t) 1=some b from rfl]
   simp only[qB,zmj];cases (hv a).isSome<;>rfl
  rw[e,show qdl (a::b::t)=hx a b from rfl]
  unfold hx
  cases ha:hv a with
  |none=>exact⟨_,rfl,fun x h=>by cases h⟩
  |some x=>
   cases hb:hv b with
   |none=>exact⟨_,rfl,fun x h=>by cases h⟩
   |some y=>exact⟨_,rfl,fun z h=>by cases h;exact(zgi x y (qpn a x ha) (qpn b y hb)).1⟩
def ez:Bs->Bs|[]=>[]|[c]=>[c]|[c,d]=>[c,d]|c::a::b::r=>if c=37 then(match hx a b with|some x=>x::ez r|none=>c::ez (a::b::r)) else c::ez (a::b::r)
def q1l(c:UInt8)(r:Bs)(h:c≠37):ez (c::r)=c::ez r:=by
 match r with|[]=>rfl|[_]=>rfl|_::_::_=>rw[ez,qW h]
def q1k(r:Bs):ez (37::r)=match qdl r with|some x=>x::ez (r.drop 2)|none=>37::ez r:=by
 match r with
 |[]=>rfl|[_]=>rfl|a::b::t=>
  rw[ez,qX rfl];show _=match hx a b with|some x=>x::ez t|none=>37::ez (a::b::t)
  cases hx a b<;>rfl
def zdr:∀(n:Nat)(s:Bs),s.length<=n->(ez s).length<=s.length:=by
 intro n
 induction n with
 |zero=>intro s h;have:s=[]:=List.eq_nil_of_length_eq_zero (by omega);subst this;simp[ez]|succ n ih=>
  intro s h
  cases s with
  |nil=>simp[ez]|cons c r=>
   simp only[qL]at h;have h1:=ih r (by omega)
   by_cases hc:c=37
   ·subst hc;rw[q1k]
    cases hp:qdl r with
    |none=>simp only[qL];omega|some x=>
     have h2:=ih (r.drop 2) (by simp;omega)
     simp only[qL,List.length_drop]at h2 ⊢;omega
   ·rw[q1l c r hc];simp only[qL];omega
def zwo(fu n:Nat):∀(ab aa out:Bs),aa.length<n->ab.length+aa.length<100000000->out.length+aa.length<100000000 ->
  qgw fu n (ab++aa) (ab.length:Int) out=some (out++ez aa):=by
 have hrm:=ge
 induction n using Nat.strongRecOn with
 |ind n ih=>
  intro ab aa out h hb ho;obtain⟨n,rfl⟩:∃m,n=m+1:=⟨n-1,by omega⟩
  rw[qgw,qvc]
  cases aa with
  |nil=>rw[aq];simp[ez]|cons c t=>
   simp only[qL]at h hb ho;have one:=ih n (by omega) (ab++[c]) t (out++[c]) (by omega) (by simp;omega) (by simp;omega)
   simp only[qM,qL,qZ,qS,wM,wO]at one;rw[ag (by rw[c7];omega),bg,qB,lg,au _]
   by_cases hc:c=37
   ·rw[qX hc,ag (by rw[c7];omega),qoq]
    obtain⟨v,h1,h2⟩:=zsb t;rw[h1,qB];subst hc;rw[q1k]
    cases hp:qdl t with
    |none=>
     rw[Option.isSome_none,ay rfl,qB,ag]
     exact one
    |some x=>
     obtain⟨a,b,r,rfl⟩:∃a b r,t=a::b::r:=by
      match t,hp with|a::b::r,_=>exact⟨a,b,r,rfl⟩
     simp only[qL]at h hb ho;rw[Option.isSome_some,aw rfl,h2 x hp,ag,show(ab.length:Int)+2=((ab.length+2:Nat):Int) by omega,eg (x:=((ab.length+2:Nat):Int)) (by omega) (by omega),au _]
     have two:=ih n (by omega) (ab++[37,a,b]) r (out++[x]) (by omega) (by simp;omega) (by simp;omega)
     simp only[qM,qL,qZ,qS,wK,List.nil_append,wO]at two;exact two
   ·rw[qW hc,qB,ag,q1l c t hc]
    exact one
def qqu(k:Int)(v:Bs):Bs:=if k=0/\6<=v.length/\lk (v.take 6) [117,116,102,56,39,39]=true then v.drop 6 else v
def nd(p:Pc):Bs:=if p.2.2.1=true then ez (qqu p.2.1 p.2.2.2) else p.2.2.2
def qqz(fu:Nat)(hfu:90000000<=fu)(s:Bs)(h:s.length<=4000000):qbn fu s=some (ez s):=by
 unfold qbn;have:=zwo fu fu [] s [] (by omega) (by simp;omega) (by simp;omega)
 simpa using this
def zwn(fu:Nat)(hfu:90000000<=fu)(p:Pc)(h:p.2.2.2.length<=4000000:=by omega):qmd fu p=some (nd p):=by
 unfold qmd nd qqu;cases hs:p.2.2.1
 ·rfl
 rw[ci,qX rfl,jb];by_cases h0:p.2.1=0
 ·rw[qX h0];by_cases h6:6<=p.2.2.2.length
  ·rw[ag,ag,ud fu hfu _ _ (by show(List.take 6 _).length<=_;rw[List.length_take];omega) (by simp),qB]
   show ux fu p.2.2.2 (lk (p.2.2.2.take 6) _)=_;rw[ux];cases hl:lk (p.2.2.2.take 6) [117,116,102,56,39,39]
   ·rw[ay rfl,qqz fu hfu _ h,qW (by simp)]
   ·rw[aw rfl,ag]
    show qbn fu (p.2.2.2.drop 6)=_;rw[qqz fu hfu _ (by simp;omega),qX ⟨h0,h6,rfl⟩]
  ·rw[aq,ux,ay rfl,qqz fu hfu _ h,qW (by omega)]
 ·rw[qW h0,ux,ay rfl,qqz fu hfu _ h,qW (by omega)]
def qjy(p:Pc):(nd p).length<=p.2.2.2.length:=by
 unfold nd;split
 ·refine Nat.le_trans (zdr _ _ (wF _)) ?_;unfold qqu;split
  ·simp
  ·exact wF _
 ·exact wF _
def qjs(ab:Bs)(c:UInt8)(t:Bs):List.take (((ab.length+1:Nat):Int).toNat-((ab.length:Nat):Int).toNat) (List.drop ((ab.length:Nat):Int).toNat (ab++c::t))=[c]:=by
 rw[y5,show((ab.length+1:Nat):Int).toNat-((ab.length:Nat):Int).toNat=1 by omega];rfl
def zxe(fu n:Nat)(hfu:100<=fu):∀(ab aa out:Bs),aa.length<n->ab.length+aa.length<100000000->out.length+aa.length<100000000 ->
  qa5 fu n (ab++aa) out (ab.length:Int)=some (out++ez aa):=by
 induction n using Nat.strongRecOn with
 |ind n ih=>
  intro ab aa out h hb ho;obtain⟨n,rfl⟩:∃m,n=m+1:=⟨n-1,by omega⟩
  rw[qa5,qtl]
  cases aa with
  |nil=>rw[aq];simp[ez]|cons c t=>
   simp only[qL]at h hb ho;have one:=ih n (by omega) (ab++[c]) t (out++[c]) (by omega) (by simp;omega) (by simp;omega)
   simp only[qM,qL,qZ,qS,wM,wO]at one;have hno:up fu (qa5 fu n) (ab++c::t) out (ab.length:Int) false=some (out++c::ez t):=by
    rw[up,ay rfl,au _,ag (by rw[c7];omega),qjs,ag (by simp[ap];omega),one]
    try simp
   rw[ag (by rw[c7];omega),bg,qB,lg,show(ab.length:Int)+2=((ab.length+2:Nat):Int) by omega,eg (x:=((ab.length+2:Nat):Int)) (by omega) (by omega),au _]
   by_cases hc:c=37
   ·subst hc;rw[qX rfl,q1k]
    match t with
    |[]=>rw[aq (by rw[c7];simp only[qZ];omega),hno];rfl|[x]=>rw[aq (by rw[c7];simp only[qL,qZ];omega),hno];rfl|a::b::r=>
     simp only[qL]at h hb ho;have i1:am (ab++37::a::b::r) ((ab.length+1:Nat):Int)=some a:=by have:=bg (ab++[37]) a (b::r);simpa using this
     have i2:am (ab++37::a::b::r) ((ab.length+2:Nat):Int)=some b:=by have:=bg (ab++[37,a]) b r;simpa using this
     rw[ag (by rw[c7];simp only[qL];omega),i1,qB,qql fu (by omega),qB]
     show _=some (out++match hx a b with|some x=>x::ez r|none=>37::ez (a::b::r))
     unfold hx
     cases ha:hv a with
     |none=>
      have:pg a = -1:=by unfold pg;rw[ha]
      rw[this,aq,hno];rfl
     |some x=>
      have hI:pg a=(x.toNat:Int):=by unfold pg;rw[ha]
      rw[hI,ag,i2,qB,qql fu (by omega),qB]
      cases hb':hv b with
      |none=>
       have:pg b = -1:=by unfold pg;rw[hb']
       rw[this,decide_eq_false (by omega),hno];rfl
      |some y=>
       have hJ:pg b=(y.toNat:Int):=by unfold pg;rw[hb']
       rw[hJ,decide_eq_true (by omega),up,aw rfl,au _,i1,qB,qql fu (by omega),qB,show(ab.length:Int)+2=((ab.length+2:Nat):Int) by omega,eg (x:=((ab.length+2:Nat):Int)) (by omega) (by omega),i2,qB,qql fu (by omega),qB,hI,hJ,(zgi x y (qpn a x ha) (qpn b y hb')).2,ag (by simp[ap];omega),au _]
       have two:=ih n (by omega) (ab++[37,a,b]) r (out++[16*x+y]) (by omega) (by simp;omega) (by simp;omega)
       simp only[qM,qL,qZ,qS,wK,List.nil_append,wO]at two;exact two
   ·rw[qW hc,hno,q1l c t hc]
def zxd(fu:Nat)(hfu:90000000<=fu)(s:Bs)(h:s.length<=4000000):qln fu s=some (ez s):=by
 have:=zxe fu fu (by omega) [] s [] (by omega) (by simp;omega) (by simp;omega)
 simpa [qln] using this
def o8(k:UInt8):Bs->Option (Bs×Bs)|[]=>none|c::t=>if c=k then some ([],t) else(o8 k t).map fun x=>(c::x.1,x.2)
def qze(k:UInt8)(t r:Bs)(h:∀x∈t,x≠k):o8 k (t++k::r)=some (t,r):=by
 induction t with
 |nil=>rw[List.nil_append,o8,qX rfl]|cons c t ih=>
  rw[wK,o8,qW (h c qH),ih (fun x hx=>h x (qE _ hx))];rfl
def qzf(k:UInt8)(t:Bs)(h:∀x∈t,x≠k):o8 k t=none:=by
 induction t with|nil=>rfl|cons c t ih=>rw[o8,qW (h c qH),ih (fun x hx=>h x (qE _ hx))];rfl
def zvv(s:Bs)(k:UInt8):ql9 s [k]=some (Lib.indexByte s k):=by
 unfold ql9;rw[ay (by rfl)]
 unfold qma;by_cases h:[k]=s
 ·subst h;rw[aw];show some 0=some (Lib.indexByte ([]++[k]) k);rw[qc8 k [] [] (by simp)];rfl
 ·rw[ay (by simpa using h),aw,show am [k] 0=some k from rfl];rfl
def znm(s:Bs)(k:UInt8)(h:s.length<=4000000:=by omega):qhk s [k]=some (match o8 k s with|some x=>(x.1,(x.2,true))|none=>(s,([],false))):=by
 unfold qhk quw;rw[zvv,qB];rcases zy k s with⟨t,r,rfl,ht⟩|hn
 ·rw[qM,qL]at h;rw[qc8 k t r ht,qze k t r ht,ag,ag (by rw[c7];omega),show(([k]:Bs).length:Int)=1 from rfl,au _,ag (by rw[c7];omega),qoq,z7];rfl
 ·rw[qc9 k s hn,qzf k s hn,aq];rfl
def nq(s:Bs):Bs×Bool:=if s.getLast? = some 42 then(s.dropLast,true) else(s,false)
def znl(t:Bs)(hb:t.length<=4000000:=by omega):qm2 t [42]=some (nq t):=by
 unfold qm2 qux qgj nq;rw[show(([42]:List UInt8).length:Int)=1 from rfl]
 rcases List.eq_nil_or_concat t with rfl|⟨u,c,rfl⟩
 ·rfl
 ·rw[List.concat_eq_append]at *;simp only[qM,qL,qZ]at hb;rw[ph,p6 _,ag,ag,qB,List.getLast?_concat,List.dropLast_concat]
  have e:List.drop ((u.length:Nat):Int).toNat (u++[c])=[c]:=y5 u [c];rw[e,qqy];by_cases hc:c=42
  ·subst hc;rw[qX rfl,show([(42:UInt8)]==[42])=true from rfl,ci,ag];rfl
  ·rw[qW (by simpa using hc),show([c]==[(42:UInt8)])=false by simpa using hc];rfl
def fo(nm v:Bs):Option Pc:=match o8 42 nm with|none=>if nm=[] then none else some (nm,-1,false,v)|some x=>if x.1≠[]/\(gx (nq x.2).1 1099511627776).2=true then some (x.1,(gx (nq x.2).1 1099511627776).1,(nq x.2).2,v) else none
def gy(nm v:Bs):Option Pc:=match fo nm v with|some p=>if p.2.1<1000000000 then some p else none|none=>none
def q95{k:UInt8}{s:Bs}{x:Bs×Bs}(h:o8 k s=some x):x.1.length+x.2.length<s.length:=by
 rcases zy k s with⟨t,r,rfl,ht⟩|hn
 ·rw[qze k t r ht]at h;cases h;simp only[qM,qL];omega
 ·rw[qzf k s hn]at h;cases h
def zal(s:Bs):(nq s).1.length<=s.length:=by unfold nq;split<;>simp
def zds{nm v:Bs}{p:Pc}(h:fo nm v=some p):p.1.length<=nm.length/\p.2.2.2=v /\ -1<=p.2.1/\p.2.1<=1099511627776/\p.1≠[]:=by
 unfold fo at h
 cases hc:o8 42 nm with
 |none=>
  rw[hc]at h;simp only at h;by_cases hn:nm=[]
  ·rw[qX hn]at h;cases h
  ·rw[qW hn]at h;cases h;exact⟨wF _,rfl,by simp only;omega,by simp only;omega,hn⟩
 |some x=>
  rw[hc]at h;simp only at h;by_cases hn:x.1≠[]/\(gx (nq x.2).1 1099511627776).2=true
  ·rw[qX hn]at h;obtain⟨u,_,h1,h2⟩:=q1b hn.2;have hl:=q95 hc;cases h
   rw[h2];exact⟨by simp only;omega,rfl,by simp only;omega,by simp only;omega,hn.1⟩
  ·rw[qW hn]at h;cases h
def zr1(s:Bs)(h:s.length<=4000000:=by omega):xt s 1099511627776=some (gx s 1099511627776):=by unfold xt;rw[ag]
def zrf(fu:Nat)(hfu:90000000<=fu)(s:Bs)(h:s.length<=4000000:=by omega):∃R,qmf fu s=some R/\match pl s with
  |none=>R.2.1=false|some x=>match fo x.1.1 x.1.2 with
   |none=>R.2.1=false|some p=>R=(p,(true,x.2)):=by
 have l1:=z6 dz s;have l2:=qdu 61 (b9 dz s).2;unfold qmf pl;rw[zwj fu hfu s h,qB,qp3 fu hfu 61 _,qB]
 cases hs:(di 61 (b9 dz s).2).1
 ·rw[dx,qW (by simp)];exact⟨_,rfl,rfl⟩
 rw[ci,qX rfl];obtain⟨r,hv⟩:=zxm fu hfu (di 61 (b9 dz s).2).2
 rw[hv,qB,znm _ 42,qB]
 generalize hx:wo (di 61 (b9 dz s).2).2=vs;generalize hn:(b9 dz s).1=nm at *
 cases hc:o8 42 nm with
 |none=>
  simp only[qF]
  cases vs with
  |none=>exact⟨_,rfl,rfl⟩|some x=>
   refine⟨_,rfl,?_⟩;simp only[wQ];unfold fo;rw[hc]
   cases nm with|nil=>rfl|cons c nm=>rfl
 |some y=>
  have l3:=q95 hc;have l4:=zal y.2;simp only[qT];rw[znl _,qB,zr1 _,qB]
  cases vs with
  |none=>exact⟨_,rfl,rfl⟩|some x=>
   simp only[qT,wQ];unfold fo;rw[hc];simp only;cases hq:(gx (nq y.2).1 1099511627776).2
   ·rw[qW (by simp)];exact⟨_,rfl,rfl⟩
   ·by_cases hy:y.1=[]
    ·rw[qW (by simp[hy])];refine⟨_,rfl,?_⟩;simp[hy]
    ·rw[qX ⟨hy,rfl⟩];refine⟨_,rfl,?_⟩;simp only;congr 2
     cases hy1:y.1 with|nil=>exact absurd hy1 hy|cons=>rfl
def dn(f:Bs->Bs->Option Pc):Nat->List Pc->Bs->Option (List Pc)
 |0,_,_=>none|n+1,acc,s=>match bf s with
  |[]=>some acc| c::t=>if c=59 then(match pl t with
   |none=>none|some x=>match f x.1.1 x.1.2 with
    |none=>none| some p=>dn f n (acc++[p]) x.2) else none
def c8(l:List Pc):Nat:=(l.map fun p=>p.1.length+p.2.2.2.length+1).sum
def zf1(l:List Pc)(p:Pc):c8 (l++[p])=c8 l+(p.1.length+p.2.2.2.length+1):=by unfold c8;simp
def mw(l:List Pc):l.length<=c8 l:=by
 unfold c8
 induction l with|nil=>simp|cons p l ih=>simp only[List.map_cons,List.sum_cons,qL];omega
def y7(R:qhw):Prop:=match R with | .inl x=>x.2.2=false | .inr x=>x.2.2.1=false
def nb(p:Pc):Prop := -1<=p.2.1/\p.2.1<=1099511627776
def zsy(fu:Nat)(hfu:90000000<=fu)(Qp:List Pc->Bool×List bz)(hQ:∀l,c8 l<=300000->(∀x∈l,nb x)->qbl fu l=some (Qp l))(a b T S:Bs):∀(n:Nat)(s:Bs)(acc:List Pc),c8 acc+s.length<=300000->s.length<n->(∀x∈acc,nb x) ->
  ∃R,qgv fu n a b s T S acc=some R/\match dn fo n acc s with
   |none=>y7 R|some l=>if(Qp l).1=true then R = .inr (T,(S,(true,(Qp l).2))) else y7 R:=by
 have hrm:=ge;intro n
 induction n with
 |zero=>intro s acc _ h;omega|succ n ih=>
  intro s acc hz h hnb;have hl:=lw s;have hal:=mw acc;rw[qgv,qva,qp3 fu hfu 59 s,qB,dn]
  unfold di
  cases ht:bf s with
  |nil=>
   simp only[qF];rw[qci fu hfu [] (by simp),qB,hQ acc (by omega) hnb,qB]
   cases hq:(Qp acc).1
   ·refine⟨_,rfl,?_⟩;rw[qW (by simp)];rfl
   ·refine⟨_,rfl,?_⟩;rw[qX rfl];rfl
  |cons c t=>
   rw[ht]at hl;simp only[qL]at hl;by_cases hc:c=59
   ·simp only[qX hc,qT];obtain⟨R,h1,h2⟩:=zrf fu hfu t
    rw[h1,qB]
    cases hx:pl t with
    |none=>
     rw[hx]at h2;simp only at h2;rw[h2,dx];exact⟨_,rfl,rfl⟩
    |some x=>
     rw[hx]at h2;simp only at h2 ⊢;have hxl:=(q0o (n:=x.1.1) (v:=x.1.2) (t:=x.2) hx).1
     cases hp:fo x.1.1 x.1.2 with
     |none=>
      rw[hp]at h2;simp only at h2;rw[h2,dx];exact⟨_,rfl,rfl⟩
     |some p=>
      rw[hp]at h2;simp only at h2 ⊢;obtain⟨g1,g2,g3,g4,_⟩:=zds hp;subst h2;have hz2:c8 (acc++[p])+x.2.length<=300000:=by rw[zf1,g2];omega
      rw[ci,ag]
      exact ih x.2 (acc++[p]) hz2 (by omega) (fun y hy=>(List.mem_append.1 hy).elim (hnb y) (fun e=>by rw[List.mem_singleton.1 e];exact⟨g3,g4⟩))
   ·simp only[qW hc,qF];rw[qci fu hfu (c::t) (by simp only[qL];omega),qB,show bf (c::t)=c::t by rw[← ht,qdh],hQ acc (by omega) hnb,qB]
    cases hq:(Qp acc).1
    ·exact⟨_,rfl,rfl⟩
    ·exact⟨_,rfl,rfl⟩
def n8(f:Bs->Bs->Option Pc)(s:Bs):Option (Bs×Bs×List Pc):=
 let a:=b9 tk s;let b:=di 47 a.2;let c:=b9 tk b.2
 if a.1=[]\/b.1=false\/c.1=[] then none else(dn f (s.length+1) [] c.2).map fun l=>(a.1,c.1,l)
def qji(f:Bs->Bs->Option Pc):∀(n:Nat)(acc:List Pc)(s:Bs),s.length<n->dn f n acc s=dn f (s.length+1) acc s:=by
 intro n
 induction n using Nat.strongRecOn with
 |ind n ih=>
  intro acc s h;obtain⟨n,rfl⟩:∃m,n=m+1:=⟨n-1,by omega⟩
  have hl:=lw s;rw[dn,dn]
  cases ht:bf s with
  |nil=>rfl|cons c t=>
   rw[ht]at hl;simp only[qL]at hl;simp only;by_cases hc:c=59
   ·rw[qX hc,qX hc]
    cases hx:pl t with
    |none=>rfl|some x=>
     have hxl:=(q0o (n:=x.1.1) (v:=x.1.2) (t:=x.2) hx).1;simp only
     cases f x.1.1 x.1.2 with
     |none=>rfl|some p=>
      simp only;rw[ih n (by omega) _ _ (by omega)]
      by_cases he:s.length=n
      ·rw[he];exact(ih n (by omega) _ _ (by omega)).symm
      ·rw[ih s.length (by omega) _ _ (by omega)]
   ·rw[qW hc,qW hc]
def zrd(fu:Nat)(hfu:90000000<=fu)(Qp:List Pc->Bool×List bz)(hQ:∀l,c8 l<=300000->(∀x∈l,nb x)->qbl fu l=some (Qp l))(s:Bs)(h:s.length<=300000:=by omega) :
  ∃R,qmc fu s=some R/\match n8 fo s with
   |none=>y7 R|some m=>if(Qp m.2.2).1=true then R = .inr (m.1,(m.2.1,(true,(Qp m.2.2).2))) else y7 R:=by
 have l1:=z6 tk s;have l2:=qdu 47 (b9 tk s).2;have l3:=z6 tk (di 47 (b9 tk s).2).2;unfold qmc n8;rw[zf3 fu hfu s,qB,qp3 fu hfu 47 _,qB,zf3 fu hfu _,qB]
 simp only[];generalize ha:b9 tk s=A at *;generalize hb:di 47 A.2=B at *;generalize hc:b9 tk B.2=C at *
 cases h1:A.1 with
 |nil=>rw[aw,uw,aw rfl,qX (.inl rfl)];exact⟨_,rfl,rfl⟩|cons x1 y1=>
  rw[ay (by rfl)]
  cases h2:B.1 with
  |false=>rw[dx,uw,aw rfl,qX (.inr (.inl rfl))];exact⟨_,rfl,rfl⟩|true=>
   rw[ci]
   cases h3:C.1 with
   |nil=>rw[uw,aw,qX (.inr (.inr rfl))];exact⟨_,rfl,rfl⟩|cons x3 y3=>
    rw[uw,ay (by rfl),qW (by simp),qvb]
    obtain⟨R,g1,g2⟩:=zsy fu hfu Qp hQ [] [] (x1::y1) (x3::y3) fu C.2 [] (by simp[c8];omega) (by omega) (by simp)
    refine⟨R,g1,?_⟩;rw[qji _ fu _ _ (by omega)]at g2
    rw[qji _ (s.length+1) _ _ (by omega)]
    cases hp:dn fo (C.2.length+1) [] C.2 with|none=>rw[hp]at g2;exact g2|some l=>rw[hp]at g2;exact g2
def zpq(c k:UInt8)(t:Bs):Lib.indexByte (c::t) k=if c=k then 0 else if Lib.indexByte t k<0 then -1 else Lib.indexByte t k+1:=by
 rw[Lib.indexByte];by_cases h:c=k
 ·rw[qX (by simpa using h),qX h]
 ·rw[qW (by simpa using h),qW h]
  rcases zy k t with⟨a,r,rfl,ha⟩|hn
  ·rw[qc8 k a r ha,qW (by simp),qW (by omega)]
  ·rw[qc9 k t hn];rfl
def zon(fu n:Nat)(k:UInt8):∀(ab aa:Bs),aa.length<n->ab.length+aa.length<100000000 ->
  qer fu n (ab++aa) [k] (ab.length:Int)=some (if Lib.indexByte aa k<0 then -1 else(ab.length:Int)+Lib.indexByte aa k):=by
 induction n with
 |zero=>intro ab aa h;omega|succ n ih=>
  intro ab aa h hb;rw[qer,qsj,show(([k]:Bs).length:Int)=1 from rfl]
  cases aa with
  |nil=>rw[au _ (by simp only[qZ]at hb;omega),aq];rfl|cons c t=>
   simp only[qL]at h hb;rw[au _,ag (by rw[c7];omega),ag (by rw[c7];omega),y5,zpq]
   have e:List.take (((ab.length+1:Nat):Int).toNat-((ab.length:Nat):Int).toNat) (c::t)=[c]:=by
    rw[show((ab.length+1:Nat):Int).toNat-((ab.length:Nat):Int).toNat=1 by omega];rfl
   rw[e];by_cases hc:c=k
   ·rw[aw (by simpa using hc),qX hc,qW (by omega)];simp
   ·rw[ay (by simpa using hc),qW hc]
    have:=ih (ab++[c]) t (by omega) (by simp;omega)
    simp only[qM,qL,qZ,qS,wM,wO]at this;rw[this];by_cases h0:Lib.indexByte t k<0
    ·rw[qX h0,qX h0,qX (by omega)]
    ·rw[qW h0,qW h0,qW (by omega)];congr 1;omega
def zom(fu:Nat)(hfu:90000000<=fu)(k:UInt8)(s:Bs)(h:s.length<=4000000):qk0 fu s [k] 0=some (Lib.indexByte s k):=by
 have:=zon fu fu k [] s (by omega) (by simp;omega)
 simp only[List.nil_append,qZ,Int.natCast_zero,Int.zero_add]at this;unfold qk0;refine this.trans ?_;rcases zy k s with⟨a,r,rfl,ha⟩|hn
 ·rw[qc8 k a r ha,qW (by omega)]
 ·rw[qc9 k s hn];rfl
abbrev Pd:Type:=Bs×Bs×Int×Bool
def cf(p:Pc):Pd:=(p.1,p.2.2.2,p.2.1,p.2.2.1)
def zst(fu:Nat)(hfu:90000000<=fu)(b v s:Bs)(st:Bool)(z:Pd)(h:s.length<=4000000:=by omega):∃R,qa3 fu s z (b,(v,((-1:Int),st)))=some R /\
  match(if b≠[] then zl s else none) with
  |some k=>R=((b,v,k,st),true)|none=>R.2=false:=by
 unfold qa3;obtain⟨x,h1,h2⟩:=zry fu (by omega) s
 rw[h1,qB]
 cases b with
 |nil=>exact⟨_,rfl,rfl⟩|cons c b=>
  rw[qX (by simp)]
  rw[aw]
  rcases h2 with⟨g1,g2,g3⟩|⟨g1,g2⟩
  ·rw[ag g2,g3,qB,g1];exact⟨_,rfl,by simp⟩
  ·rw[g1];rcases g2 with g2|⟨g2,t,g3,g4⟩
   ·rw[aq];exact⟨_,rfl,rfl⟩
   ·rw[ag g2,g3,qB];exact⟨_,rfl,by simpa using g4⟩
def zsu(fu:Nat)(hfu:90000000<=fu)(nm v:Bs)(h:nm.length<=4000000):∃R,qll fu nm v=some R/\match gy nm v with
  |some p=>R=(cf p,true)|none=>R.2=false:=by
 unfold qll;rw[zom fu hfu 42 nm h,qB];rcases zy 42 nm with⟨t,r,rfl,ht⟩|hn
 ·simp only[qM,qL]at h;rw[qc8 42 t r ht,aq,au _,ag (by rw[c7];omega),ag (by rw[c7];omega),qoq,z7]
  have key:∀(s:Bs)(st:Bool),nq r=(s,st)->(∃R,qa3 fu s ([],([],((0:Int),false))) (t,(v,((-1:Int),st)))=some R/\match gy (t++42::r) v with
    |some p=>R=(cf p,true)| none=>R.2=false):=by
   intro s st he;have hsl:=zal r;rw[he]at hsl;simp only at hsl;obtain⟨R,h1,h2⟩:=zst fu hfu t v s st ([],([],((0:Int),false)))
   refine⟨R,h1,?_⟩;unfold gy fo;rw[qze 42 t r ht];simp only[he];by_cases hb:t=[]
   ·rw[qW (by simp[hb])]
    rw[qW (by simp[hb])]at h2
    exact h2
   ·rw[qX hb]at h2;unfold zl at h2;cases hq:(gx s 1099511627776).2
    ·rw[qW (by simp[hq])]at h2
     rw[qW (by simp)]
     exact h2
    ·rw[qX ⟨hb,rfl⟩];simp only;by_cases hlt:(gx s 1099511627776).1<1000000000
     ·rw[qX ⟨hq,hlt⟩]at h2;rw[qX hlt];exact h2
     ·rw[qW (by simp[hlt])]at h2;rw[qW hlt];exact h2
  rcases List.eq_nil_or_concat r with rfl|⟨u,c,rfl⟩
  ·rw[aq,qfo,ay rfl]
   exact key [] false rfl
  ·rw[List.concat_eq_append]at *;simp only[qM,qL,qZ]at h;rw[ag (by simp only[qM,qL,qZ];omega),ph,p6 _,qda,qB,qfo]
   by_cases hc:c=42
   ·subst hc;rw[aw,ph,p6 _,ag,qqy]
    exact key u true (by unfold nq;simp)
   ·rw[ay (by simpa using hc)]
    exact key (u++[c]) false (by unfold nq;rw[qW (by simpa using hc)])
 ·rw[qc9 42 nm hn,ag]
  refine⟨_,rfl,?_⟩;unfold gy fo;rw[qzf 42 nm hn]
  cases nm with|nil=>rfl|cons c nm=>rfl
def bad:ek:=(([],([],[])),false)
def zu3(fu:Nat)(r2:kj)(s nm a b T S:Bs)(acc:List Pd)(hb:s.length<=4000000):∀(n:Nat)(r out:Bs),r <:+ s->r.length+1<n->out.length+r.length<100000000 ->
  um fu r2 n s (pos s r) nm out a b T S acc=match qv out r with
   |some x=>xg fu r2 s (pos s x.2) nm x.1 a b T S acc|none=>some bad:=by
 intro n
 induction n using Nat.strongRecOn with
 |ind n ih=>
  intro r out hr h ho;obtain⟨n,rfl⟩:∃m,n=m+1:=⟨n-1,by omega⟩
  rw[um,qlb]
  cases r with
  |nil=>rw[gz,aq,qat,ay rfl,aw];rfl|cons c t=>
   have ht:t <:+ s:=(List.suffix_cons _ _).trans hr;simp only[qL]at h ho;rw[ag (ly hr),wd hr,qB,qdn,qat,qch];by_cases h1:c=34
   ·rw[qW (by simp[h1]),qX h1,ay (by have:=ly hr;simp;omega),pq hr]
   rw[qX h1,qW h1,qsw,wd hr,qB,lg,pq hr]
   have p18:∀(d:UInt8)(u:Bs),(d::u) <:+ s->qez fu r2 (um fu r2 n) s (pos s (d::u)) nm out a b T S acc=um fu r2 n s (pos s u) nm (out++[d]) a b T S acc:=by
    intro d u hd;have hu:=hd.length_le;have g1:=ru s (d::u);have g2:=ru s u;have g3:=q1q (s:=s) (List.suffix_cons d u);rw[qez,pq hd,ag,q1r hd (List.suffix_cons _ _),show(d::u).take ((d::u).length-u.length)=[d] by simp,ag (by simp[ap];omega)]
   by_cases h2:c=92
   ·rw[qX h2,qX h2]
    cases t with
    |nil=>
     rw[gz,qau,aq,p18 c [] hr]
     obtain⟨n,rfl⟩:∃m,n=m+1:=⟨n-1,by simp only[qZ]at h;omega⟩
     rw[um,qlb,gz,aq,qat,ay rfl,aw];rfl
    |cons d u=>
     simp only[qL]at h ho;rw[qau,ag (ly ht),pq hr,p18 d u ht]
     simp only;exact ih n (by omega) u (out++[d]) ((List.suffix_cons _ _).trans ht) (by omega) (by simp;omega)
   ·rw[qW h2,qW h2,qau,ay rfl,p18 c t hr];exact ih n (by omega) t (out++[c]) ht (by omega) (by simp;omega)
def zwp(c:UInt8):(tk c||([42]:Bs).contains c)=dz c:=by unfold dz;rw[show([42]:Bs).contains c=(c==42) by rw[Bool.eq_iff_iff];simp]
def zf6(c:UInt8):(tk c||([37,39,42]:Bs).contains c)=kg c:=by unfold kg;rw[show([37,39,42]:Bs).contains c=(c==37||(c==39||c==42)) by rw[Bool.eq_iff_iff];simp]
def zf7(c:UInt8):(tk c||([]:Bs).contains c)=tk c:=by simp
def qjr(p:UInt8->Bool){s r:Bs}(hr:r <:+ s):(0<=pos s r/\pos s r<=pos s (r.dropWhile p)/\pos s (r.dropWhile p)<=(s.length:Int))/\List.take ((pos s (r.dropWhile p)).toNat-(pos s r).toNat) (List.drop (pos s r).toNat s)=r.takeWhile p:=by
 refine⟨⟨(ru s r).1,q1q (List.dropWhile_suffix p),(ru s _).2⟩,?_⟩;rw[q1r hr (List.dropWhile_suffix p),zwm]
def zsa(fu:Nat)(hfu:90000000<=fu)(r2:kj)(s nm v a b T S:Bs)(acc:List Pc)(hb:s.length<=4000000)(hn:nm.length<=4000000)(ha:acc.length<=4000000)(r:Bs)(hr:r <:+ s) :
  xg fu r2 s (pos s r) nm v a b T S (acc.map cf)=match gy nm v with
   |some p=>r2 s (pos s (bf r)) a b T S ((acc++[p]).map cf)|none=>some bad:=by
 have hrm:=ge;obtain⟨R,h1,h2⟩:=zsu fu hfu nm v hn;rw[xg,h1,qB]
 cases hp:gy nm v with
 |none=>rw[hp]at h2;simp only at h2;rw[h2,dx];rfl|some p=>
  rw[hp]at h2;simp only at h2 ⊢;subst h2;rw[ci,ag,wh fu hfu hb hr,qB,List.map_append];rfl
def zuk(fu:Nat)(hfu:90000000<=fu)(s a b T S:Bs)(hb:s.length<=4000000):∀(n:Nat)(r:Bs)(acc:List Pc),r <:+ s->bf r=r->r.length<n->acc.length+r.length<=4000000 ->
  qav fu n s (pos s r) a b T S (acc.map cf)=match dn gy n acc r with
   |none=>some bad|some l=>ne fu fu 0 a b T S (l.map cf) []:=by
 intro n
 induction n with
 |zero=>intro r acc _ _ h;omega|succ n ih=>
  intro r acc hr hlt h hacc;rw[qav,qss,dn,hlt]
  cases r with
  |nil=>rw[gz,aq]|cons c t=>
   have ht:t <:+ s:=(List.suffix_cons _ _).trans hr;simp only[qL]at h hacc;rw[ag (ly hr),wd hr,qB,qch];simp only;by_cases hc:c=59
   ·rw[qW (by simp[hc]),qX hc,pq hr,wh fu hfu hb ht,qB]
    have h1:bf t <:+ s:=(rp t).trans ht;rw[qjp fu hfu [42] (by simp) hb h1 dz zwp,qB]
    obtain⟨ok1,ok2⟩:=qjr dz h1;have h2:(bf t).dropWhile dz <:+ s:=(List.dropWhile_suffix dz).trans h1;have hnl:((bf t).takeWhile dz).length<=4000000:=by
     have:=(List.takeWhile_prefix (l:=bf t) dz).length_le;have:=lw t;omega
    rw[ag ok1,wh fu hfu hb h2,qB,ok2];unfold pl b9 di;simp only;have h3:bf ((bf t).dropWhile dz) <:+ s:=(rp _).trans h2;have hl3:(bf ((bf t).dropWhile dz)).length<=t.length:=by
     have g1:=lw ((bf t).dropWhile dz);have g2:=(List.dropWhile_suffix (l:=bf t) dz).length_le;have g3:=lw t;omega
    generalize bf ((bf t).dropWhile dz)=u at *;generalize (bf t).takeWhile dz=nm at *
    cases u with
    |nil=>rw[gz,aw,qe2,aw rfl];simp;rfl|cons d u=>
     have h4:u <:+ s:=(List.suffix_cons _ _).trans h3;simp only[qL]at hl3;rw[ay (by have:=ly h3;simp;omega),wd h3,qB,qe2,qch]
     by_cases hd:d=61
     ·rw[qW (by simp[hd])]
      simp only[qX hd,if_true];rw[qsy,pq h3,wh fu hfu hb h4,qB]
      have h5:bf u <:+ s:=(rp u).trans h4;have hl5:=lw u;have fin:∀(v w:Bs),w <:+ s->w.length<=u.length->xg fu (qav fu n) s (pos s w) nm v a b T S (acc.map cf)=match(match gy nm v with
        |none=>none| some p=>dn gy n (acc++[p]) w) with
        |none=>some bad|some l=>ne fu fu 0 a b T S (l.map cf) []:=by
       intro v w hw hwl;rw[zsa fu hfu _ s nm v a b T S acc hb hnl (by omega) w hw]
       cases gy nm v with
       |none=>rfl|some p=>
        simp only;have g1:=lw w;rw[ih (bf w) (acc++[p]) ((rp w).trans hw) (qdh w) (by omega) (by simp;omega)]
        have e:dn gy n (acc++[p]) (bf w)=dn gy n (acc++[p]) w:=by
         cases n with|zero=>rfl|succ n=>rw[dn,dn,qdh]
        rw[e]
      unfold wo di
      cases hu:bf u with
      |nil=>
       rw[gz,aq,qe4,ay rfl]
       have hnil:([]:Bs) <:+ s:=List.nil_suffix;have r1:=qjp fu hfu [37,39,42] (by simp) hb hnil kg zf6
       obtain⟨q1,q2⟩:=qjr kg hnil;rw[gz]at r1 q1 q2;rw[r1,qB,ag q1,q2];simp only[wJ,if_false,wQ];exact fin [] [] hnil (by simp)
      |cons e w=>
       rw[hu]at h5 hl5;simp only[qL]at hl5;have h6:w <:+ s:=(List.suffix_cons _ _).trans h5;rw[ag (ly h5),wd h5,qB,qe4];by_cases he:e=34
       ·rw[aw (by simpa using he),pq h5]
        simp only[qX he,if_true];rw[zu3 fu _ s nm a b T S _ hb fu w [] h6 (by omega) (by simp;omega)]
        cases hq:qv [] w with
        |none=>rfl|some x=>
         have:=zd3 [] w x.1 x.2 hq;simp only[wQ];exact fin x.1 x.2 (this.2.trans h6) (by have:=this.2.length_le;omega)
       ·rw[ay (by simpa using he)]
        simp only[qW he,wJ,if_false,wQ];rw[qjp fu hfu [37,39,42] (by simp) hb h5 kg zf6,qB]
        obtain⟨q1,q2⟩:=qjr kg h5;rw[ag q1,q2];unfold b9;have hle:bf (e::w)=e::w:=by rw[← hu,qdh]
        rw[hle];have hdl:=(List.dropWhile_suffix (l:=e::w) kg).length_le;simp only[qL]at hdl;exact fin _ _ ((List.dropWhile_suffix kg).trans h5) (by omega)
     ·rw[qX hd];simp only[qW hd,wJ,if_false];rfl
   ·rw[qX hc,qW hc];rfl
def zu5(fu:Nat)(hfu:90000000<=fu)(s:Bs)(h:s.length<=300000):qew fu s=match n8 gy s with
  |none=>some bad|some m=>ne fu fu 0 [] [] m.1 m.2.1 (m.2.2.map cf) []:=by
 have hb:s.length<=4000000:=by omega
 have h0:s <:+ s:=List.suffix_refl s;have h1:bf s <:+ s:=rp s;unfold qew n8;have sk:=wh fu hfu hb h0;rw[qp9]at sk;rw[sk,qB,qjp fu hfu [] (by simp) hb h1 tk zf7,qB]
 obtain⟨ok1,ok2⟩:=qjr tk h1;have h2:(bf s).dropWhile tk <:+ s:=(List.dropWhile_suffix tk).trans h1;rw[ag ok1,wh fu hfu hb h2,qB,ok2];unfold b9 di;simp only;have h3:bf ((bf s).dropWhile tk) <:+ s:=(rp _).trans h2;generalize bf ((bf s).dropWhile tk)=u at *
 cases hT:(bf s).takeWhile tk with
 |nil=>rw[aw,xf,aw rfl,qX (.inl rfl)];rfl|cons x y=>
  rw[ay (by rfl)]
  cases u with
  |nil=>rw[gz,aw,xf,aw rfl,qX (.inr (.inl rfl))];rfl|cons d u=>
   have h4:u <:+ s:=(List.suffix_cons _ _).trans h3;rw[ay (by have:=ly h3;simp;omega),wd h3,qB,xf,qch]
   by_cases hd:d=47
   ·rw[qW (by simp[hd]),qsv,pq h3,wh fu hfu hb h4,qB]
    simp only[qX hd];have h5:bf u <:+ s:=(rp u).trans h4;rw[qjp fu hfu [] (by simp) hb h5 tk zf7,qB]
    obtain⟨q1,q2⟩:=qjr tk h5;rw[ag q1,q2];have h6:(bf u).dropWhile tk <:+ s:=(List.dropWhile_suffix tk).trans h5
    cases hS:(bf u).takeWhile tk with
    |nil=>rw[aw,qX (.inr (.inr rfl))];rfl|cons x3 y3=>
     rw[ay (by rfl),qW (by simp),wh fu hfu hb h6,qB]
     have hl6:=h6.length_le;have hl7:=lw ((bf u).dropWhile tk);have:=zuk fu hfu s [] [] (x::y) (x3::y3) hb fu (bf ((bf u).dropWhile tk)) [] ((rp _).trans h6) (qdh _) (by omega) (by simp;omega)
     refine(this:_=_).trans ?_;rw[qji _ fu _ _ (by omega),qji _ (s.length+1) _ _ (by omega)]
     have e:dn gy ((bf ((bf u).dropWhile tk)).length+1) [] (bf ((bf u).dropWhile tk))=dn gy (((bf u).dropWhile tk).length+1) [] ((bf u).dropWhile tk):=by
      rw[← qji _ (((bf u).dropWhile tk).length+1) _ _ (by omega),dn,dn,qdh]
     rw[e];cases dn gy (((bf u).dropWhile tk).length+1) [] ((bf u).dropWhile tk)<;>rfl
   ·rw[qX hd];simp only[qW hd];rw[qX (.inr (.inl trivial))];rfl
open Go.Sort (SWO PermIn SortedIn pdq_sorts)
open Go.Proofs (ltOf)
def ltQ(x y:Pq):ltOf jc x y=decide (x.1.2.1<y.1.2.1):=by
 have:=x.2;have:=y.2;unfold ltOf jc;have h:af (x.1.2.1-y.1.2.1)=x.1.2.1-y.1.2.1:=by unfold af;simp[IntKind.wrap,IntKind.bits,IntKind.signed];omega
 rw[h];by_cases q:x.1.2.1<y.1.2.1<;>simp[q]<;>omega
def zwd:SWO (ltOf jc):=⟨fun x=>by rw[ltQ];simp,fun x y z h1 h2=>by rw[ltQ]at *;simp at *;omega,fun x y z h1 h2=>by rw[ltQ]at *;simp at *;omega⟩
def zfr(l:List Pq):(il l).Perm l/\(il l).Pairwise (fun x y=>x.1.2.1<=y.1.2.1):=by
 obtain⟨⟨h1,_,h2⟩,h3⟩:=pdq_sorts (ltOf jc) zwd l.toArray 0 l.length (Lib.bitLen l.length) true true (Nat.zero_le _) (by simp) (.inl rfl)
 have hsort:il l=(Go.Sort.pdq (ltOf jc) l.toArray 0 l.length (Lib.bitLen l.length) true true).toList:=rfl;generalize Go.Sort.pdq (ltOf jc) l.toArray 0 l.length (Lib.bitLen l.length) true true=D at h1 h2 h3 hsort;have hs:D.size=l.length:=by rw[h1];simp
 rw[hsort];constructor
 ·have e:∀d:Array Pq,d.size=l.length->(d.extract 0 l.length).toList=d.toList:=fun d hd=>by rw[← hd];simp
  rw[e _ hs,e _ (by simp)]at h2
  simpa using h2
 ·rw[List.pairwise_iff_getElem];intro i j hi hj hij;rw[Array.length_toList]at hi hj;have:=h3 i j (Nat.zero_le _) hij (by omega)
  rw[ltQ,getElem!_pos D j hj,getElem!_pos D i hi]at this;have:=of_decide_eq_false this;simp only[Array.getElem_toList];omega
def zgb:∀l:List Pc,(∀p∈l,nb p)->∃q,pw l=some q/\q.map (·.1)=l
 |[],_=>⟨[],rfl,rfl⟩|p::l,h=>by
  obtain⟨q,h1,h2⟩:=zgb l (fun x hx=>h x (qE _ hx))
  have hp:=h p qH;unfold nb at hp;refine⟨⟨p,by omega⟩::q,?_,by simp[h2]⟩
  rw[pw,dif_pos (by omega),h1]
def ia(l:List Pc):List Pc:=match pw l with|some q=>(il q).map (·.1)|none=>[]
def q2i(l:List Pc)(h:∀p∈l,nb p)(hl:l.length<=4000000:=by omega):ye l=some (ia l)/\(ia l).Perm l/\(ia l).Pairwise (fun x y=>x.2.1<=y.2.1):=by
 have hrm:=ge;obtain⟨q,h1,h2⟩:=zgb l h;have h3:=zfr q;unfold ye ia;rw[h1,ag]
 refine⟨rfl,?_,?_⟩
 ·have:=h3.1.map (·.1);rw[h2]at this;exact this
 ·exact List.pairwise_map.2 h3.2
def lv:List Pc->Int->Bs->Option Bs|[],_,out=>some out|p::q,k,out=>if p.2.1=k then lv q (k+1) (out++nd p) else none
def mt:List Pc->Int->Prop|[],_=>True|p::q,k=>p.2.1=k/\mt q (k+1)
def q0v:∀(q:List Pc)(k:Int)(out:Bs),mt q k->lv q k out=some (out++q.flatMap nd)|[],_,out,_=>by simp[lv]|p::q,k,out,h=>by rw[lv,qX h.1,q0v q _ _ h.2];simp
def q0u:∀(q:List Pc)(k:Int)(out v:Bs),lv q k out=some v->mt q k
 |[],_,_,_,_=>trivial|p::q,k,out,v,h=>by
  rw[lv]at h;by_cases hp:p.2.1=k
  ·rw[qX hp]at h;exact⟨hp,q0u q _ _ _ h⟩
  ·rw[qW hp]at h;cases h
def zcb(q:List Pc)(k:Int)(out:Bs)(h:¬mt q k):lv q k out=none:=by
 cases hl:lv q k out with|none=>rfl|some v=>exact absurd (q0u q k out v hl) h
def Cov(q:List Pc)(k:Int):Prop:=∀j:Nat,j<q.length->∃p∈q,p.2.1=k+j
def pig(m:Nat):∀(l:List Pc)(k:Int),(∀j:Nat,j<m->∃p∈l,p.2.1=k+j)->m<=l.length:=by
 induction m with
 |zero=>intro l k _;omega|succ m ih=>
  intro l k h;obtain⟨p,hp,hk⟩:=h m (by omega)
  obtain⟨a,b,rfl⟩:=List.append_of_mem hp;have:=ih (a++b) k (fun j hj=>by
   obtain⟨x,hx,hxk⟩:=h j (by omega)
   refine⟨x,?_,hxk⟩;rcases List.mem_append.1 hx with g|g
   ·exact List.mem_append_left _ g
   ·rcases List.mem_cons.1 g with g|g
    ·subst g;omega
    ·exact List.mem_append_right _ g)
  rw[qM]at this;rw[qM,qL];omega
def q94:∀(q:List Pc)(k:Int),q.Pairwise (fun x y=>x.2.1<=y.2.1)->Cov q k->mt q k
 |[],_,_,_=>trivial|p::r,k,hs,hc=>by
  rw[List.pairwise_cons]at hs;have ac:(p::r).length=r.length+1:=rfl;have h1:k<=p.2.1/\p.2.1<k+(r.length+1:Nat):=by
   by_cases g:k<=p.2.1/\p.2.1<k+(r.length+1:Nat)
   ·exact g
   ·exfalso;have:=pig (r.length+1) r k (fun j hj=>by
     obtain⟨x,hx,hxk⟩:=hc j (by omega)
     rcases List.mem_cons.1 hx with e|e
     ·subst e;exact absurd ⟨by omega,by omega⟩ g
     ·exact⟨x,e,hxk⟩)
    omega
  have h2:p.2.1=k:=by
   obtain⟨x,hx,hxk⟩:=hc 0 (by omega)
   rcases List.mem_cons.1 hx with e|e
   ·subst e;omega
   ·have:=hs.1 x e;omega
  refine⟨h2,q94 r (k+1) hs.2 fun j hj => ?_⟩
  obtain⟨x,hx,hxk⟩:=hc (j+1) (by omega)
  rcases List.mem_cons.1 hx with e|e
  ·subst e;omega
  ·exact⟨x,e,by omega⟩
def zc3:∀(q:List Pc)(k:Int),mt q k->∀x∈q,k<=x.2.1
 |[],_,_,_,h=>by cases h
 |p::r,k,h,x,hx=>by
  rcases List.mem_cons.1 hx with e|e
  ·subst e;exact Int.le_of_eq h.1.symm
  ·have:=zc3 r _ h.2 x e;omega
def Cov.perm{q q':List Pc}{k:Int}(h:Cov q k)(hp:q.Perm q'):Cov q' k:=fun j hj=>by
 obtain⟨x,hx,e⟩:=h j (by rw[hp.length_eq];exact hj)
 exact⟨x,hp.mem_iff.1 hx,e⟩
def rf:List Pc->Option Bs|[]=>none|p::l=>if p.2.1<0 then(if l=[] then some p.2.2.2 else none) else(lv (ia (p::l)) 0 []).map fun v=>vu [239,191,189] v.length false v
def qpv(p:Pc)(l:List Pc):rf (p::l)=if p.2.1<0 then(if l=[] then some p.2.2.2 else none) else(lv (ia (p::l)) 0 []).map fun v=>vu [239,191,189] v.length false v:=rfl
def zz(p:Pc)(l:List Pc):c8 (p::l)=(p.1.length+p.2.2.2.length+1)+c8 l:=by unfold c8;simp
def q2n{l l':List Pc}(h:l.Perm l'):c8 l=c8 l':=by unfold c8;exact(h.map _).sum_nat
def qdw{l:List Pc}{p:Pc}(h:p∈l):p.1.length+p.2.2.2.length+1<=c8 l:=by
 obtain⟨a,b,rfl⟩:=List.append_of_mem h;unfold c8;simp;omega
def zqk(fu n:Nat)(hfu:90000000<=fu)(z:Bs×Bs)(nm:Bs):∀(ab aa:List Pc)(out:Bs),aa.length<n->ab.length+aa.length<100000000->out.length+c8 aa<=300000 ->
  ∃R,qgp fu n ((ab.length+aa.length:Nat):Int) (ab.length:Int) z (nm,out) (ab++aa)=some R/\match lv aa (ab.length:Int) out with
   |some v=>R=((nm,vu [239,191,189] v.length false v),true)|none=>R.2=false:=by
 induction n with
 |zero=>intro ab aa out h;omega|succ n ih=>
  intro ab aa out h hb hz;rw[qgp,qu5]
  cases aa with
  |nil=>
   rw[aq,zwv out (by simp[c8]at hz;omega)]
   exact⟨_,rfl,rfl⟩
  |cons p t=>
   rw[zz]at hz;simp only[qL]at h hb;have hl:0<=(ab.length:Int)/\(ab.length:Int).toNat<(ab++p::t).length:=by simp
   have htl:=qjy p;rw[ag (by simp only[qL];omega),ag hl,qz,qB,fp,lv]
   by_cases hp:p.2.1=(ab.length:Int)
   ·rw[qW (by simpa using hp),qX hp,zwn fu hfu p,qB,ag (by simp[ap];omega),au _]
    have:=ih (ab++[p]) t (out++nd p) (by omega) (by simp;omega) (by rw[qM];omega)
    simp only[qM,qL,qZ,qS,wM,wO]at this;rw[show(ab.length+(p::t).length:Nat)=ab.length+1+t.length by simp only[qL];omega,show(ab.length:Int)+1=((ab.length+1:Nat):Int) by omega]
    exact this
   ·rw[qX hp,qW hp];exact⟨_,rfl,rfl⟩
def zqn(fu:Nat)(hfu:90000000<=fu)(p:Pc)(l:List Pc)(hz:c8 (p::l)<=300000)(hn:∀x∈p::l,nb x):∃R,qgo fu (p::l)=some R/\match rf (p::l) with
  |some v=>R=((p.1,v),true)|none=>R.2=false:=by
 have hl:decide (0<=(0:Int)/\(0:Int).toNat<List.length (p::l))=true:=by simp
 have ac:=mw (p::l);unfold qgo;rw[qpv,aw hl,show(p::l)[(0:Int).toNat]? = some p from rfl,qB,aw hl,qB,aw hl,qB]
 by_cases h0:p.2.1<0
 ·rw[ag h0,qX h0];refine⟨_,rfl,?_⟩
  cases l with|nil=>rfl|cons y l=>rw[qW (by simp)];simp;omega
 ·rw[aq h0,qW h0];obtain⟨h1,h2,h3⟩:=q2i (p::l) hn
  rw[h1,qB];obtain⟨R,g1,g2⟩:=zqk fu fu hfu ([],[]) p.1 [] (ia (p::l)) [] (by rw[h2.length_eq];omega) (by rw[h2.length_eq];simp only[qZ];omega) (by rw[q2n h2];simpa using hz)
  simp only[List.nil_append,qZ,wO]at g1 g2;refine⟨R,g1,?_⟩;rw[show((0:Nat):Int)=0 from rfl]at g2
  cases hq:lv (ia (p::l)) 0 [] with|none=>rw[hq]at g2;exact g2|some v=>rw[hq]at g2;exact g2
def cw(nm:Bs)(l:List Pc):List Pc:=l.filter fun x=>lk x.1 nm
def fk:List Pc->List Pc->List bz->Bool×List bz
 |_,[],out=>(true,out)|ab,p::aa,out=>if ab.any (fun x=>lk x.1 p.1)=true then fk (ab++[p]) aa out else match rf (cw p.1 (ab++p::aa)) with|none=>(false,[])|some v=>fk (ab++[p]) aa (out++[(p.1,v)])
def zqe(fu n:Nat)(hfu:90000000<=fu)(p:Pc)(hp:p.1.length<=4000000):∀(ab aa:List Pc),aa.length<n->ab.length+aa.length<100000000->(∀x∈aa,x.1.length<=4000000) ->
  ∃i:Int,qhj fu n (ab++aa) ((ab.length+aa.length:Nat):Int) (ab.length:Int) p=some (i,p)/\decide (0<=i)=aa.any (fun x=>lk x.1 p.1):=by
 induction n with
 |zero=>intro ab aa h;omega|succ n ih=>
  intro ab aa h hb hs;rw[qhj,qwn]
  cases aa with
  |nil=>rw[aq];exact⟨_,rfl,rfl⟩|cons d aa=>
   simp only[qL]at h hb;rw[ag (by simp only[qL];omega),bg,qB,qgs,ud fu hfu _ _ (hs d qH) hp,qB,qB,au _]
   obtain⟨i,h1,h2⟩:=ih (ab++[d]) aa (by omega) (by simp;omega) (fun x hx=>hs x (qE _ hx))
   simp only[qM,qL,qZ,qS,wM,wO]at h1;cases e:lk d.1 p.1
   ·simp only[qF,List.any_cons,e,Bool.false_or];rw[show(ab.length+(d::aa).length:Nat)=ab.length+1+aa.length by simp only[qL];omega]
    exact⟨i,h1,h2⟩
   ·simp only[qT,List.any_cons,e,Bool.true_or];exact⟨_,rfl,decide_eq_true (by omega)⟩
def zm5(fu:Nat)(hfu:90000000<=fu)(l:List Pc)(p:Pc)(hp:p.1.length<=4000000)(hl:l.length<=4000000)(hs:∀x∈l,x.1.length<=4000000):qmz fu l p=some (l.any (fun x=>lk x.1 p.1),p):=by
 obtain⟨i,h1,h2⟩:=zqe fu fu hfu p hp [] l (by omega) (by simp;omega) hs
 simp only[List.nil_append,qZ,wO]at h1;unfold qmz qwm;rw[← h2];exact(congrArg (fun q=>Option.bind q fun x1=>some (decide ((0:Int)<=x1.1),x1.2)) h1).trans rfl
def qzc(r0:w3)(s0 s13:List Pc)(s14 s15:Int)(p:Pc)(out:List bz)(x3:(Bs×Bs)×Bool):Option qhv:=bif !x3.2 then some (false,[]) else bif decide (List.length (out++([(p.1,x3.1.2)]:List bz))<=a7) then r0 s0 s13 s14 (af (s15+(1:Int))) (out++([(p.1,x3.1.2)]:List bz)) else none
def zss(fu:Nat)(hfu:90000000<=fu)(r0:w3)(s0 s13:List Pc)(s14 s15:Int)(p:Pc)(hp:p.1.length<=4000000)(out:List bz)(n:Nat):∀(ab aa acc:List Pc),aa.length<n->ab.length+aa.length<100000000->acc.length<=ab.length->(∀x∈aa,x.1.length<=4000000) ->
  qgt fu r0 n s0 s13 s14 s15 (ab++aa) ((ab.length+aa.length:Nat):Int) (ab.length:Int) p out acc =
   (qgo fu (acc++cw p.1 aa)).bind (qzc r0 s0 s13 s14 s15 p out):=by
 have hrm:=ge
 induction n with
 |zero=>intro ab aa acc h;omega|succ n ih=>
  intro ab aa acc h hb ha hs;rw[qgt,qu9]
  cases aa with
  |nil=>rw[aq,show cw p.1 []=[] from rfl,List.append_nil];rfl|cons d aa=>
   simp only[qL]at h hb;rw[ag (by simp only[qL];omega),bg,qB,qgs,ud fu hfu _ _ (hs d qH) hp,qB,qB]
   have h1:=fun acc'(ha':acc'.length<=ab.length+1)=>ih (ab++[d]) aa acc' (by omega) (by simp;omega) (by simpa using ha') (fun x hx=>hs x (qE _ hx))
   simp only[qM,qL,qZ,qS,wM,wO]at h1;rw[show cw p.1 (d::aa)=if lk d.1 p.1=true then d::cw p.1 aa else cw p.1 aa by unfold cw;rw[List.filter_cons]]
   cases e:lk d.1 p.1
   ·simp only[qF,wJ,if_false];rw[qgu,au _,show(ab.length+(d::aa).length:Nat)=ab.length+1+aa.length by simp only[qL];omega]
    exact h1 acc (by omega)
   ·simp only[qT,if_true];rw[ag,qgu,au _,show(ab.length+(d::aa).length:Nat)=ab.length+1+aa.length by simp only[qL];omega]
    refine(h1 (acc++[d]) (by simp;omega)).trans ?_
    rw[qS];rfl
def q2m(f:Pc->Bool)(l:List Pc):c8 (l.filter f)<=c8 l:=by
 induction l with
 |nil=>simp|cons p l ih=>
  rw[List.filter_cons];split
  ·rw[zz,zz];omega
  ·rw[zz];omega
def zsg(fu:Nat)(hfu:90000000<=fu)(l:List Pc)(hz:c8 l<=300000)(hn:∀x∈l,nb x)(n:Nat):∀(ab aa:List Pc)(out:List bz),l=ab++aa->aa.length<n->out.length<=ab.length ->
  qbm fu n l (ab++aa) ((ab.length+aa.length:Nat):Int) (ab.length:Int) out=some (fk ab aa out):=by
 have hrm:=ge;have hll:=mw l;have hnm:∀x∈l,x.1.length<=4000000:=fun x hx=>by have:=qdw hx;omega
 induction n with
 |zero=>intro ab aa out _ h;omega|succ n ih=>
  intro ab aa out hl h ho;rw[qbm,qu8]
  cases aa with
  |nil=>rw[aq];rfl|cons p aa=>
   simp only[qL]at h;have ac:l.length=ab.length+aa.length+1:=by rw[hl];simp;omega
   have hp:=hnm p (by rw[hl];simp)
   rw[ag (by simp only[qL];omega),bg,qB,ag]
   have e:List.take ((ab.length:Nat):Int).toNat l=ab:=by rw[hl];exact z7 _ _
   rw[e,zm5 fu hfu ab p hp (by omega) (fun x hx=>hnm x (by rw[hl];simp[hx])),qB,fk]
   have step:=fun o(ho:List.length o<=ab.length+1)=>ih (ab++[p]) aa o (by rw[hl];simp) (by omega) (by simpa using ho)
   simp only[qM,qL,qZ,qS,wM,wO]at step;simp only;cases hany:ab.any (fun x=>lk x.1 p.1)
   ·rw[ay rfl,qW (by simp)]
    have h1:=zss fu hfu (qbm fu n) l (ab++p::aa) ((ab.length+(p::aa).length:Nat):Int) (ab.length:Int) p hp out fu [] l [] (by omega) (by simp;omega) (by simp) hnm
    simp only[List.nil_append,qZ,wO]at h1;rw[show((0:Nat):Int)=0 from rfl]at h1
    rw[h1];have hmem:p∈cw p.1 l:=by unfold cw;rw[List.mem_filter];exact⟨by rw[hl];simp,q0q _⟩
    have hzz:=q2m (fun x=>lk x.1 p.1) l
    cases hN:cw p.1 l with
    |nil=>rw[hN]at hmem;cases hmem
    |cons y w=>
     obtain⟨R,g1,g2⟩:=zqn fu hfu y w (by rw[← hN];unfold cw;omega) (fun x hx=>hn x (by rw[← hN]at hx;exact(List.mem_filter.1 hx).1))
     rw[g1,qB];rw[← hl,hN]
     cases hj:rf (y::w) with
     |none=>rw[hj]at g2;simp only at g2;rw[qzc,g2];rfl|some v=>
      rw[hj]at g2;simp only at g2;subst g2;rw[qzc,ci,ag,au _]
      simp only;rw[show(ab.length+(p::aa).length:Nat)=ab.length+1+aa.length by simp only[qL];omega]
      have st:=step (out++[(p.1,v)]) (by simp;omega)
      rw[← hl]at st;exact st
   ·rw[aw rfl,qX rfl,au _,show(ab.length+(p::aa).length:Nat)=ab.length+1+aa.length by simp only[qL];omega]
    exact step out (by omega)
def zsf(fu:Nat)(hfu:90000000<=fu)(l:List Pc)(hz:c8 l<=300000)(hn:∀x∈l,nb x):qbl fu l=some (fk [] l []):=by
 have hll:=mw l;have:=zsg fu hfu l hz hn fu [] l [] rfl (by omega) (by simp)
 simpa [qbl] using this
end Go.Sym
namespace Go.Sym
def zc5:∀(q:List Pc)(k:Int),mt q k->∀x∈q,∀y∈q,x.2.1=y.2.1->x=y
 |[],_,_,x,hx,_,_,_=>by cases hx
 |p::r,k,h,x,hx,y,hy,e=>by
  have hg:=zc3 r _ h.2;have h1:=h.1;rcases List.mem_cons.1 hx with ex|ex
  ·rcases List.mem_cons.1 hy with ey|ey
   ·rw[ex,ey]
   ·subst ex;have:=hg y ey;omega
  ·rcases List.mem_cons.1 hy with ey|ey
   ·subst ey;have:=hg x ex;omega
   ·exact zc5 r _ h.2 x ex y ey e
def ny{l u w:List Pc}{x:Pc}(h:l=u++x::w):am (l.map cf) (u.length:Int)=some (cf x):=by
 subst h;have:=bg (u.map cf) (cf x) (w.map cf);rw[wC]at this;rw[List.map_append,List.map_cons];exact this
section ref
variable(fu:Nat)(hfu:90000000<=fu)(l ab aa:List Pc)(p:Pc)(hl:l=ab++p::aa)(hz:c8 l<=300000)(b0 b1 T S:Bs)(ps:List bz)(r4:ie)
include hfu hl hz
def q17:∀x∈l,x.1.length<=4000000:=fun x hx=>by have _:=hfu;have _:=hl;have:=qdw hx;omega
def rp6(n:Nat):∀(u w:List Pc)(seen:Bool),ab=u++w->w.length<n ->
  qe3 fu r4 n (ab.length:Int) seen (u.length:Int) b0 b1 T S (l.map cf) ps=qb fu r4 fu (ab.length:Int) (seen||w.any (fun x=>lk p.1 x.1)) (0:Int) (0:Int) b0 b1 T S (l.map cf) ps:=by
 have hnm:=q17 fu hfu l ab aa p hl hz;have hll:=mw l;have ac:l.length=ab.length+aa.length+1:=by rw[hl];simp;omega
 induction n with
 |zero=>intro u w seen _ h;omega|succ n ih=>
  intro u w seen hp h;rw[qe3,qsu];have hpl:ab.length=u.length+w.length:=by rw[hp];simp
  cases w with
  |nil=>rw[aq (by simp only[qZ]at hpl;omega)];simp|cons x w=>
   simp only[qL]at h hpl;have st:=fun sn=>ih (u++[x]) w sn (by rw[hp];simp) (by omega)
   simp only[qM,qL,qZ,wO]at st;rw[ag,List.any_cons]
   have hx:x∈l:=by rw[hl,hp];simp
   cases seen
   ·rw[ay rfl,iy,ny hl,qB,iy,ny (show l=u++x::(w++p::aa) by rw[hl,hp];simp),qB]
    show(ji fu p.1 x.1).bind _=_;rw[ve fu hfu _ _ (hnm p (by rw[hl];simp)) (hnm x hx),qB,qey,au _,st]
    simp
   ·rw[aw rfl,qey,au _,st]
    simp
def rp8(n:Nat):∀(u w:List Pc)(seen:Bool)(c:Nat),l=u++w->w.length<n->c<=u.length ->
  qb fu r4 n (ab.length:Int) seen (c:Int) (u.length:Int) b0 b1 T S (l.map cf) ps=qb fu r4 1 (ab.length:Int) seen ((c+(w.filter (fun x=>lk p.1 x.1)).length:Nat):Int) (l.length:Int) b0 b1 T S (l.map cf) ps:=by
 have hnm:=q17 fu hfu l ab aa p hl hz;have hll:=mw l
 induction n with
 |zero=>intro u w seen c _ h;omega|succ n ih=>
  intro u w seen c hp h hc;have hpl:l.length=u.length+w.length:=by rw[hp];simp
  cases w with
  |nil=>
   rw[List.append_nil]at hp;subst hp;rw[qb,qb];simp only[List.filter_nil,qZ,Nat.add_zero];have hend:¬((l.length:Int)<(List.length (l.map cf):Int)):=by rw[wC];omega
   rw[qas,qas,aq hend,aq hend]
  |cons x w=>
   simp only[qL]at h hpl;rw[qb,qas];have st:=fun c'(hc':c'<=u.length+1)=>ih (u++[x]) w seen c' (by rw[hp];simp) (by omega) (by simpa using hc')
   simp only[qM,qL,qZ,wO]at st;have hx:x∈l:=by rw[hp];simp
   rw[ag (by rw[wC];omega),iy,ny hl,qB,iy,ny hp,qB]
   show(ji fu p.1 x.1).bind _=_;rw[ve fu hfu _ _ (hnm p (by rw[hl];simp)) (hnm x hx),qB,List.filter_cons]
   cases hk:lk p.1 x.1
   ·rw[ay rfl,qex,au _,st c (by omega)];rfl
   ·rw[aw rfl,qex,au _,au _,st (c+1) (by omega)]
    simp only[if_true,qL];rw[show c+1+(w.filter (fun x=>lk p.1 x.1)).length=c+((w.filter (fun x=>lk p.1 x.1)).length+1) by omega]
def zez(r13:l9)(c:Int)(v:Bs)(nn:Int)(n:Nat):∀(u w:List Pc)(j:Int),l=u++w->w.length<n ->
  ∃j',ku fu r4 r13 n (ab.length:Int) c v nn j (u.length:Int) b0 b1 T S (l.map cf) ps=ku fu r4 r13 1 (ab.length:Int) c v nn j' (l.length:Int) b0 b1 T S (l.map cf) ps /\
   ((j'=j/\∀x∈w,¬(lk p.1 x.1=true/\x.2.1=nn))\/∃x∈w,lk p.1 x.1=true/\x.2.1=nn/\am (l.map cf) j'=some (cf x)):=by
 have hnm:=q17 fu hfu l ab aa p hl hz;have hll:=mw l
 induction n with
 |zero=>intro u w j _ h;omega|succ n ih=>
  intro u w j hp h;have hpl:l.length=u.length+w.length:=by rw[hp];simp
  cases w with
  |nil=>
   rw[List.append_nil]at hp;subst hp;refine⟨j,?_,.inl ⟨rfl,by simp⟩⟩
   have hend:¬((l.length:Int)<(List.length (l.map cf):Int)):=by rw[wC];omega
   rw[ku,ku,xe,xe,aq hend,aq hend]
  |cons x w=>
   simp only[qL]at h hpl;rw[ku,xe];have st:=fun j'=>ih (u++[x]) w j' (by rw[hp];simp) (by omega)
   simp only[qM,qL,qZ,wO]at st;have hx:x∈l:=by rw[hp];simp
   rw[ag (by rw[wC];omega),iy,ny hl,qB,iy,ny hp,qB]
   have hsk:¬(lk p.1 x.1=true/\x.2.1=nn)->∃j',ku fu r4 r13 n (ab.length:Int) c v nn j ((u.length+1:Nat):Int) b0 b1 T S (l.map cf) ps=ku fu r4 r13 1 (ab.length:Int) c v nn j' (l.length:Int) b0 b1 T S (l.map cf) ps /\
     ((j'=j/\∀y∈x::w,¬(lk p.1 y.1=true/\y.2.1=nn))\/∃y∈x::w,lk p.1 y.1=true/\y.2.1=nn/\am (l.map cf) j'=some (cf y)):=fun hno=>by
    obtain⟨j',g1,g2⟩:=st j;refine⟨j',g1,?_⟩;rcases g2 with⟨g2,g3⟩|⟨y,g2,g3⟩
    ·exact .inl ⟨g2,fun y hy=>(List.mem_cons.1 hy).elim (fun e=>e▸hno) (g3 y)⟩
    ·exact .inr ⟨y,qE _ g2,g3⟩
   show ∃j',(ji fu p.1 x.1).bind _=_/\_;rw[ve fu hfu _ _ (hnm p (by rw[hl];simp)) (hnm x hx),qB]
   cases hk:lk p.1 x.1
   ·rw[ay rfl,qe0,ay rfl,qaw,au _]
    exact hsk (by simp[hk])
   ·rw[aw rfl,iy,ny hp,qB,qe0];show ∃j',(bif x.2.1==nn then _ else _)=_/\_
    rw[jb];by_cases hn:x.2.1=nn
    ·rw[qX hn,qaw,au _]
     obtain⟨j',g1,g2⟩:=st (u.length:Int);refine⟨j',g1,.inr ?_⟩;rcases g2 with⟨g2,g3⟩|⟨y,g2,g3⟩
     ·exact⟨x,qH,hk,hn,by rw[g2];exact ny hp⟩
     ·exact⟨y,qE _ g2,g3⟩
    ·rw[qW hn,qaw,au _]
     exact hsk (by simp[hn])
omit hl in
def zak(r13:l9)(a c:Int)(v:Bs)(nn:Nat)(j:Int)(x:Pc)(hx:x∈l)(hn:x.2.1=(nn:Int))(hj:am (l.map cf) j=some (cf x))(hv:v.length<=100000000000)(hnn:nn<=4000000) :
  ku fu r4 r13 1 a c v (nn:Int) j (l.length:Int) b0 b1 T S (l.map cf) ps=r13 a c (v++nd x) ((nn+1:Nat):Int) b0 b1 T S (l.map cf) ps:=by
 have hxl:=qdw hx;have h0:0<=j:=by
  by_cases h:0<=j
  ·exact h
  ·unfold am at hj;rw[qW h]at hj;cases hj
 rw[ku,xe,aq (by rw[wC];omega),aq,iy,hj,qB,iy,hj,qB]
 have p22:∀t:Bs,t.length<=4000000->qax fu r4 r13 a c v (nn:Int) t b0 b1 T S (l.map cf) ps=r13 a c (v++t) ((nn+1:Nat):Int) b0 b1 T S (l.map cf) ps:=fun t ht=>by
  rw[qax,ag (by simp only[ap];omega),qsx,au _]
 have p23:∀t:Bs,t.length<=4000000->qe1 fu r4 r13 a c v (nn:Int) t b0 b1 T S (l.map cf) ps=r13 a c (v++ez t) ((nn+1:Nat):Int) b0 b1 T S (l.map cf) ps:=fun t ht=>by
  rw[qe1,zxd fu hfu t ht,qB,p22 _ (by have:=zdr _ t (wF _);omega)]
 unfold nd qqu;show(bif x.2.2.1 then(bif(nn:Int)==0 then(bif decide ((6:Int)<=(x.2.2.2.length:Int)) then(bif decide (0<=(6:Int)/\(6:Int)<=(List.length x.2.2.2:Int)) then(ul fu (List.take (6:Int).toNat x.2.2.2)).bind fun x7=>qa fu r4 r13 a c v (nn:Int) x.2.2.2 (x7==([117,116,102,56,39,39]:Bs)) b0 b1 T S (l.map cf) ps else none) else qa fu r4 r13 a c v (nn:Int) x.2.2.2 false b0 b1 T S (l.map cf) ps) else qa fu r4 r13 a c v (nn:Int) x.2.2.2 false b0 b1 T S (l.map cf) ps) else qax fu r4 r13 a c v (nn:Int) x.2.2.2 b0 b1 T S (l.map cf) ps)=_
 cases hs:x.2.2.1
 ·rw[ay rfl,p22 _ (by omega),qW (by simp)]
 rw[aw rfl,qX rfl,jb,hn];by_cases hz0:(nn:Int)=0
 ·rw[qX hz0];by_cases h6:6<=x.2.2.2.length
  ·have h6':(List.take (6:Int).toNat x.2.2.2).length=6:=by show(List.take 6 _).length=6;rw[List.length_take];omega
   rw[ag,ag,qqe fu _ (by omega) (by rw[h6'];simp[maxLen]),qB,qa]
   show(bif lk (x.2.2.2.take 6) [117,116,102,56,39,39] then _ else _)=_
   cases hk:lk (x.2.2.2.take 6) [117,116,102,56,39,39]
   ·rw[ay rfl,p23 _ (by omega),qW (by simp)]
   ·rw[aw rfl,ag,qX ⟨hz0,h6,rfl⟩]
    exact p23 (x.2.2.2.drop 6) (by simp;omega)
  ·rw[aq,qa,ay rfl,p23 _ (by omega),qW (by omega)]
 ·rw[qW hz0,qa,ay rfl,p23 _ (by omega),qW (by omega)]
def zoe(r13:l9)(c:Int)(v:Bs)(nn:Int):ku fu r4 r13 1 (ab.length:Int) c v nn (-1) (l.length:Int) b0 b1 T S (l.map cf) ps=some bad:=by
 have _:=hfu;have _:=hl;have _:=hz;rw[ku,xe,aq (by rw[wC];omega),ag];rfl
def zuu(q:List Pc)(hq:mt q 0)(hqm:∀x,x∈q↔(x∈l/\lk p.1 x.1=true))(n:Nat):∀(done rest:List Pc)(v:Bs),q=done++rest->rest.length<n->v.length+c8 rest<=300000->mt rest (done.length:Int)->q.length<=300000 ->
  mc fu r4 n (ab.length:Int) (q.length:Int) v (done.length:Int) b0 b1 T S (l.map cf) ps=mc fu r4 1 (ab.length:Int) (q.length:Int) (v++rest.flatMap nd) (q.length:Int) b0 b1 T S (l.map cf) ps:=by
 have hll:=mw l
 induction n with
 |zero=>intro done rest v _ h;omega|succ n ih=>
  intro done rest v hd h hv hnum hqb;have hql:q.length=done.length+rest.length:=by rw[hd];simp
  cases rest with
  |nil=>
   rw[List.append_nil]at hd;subst hd;have hend:¬((q.length:Int)<(q.length:Int)):=by omega
   rw[mc,mc,xd,xd,aq hend,aq hend];simp
  |cons x t=>
   simp only[qL]at h hql;rw[zz]at hv;have hxq:x∈q:=by rw[hd];simp
   have hxl:=(hqm x).1 hxq;have hxn:x.2.1=(done.length:Int):=hnum.1;rw[mc,xd,ag]
   obtain⟨j',g1,g2⟩:=zez fu hfu l ab aa p hl hz b0 b1 T S ps r4 (mc fu r4 n) (q.length:Int) v (done.length:Int) fu [] l (-1) rfl (by omega)
   rw[show(([]:List Pc).length:Int)=0 from rfl]at g1
   rw[g1];rcases g2 with⟨_,g3⟩|⟨y,g2,g3,g4,g5⟩
   ·exact absurd ⟨hxl.2,hxn⟩ (g3 x hxl.1)
   ·have hyq:y∈q:=(hqm y).2 ⟨g2,g3⟩;have hyx:y=x:=zc5 q 0 hq y hyq x hxq (by rw[g4,hxn])
    subst hyx;rw[zak fu hfu l hz b0 b1 T S ps r4 _ _ _ v done.length j' y g2 g4 g5 (by omega) (by omega)]
    have htl:=qjy y;have st:=ih (done++[y]) t (v++nd y) (by rw[hd];simp) (by omega) (by rw[qM];omega) (by rw[qM,wD];have:=hnum.2;rw[show((done.length+1:Nat):Int)=(done.length:Int)+1 by omega];exact this) hqb
    simp only[qM,qL,qZ,wO]at st;refine st.trans ?_;rw[List.flatMap_cons,qS]
def zuv(cnt k:Nat)(hk:k<cnt)(hno:∀x∈l,¬(lk p.1 x.1=true/\x.2.1=(k:Int)))(hc:cnt<=300000)(n:Nat):∀(nn:Nat)(v:Bs),nn<=k->cnt-nn<n->v.length<=nn*300000 ->
  mc fu r4 n (ab.length:Int) (cnt:Int) v (nn:Int) b0 b1 T S (l.map cf) ps=some bad:=by
 have hll:=mw l
 induction n with
 |zero=>intro nn v _ h;omega|succ n ih=>
  intro nn v hnk h hv;rw[mc,xd,ag]
  obtain⟨j',g1,g2⟩:=zez fu hfu l ab aa p hl hz b0 b1 T S ps r4 (mc fu r4 n) (cnt:Int) v (nn:Int) fu [] l (-1) rfl (by omega)
  rw[show(([]:List Pc).length:Int)=0 from rfl]at g1
  rw[g1];rcases g2 with⟨e,_⟩|⟨y,g2,g3,g4,g5⟩
  ·rw[e];exact zoe fu hfu l ab aa p hl hz b0 b1 T S ps r4 _ _ v _
  ·have hne:nn≠k:=fun e=>by subst e;exact hno y g2 ⟨g3,g4⟩
   have hyl:=qdw g2;have htl:=qjy y;rw[zak fu hfu l hz b0 b1 T S ps r4 _ _ _ v nn j' y g2 g4 g5 (by omega) (by omega)]
   exact ih (nn+1) (v++nd y) (by omega) (by omega) (by rw[qM];omega)
end ref
def zrq{l ab aa:List Pc}{p:Pc}(hl:l=ab++p::aa)(h:ab.any (fun x=>lk x.1 p.1)=false):cw p.1 l=p::cw p.1 aa:=by
 subst hl;unfold cw;rw[List.filter_append,List.filter_cons,qX (q0q p.1)];rw[List.filter_eq_nil_iff.2]
 ·rfl
 ·intro x hx;rw[List.any_eq_false]at h;exact h x hx
def zu0(fu:Nat)(hfu:90000000<=fu)(l:List Pc)(hz:c8 l<=300000)(hn:∀x∈l,nb x)(b0 b1 T S:Bs)(n:Nat):∀(ab aa:List Pc)(ps:List bz),l=ab++aa->aa.length<n->ps.length<=ab.length ->
  ne fu n (ab.length:Int) b0 b1 T S (l.map cf) ps=some (if(fk ab aa ps).1=true then((T,(S,(fk ab aa ps).2)),true) else bad):=by
 have hrm:=ge;have hll:=mw l
 induction n with
 |zero=>intro ab aa ps _ h;omega|succ n ih=>
  intro ab aa ps hl h hps;have ac:l.length=ab.length+aa.length:=by rw[hl];simp
  rw[ne,qst]
  cases aa with
  |nil=>rw[aq (by rw[wC];simp only[qZ]at ac;omega)];rfl|cons p aa=>
   simp only[qL]at h ac;have st:=fun o(ho:List.length o<=ab.length+1)=>ih (ab++[p]) aa o (by rw[hl];simp) (by omega) (by simpa using ho)
   simp only[qM,qL,qZ,wO]at st;rw[ag (by rw[wC];omega)]
   have h6:=rp6 fu hfu l ab aa p hl hz b0 b1 T S ps (ne fu n) fu [] ab false rfl (by omega)
   rw[show(([]:List Pc).length:Int)=0 from rfl]at h6
   have h8:=rp8 fu hfu l ab aa p hl hz b0 b1 T S ps (ne fu n) fu [] l (false||ab.any (fun x=>lk p.1 x.1)) 0 rfl (by omega) (by simp)
   rw[show(([]:List Pc).length:Int)=0 from rfl,show((0:Nat):Int)=0 from rfl]at h8
   rw[h6,h8];have hcm:(fun x:Pc=>lk p.1 x.1)=(fun x:Pc=>lk x.1 p.1):=funext fun x=>q0p _ _
   rw[hcm,Bool.false_or,wO,qb,qas,aq (by rw[wC];omega)]
   have hP:fk ab (p::aa) ps=(if ab.any (fun x=>lk x.1 p.1)=true then fk (ab++[p]) aa ps else match rf (cw p.1 l) with
    |none=>(false,[])| some v=>fk (ab++[p]) aa (ps++[(p.1,v)])):=by subst hl;rfl
   rw[hP];cases hany:ab.any (fun x=>lk x.1 p.1)
   ·rw[ay rfl,qW (c:=(false=true)) (by simp),iy,ny hl,qB]
    have hnf:=zrq hl hany;have hA:(l.filter fun x=>lk x.1 p.1)=p::cw p.1 aa:=hnf
    rw[hA,hnf,qpv];have hAz:c8 (p::cw p.1 aa)<=300000:=by have:=q2m (fun x=>lk x.1 p.1) l;rw[hA]at this;omega
    have hAl:=mw (p::cw p.1 aa);have hAm:∀x,x∈p::cw p.1 aa↔(x∈l/\lk p.1 x.1=true):=fun x=>by
     rw[← hA,List.mem_filter,q0p]
    show(bif decide (p.2.1<0) then _ else _)=_
    by_cases h0:p.2.1<0
    ·rw[ag h0,qX h0,fp];by_cases h1:cw p.1 aa=[]
     ·rw[qW (by rw[h1];simp),qX h1,iy,ny hl,qB,iy,ny hl,qB,ag,au _]
      exact st (ps++[(p.1,p.2.2.2)]) (by simp;omega)
     ·rw[qX (by
       cases hh:cw p.1 aa with
       |nil=>exact absurd hh h1| cons=>simp only[qL];omega),qW h1];rfl
    ·rw[aq h0,qW h0];obtain⟨_,h2,h3⟩:=q2i (p::cw p.1 aa) (fun x hx=>hn x ((hAm x).1 hx).1)
     by_cases hnum:mt (ia (p::cw p.1 aa)) 0
     ·rw[q0v _ _ _ hnum,wQ];have hm:∀x,x∈ia (p::cw p.1 aa)↔(x∈l/\lk p.1 x.1=true):=fun x=>by rw[h2.mem_iff];exact hAm x
      have hsz:=q2n h2;have:=zuu fu hfu l ab aa p hl hz b0 b1 T S ps (ne fu n) (ia (p::cw p.1 aa)) hnum hm fu [] (ia (p::cw p.1 aa)) [] rfl (by rw[h2.length_eq];omega) (by rw[hsz];simpa using hAz) hnum (by rw[h2.length_eq];omega)
      rw[show(([]:List Pc).length:Int)=0 from rfl,h2.length_eq]at this
      rw[this,mc,xd,aq,iy,ny hl,qB]
      have hvl:∀q:List Pc,(q.flatMap nd).length<=c8 q:=by
       intro q
       induction q with
       |nil=>simp|cons y q ih2=>
        have:=qjy y;rw[List.flatMap_cons,qM,zz];omega
      have hv:=hvl (ia (p::cw p.1 aa));simp only[List.nil_append];rw[zt5 fu (by omega) _,qB,ag,au _]
      exact st (ps++[(p.1,_)]) (by simp;omega)
     ·rw[zcb _ _ _ hnum,Option.map_none];have hncov:¬Cov (p::cw p.1 aa) 0:=fun hc=>hnum (q94 _ 0 h3 (hc.perm h2.symm))
      obtain⟨k,hk1,hk2⟩:∃k:Nat,k<(p::cw p.1 aa).length/\∀x∈p::cw p.1 aa,x.2.1≠(0:Int)+k:=by
       apply Classical.byContradiction;intro hq;apply hncov;intro j hj;apply Classical.byContradiction;intro hq2;exact hq ⟨j,hj,fun x hx e=>hq2 ⟨x,hx,e⟩⟩
      have:=zuv fu hfu l ab aa p hl hz b0 b1 T S ps (ne fu n) (p::cw p.1 aa).length k hk1 (fun x hx hc=>hk2 x ((hAm x).2 ⟨hx,hc.1⟩) (by rw[hc.2];omega)) (by omega) fu 0 [] (by omega) (by omega) (by simp)
      rw[show((0:Nat):Int)=0 from rfl]at this
      rw[this];rfl
   ·rw[aw rfl,qX (c:=(true=true)) rfl,au _]
    exact st ps (by omega)
def gv(s:List UInt8)(i:Nat):Bool:=bl (s.getD i 0) && !bl (s.getD (i-1) 0)
def cb(s:List UInt8):Nat->Nat->Nat->Nat|0,_,b=>b|m+1,i,b=>cb s m (i+1) (if gv s i && !(decide (0<b)&&decide (78<i)) then i else b)
def q9u(s:List UInt8):∀m i b,0<b->78<i->cb s m i b=b
 |0,_,_,_,_=>rfl|m+1,i,b,h1,h2=>by
  rw[cb,decide_eq_true h1,decide_eq_true h2];simp only[Bool.and_self,Bool.not_true,Bool.and_false,wJ,if_false];exact q9u s m (i+1) b h1 (by omega)
def qoh(s:List UInt8):∀m i b,cb s m i b=b\/(i<=cb s m i b/\cb s m i b<i+m/\gv s (cb s m i b)=true)
 |0,_,_ => .inl rfl|m+1,i,b=>by
  rw[cb];split
  ·rename_i h;simp only[qA]at h;rcases qoh s m (i+1) i with e|⟨h1,h2,h3⟩
   ·rw[e];exact .inr ⟨wF _,by omega,h.1⟩
   ·exact .inr ⟨by omega,by omega,h3⟩
  ·rcases qoh s m (i+1) b with e|⟨h1,h2,h3⟩
   ·exact .inl e
   ·exact .inr ⟨by omega,by omega,h3⟩
def qph(s:List UInt8)(i:Nat)(h:i<s.length):s.getD i 0=s[i]:=by simp[List.getD_eq_getElem?_getD,h]
def zs1(fu n:Nat):∀(s:List UInt8)(m i b:Nat),i+m=s.length->1<=i->m<n->s.length<1000000000->qgg fu n s (b:Int) (i:Int)=some ((cb s m i b:Nat):Int):=by
 induction n with
 |zero=>intro s m i b _ _ h;omega|succ n ih=>
  intro s m i b hi h1 hm hb;rw[qgg,quq]
  cases m with
  |zero=>rw[aq];rfl|succ m=>
   have hlt:i<s.length:=by omega
   have hlt':i-1<s.length:=by omega
   rw[ag,vm _ _ hlt,qB,qn9,qB,cb]
   unfold gv;rw[qph _ _ hlt,qph _ _ hlt'];unfold ql6;cases bl s[i]
   ·rw[dx,aw,au _]
    exact ih s m (i+1) b (by omega) (by omega) (by omega) hb
   ·rw[ci,show af ((i:Int)-1)=((i-1:Nat):Int) by rw[eg];omega,vm _ _ hlt',qB,qn9,qB]
    cases bl s[i-1]
    ·rw[ay (by rfl),au _,cq,cq]
     by_cases q1:0<b
     ·rw[qX (by omega),decide_eq_true q1]
      by_cases q2:78<i
      ·rw[qX (by omega),decide_eq_true q2]
       simp only[Bool.and_self,Bool.not_true,Bool.and_false,wJ,if_false];rw[q9u s m (i+1) b q1 (by omega)]
      ·rw[qW (by omega),decide_eq_false q2]
       exact ih s m (i+1) i (by omega) (by omega) (by omega) hb
     ·rw[qW (by omega),decide_eq_false q1]
      exact ih s m (i+1) i (by omega) (by omega) (by omega) hb
    ·rw[aw,au _]
     exact ih s m (i+1) b (by omega) (by omega) (by omega) hb
def et(s:List UInt8)(k:Nat):Nat:=cb s (s.length-k) k 0
def zs0(fu:Nat)(s:List UInt8)(k:Nat)(h:s.length<fu)(hb:s.length<1000000000)(hk:k<=s.length)(h0:1<=s.length):ql5 fu s (k:Int)=some ((et s (max k 1):Nat):Int):=by
 unfold ql5 et;have e:(if(1:Int)>(k:Int) then(1:Int) else(k:Int))=((max k 1:Nat):Int):=by
  split
  ·rename_i h;have:k=0:=by omega
   subst this;rfl
  ·rename_i h;rw[Nat.max_eq_left (by omega)]
 rw[e];exact zs1 fu fu s (s.length-max k 1) (max k 1) 0 (by omega) (by omega) (by omega) hb
def fh:Nat->List UInt8->Nat->List (List UInt8)|0,s,_=>[s]|n+1,s,k=>if 78<s.length then(if et s k=0 then[s] else s.take (et s k)::fh n (s.drop (et s k)) 1) else[s]
def qob(s:List UInt8)(k:Nat)(_h1:1<=k)(h:et s k≠0):k<=et s k/\et s k<s.length/\gv s (et s k)=true:=by
 unfold et at *;rcases qoh s (s.length-k) k 0 with e|⟨h2,h3,h4⟩
 ·exact absurd e h
 ·exact⟨h2,by omega,h4⟩
def rl:Nat->List (List UInt8)->Option Nat|_,[]=>none|i,l::ls=>if 998<l.length then some i else rl (i+1) ls
def zd(ls:List (List UInt8)):(Int×Int)×List (List UInt8):=match rl 0 ls with|some i=>((1,(i:Int)),[])|none=>((0,0),ls)
def zm7(fu n:Nat)(m16:Int×Int):∀(ab aa:List (List UInt8)),aa.length<n->ab.length+aa.length<1000000000 ->
  qgf fu n ((ab.length+aa.length:Nat):Int) (ab.length:Int) m16 (ab++aa)=some (match rl ab.length aa with|some i=>((1,(i:Int)),[])|none=>((0,0),ab++aa)):=by
 induction n with
 |zero=>intro ab aa h;omega|succ n ih=>
  intro ab aa h hb;rw[qgf,qun]
  cases aa with
  |nil=>rw[aq];rfl|cons c aa=>
   simp only[qL]at h hb ⊢;rw[ag,iy,bg,qB,cq,rl]
   by_cases hc:998<c.length
   ·rw[qX (by omega),qX hc];rfl
   ·rw[qW (by omega),qW hc,au _]
    have:=ih (ab++[c]) aa (by omega) (by simp;omega)
    simp only[qS,wM,qM,qL,qZ]at this;rw[show ab.length+(0+1)+aa.length=ab.length+(aa.length+1) by omega]at this
    exact this
def za9(fu:Nat)(m16:Int×Int)(s:List UInt8)(out:List (List UInt8))(h:out.length+1<fu:=by omega)(hb:out.length<900000000:=by omega):qge fu s m16 out=some (zd (out++[s])):=by
 unfold qge;rw[ag (by simp[a7];omega)]
 have:=zm7 fu fu m16 [] (out++[s]) (by simpa using h) (by simp;omega)
 simp only[List.nil_append,qZ,wO]at this;exact this
def zox(fu n:Nat)(m16:Int×Int):∀(m:Nat)(s:List UInt8)(k k':Nat)(out:List (List UInt8)),s.length<=m->s.length<n->max k 1=k'->(78<s.length->k<=s.length)->s.length+out.length+1<fu->s.length+out.length<500000000 ->
  qgd fu n s (k:Int) m16 out=some (zd (out++fh m s k')):=by
 induction n with
 |zero=>intro m s k k' out _ h;omega|succ n ih=>
  intro m s k k' out hm h hk hk2 hf hb;rw[qgd,qum,cq];by_cases hl:78<s.length
  ·obtain⟨m,rfl⟩:∃j,m=j+1:=⟨m-1,by omega⟩
   rw[qX (by omega),zs0 fu s k (by omega) (by omega) (hk2 hl) (by omega),hk,qB,jb,fh,qX hl]
   by_cases h0:et s k'=0
   ·rw[qX (by omega),qX h0]
    exact za9 fu m16 s out
   ·obtain⟨h1,h2,_⟩:=qob s k' (by omega) h0
    rw[qW (by omega),qW h0,ag,ag (by simp[a7];omega),ag]
    have:=ih m (s.drop (et s k')) 0 1 (out++[s.take (et s k')]) (by rw[List.length_drop];omega) (by rw[List.length_drop];omega) rfl (by intro;omega) (by rw[List.length_drop,qM,wD];omega) (by rw[List.length_drop,qM,wD];omega)
    simpa using this
  ·rw[qW (by omega)]
   have e:fh m s k'=[s]:=by cases m with|zero=>rfl|succ m=>rw[fh,qW hl]
   rw[e];exact za9 fu m16 s out
def bu(n v:List UInt8):List UInt8:=n++[58,32]++v
def dh(n v:List UInt8):List (List UInt8):=fh (bu n v).length (bu n v) (n.length+2)
def qx(n v:List UInt8):(Int×Int)×List (List UInt8):=if mo n v=0 then zd (dh n v) else((mo n v,-1),[])
def qpc{s:List UInt8}(h:lm s=true):s.length<=60:=by
 unfold lm at h;simp only[qA,decide_eq_true_eq]at h;exact h.1.2
def qip{n v:List UInt8}(h:mo n v=0):lm n=true/\v.length<=4000/\qy v=true:=by
 unfold mo at h;split at h
 ·rename_i h1;split at h
  ·exact absurd h (by decide)
  ·rename_i h2;split at h
   ·rename_i h3;exact⟨h1,by omega,h3⟩
   ·exact absurd h (by decide)
 ·exact absurd h (by decide)
def qz5(fu:Nat)(n v:List UInt8)(hfu:10000<=fu:=by omega)(hv:v.length<fu:=by omega)(hvb:v.length<1000000000:=by omega):xu fu n v=some (qx n v):=by
 unfold xu qx;rw[zou fu n,qB]
 by_cases h0:mo n v=0
 ·obtain⟨h1,h2,h3⟩:=qip h0;have hn:=qpc h1;rw[qX h0,h1,ci,aq,zbf fu v (by omega) hv hvb,qB,h3,ci,ag (by simp[ap];omega),ag (by simp[ap];omega)]
  have:=zox fu fu (0,0) (bu n v).length (bu n v) (n.length+2) (n.length+2) [] (wF _) (by simp[bu]<;>omega) (by omega) (by intro;simp[bu]<;>omega) (by simp[bu]<;>omega) (by simp[bu]<;>omega)
  rw[show af ((n.length:Int)+2)=((n.length+2:Nat):Int) by rw[eg];omega]
  exact this
 ·rw[qW h0];unfold mo at h0 ⊢;cases hn:lm n
  ·rfl
  ·rw[hn]at h0;simp only[if_true]at h0 ⊢;rw[ci,cq];by_cases hl:4000<v.length
   ·rw[qX (by omega),qX hl];rfl
   ·rw[qW hl]at h0;rw[qW (by omega),qW hl,zbf fu v (by omega) hv hvb,qB]
    cases hv3:qy v
    ·rfl
    ·rw[hv3]at h0;exact absurd rfl h0
def pts(s:List UInt8)(i m:Nat):List Nat:=(List.range' i m).filter (gv s)
def q1x(s:List UInt8)(i m:Nat):pts s i (m+1)=(if gv s i then[i] else[])++pts s (i+1) m:=by
 unfold pts;rw[List.range'_succ,List.filter_cons];split<;>rfl
def ztb(s:List UInt8)(i m k:Nat):pts s i (m+k)=pts s i m++pts s (i+m) k:=by
 unfold pts;rw[← List.filter_append];congr 1;rw[List.range'_append_1]
def ztd(s:List UInt8)(i m:Nat):(pts s i m).length<=m:=by
 unfold pts;have:=List.length_filter_le (gv s) (List.range' i m);simpa using this
def g9(at_ b p:Nat):Nat:=if at_<p/\(p-at_<=78\/b=0) then p-at_ else b
def zbt(s:List UInt8)(a i:Nat)(h:a<i:=by omega):gv (s.drop a) (i-a)=gv s i:=by
 unfold gv;simp only[List.getD_eq_getElem?_getD,List.getElem?_drop];rw[show a+(i-a)=i by omega,show a+(i-a-1)=i-1 by omega]
def q19(s:List UInt8)(a:Nat):∀m i b,a<i->(pts s i m).foldl (g9 a) b=cb (s.drop a) m (i-a) b
 |0,_,_,_=>rfl|m+1,i,b,h=>by
  rw[q1x,List.foldl_append,cb,zbt s a i h,show i-a+1=i+1-a by omega,← q19 s a m (i+1) _ (by omega)]
  congr 1;cases gv s i
  ·rfl
  ·simp only[if_true,List.foldl_cons,List.foldl_nil,g9,Bool.true_and];by_cases q1:0<b
   ·by_cases q2:78<i-a
    ·rw[qW (by omega),qW (by simp[q1,q2])]
    ·rw[qX (by omega),qX (by simp;omega)]
   ·rw[qX (by omega),qX (by simp;omega)]
def ze1(s:List UInt8)(a:Nat):∀m i b,i+m<=a+1->(pts s i m).foldl (g9 a) b=b
 |0,_,_,_=>rfl|m+1,i,b,h=>by
  rw[q1x,List.foldl_append];have e:(if gv s i=true then[i] else[]).foldl (g9 a) b=b:=by
   split
   ·simp only[List.foldl_cons,List.foldl_nil,g9];rw[qW (by omega)]
   ·rfl
  rw[e];exact ze1 s a m (i+1) b (by omega)
def zu6(s:List UInt8)(a k0:Nat)(h1:1<=k0)(h:a=0\/k0<=a)(ha:a<s.length)(hk:k0<=s.length):(pts s k0 (s.length-k0)).foldl (g9 a) 0=et (s.drop a) (if a=0 then k0 else 1):=by
 unfold et;by_cases h0:a=0
 ·subst h0;rw[qX rfl,q19 s 0 _ k0 0 (by omega)]
  simp
 ·rw[qW h0,show s.length-k0=(a+1-k0)+(s.length-a-1) by omega,ztb,List.foldl_append,ze1 s a (a+1-k0) k0 0 (by omega),show k0+(a+1-k0)=a+1 by omega,q19 s a _ _ _ (by omega),List.length_drop]
  rw[show a+1-a=1 by omega]
def zp(a b:Nat):Int:=if b=0 then -1 else((a+b:Nat):Int)
def zpx(fu:Nat)(r2:List UInt8->Int->List Int->List (List UInt8)->Option (List (List UInt8)))(n:Nat):∀(s:List UInt8)(a b:Nat)(ab:List Int)(aa:List Nat)(out:List (List UInt8)),aa.length<n->ab.length+aa.length<1000000000->(∀p∈aa,p<s.length)->a<=s.length->s.length<1000000000->a+b<=s.length->out.length<1000000000 ->
  w7 fu r2 n s (a:Int) (zp a b) (ab.length:Int) (ab++aa.map Nat.cast) out=(if aa.foldl (g9 a) b=0 then some (out++[s.drop a]) else r2 s ((a+aa.foldl (g9 a) b:Nat):Int) (ab++aa.map Nat.cast) (out++[(s.drop a).take (aa.foldl (g9 a) b)])):=by
 induction n with
 |zero=>intro s a b ab aa out h;omega|succ n ih=>
  intro s a b ab aa out h hb hp ha hs hab ho;rw[w7,qsl]
  cases aa with
  |nil=>
   rw[aq,List.foldl_nil,cq]
   unfold zp;by_cases h0:b=0
   ·rw[qX h0,qX (by omega),qX h0,ag,ag (by simp[a7];omega)]
    simp
   ·rw[qW h0,qW (by omega),qW h0,ag,ag (by simp[a7];omega)]
    rw[show((a+b:Nat):Int).toNat-(a:Int).toNat=b by omega]
    simp
  |cons p aa=>
   simp only[qL]at h hb;have hp0:=hp p qH;rw[List.map_cons];have hl:((ab++(p:Int)::aa.map Nat.cast).length:Int)=((ab.length+aa.length+1:Nat):Int):=by simp;omega
   rw[hl,ag]
   have hlt:(0<=(ab.length:Int)/\(ab.length:Int).toNat<(ab++(p:Int)::aa.map Nat.cast).length):=by simp
   rw[ag hlt,qz,qB,List.foldl_cons];have fin:∀b',a+b'<=s.length->w7 fu r2 n s (a:Int) (zp a b') (af ((ab.length:Int)+1)) (ab++(p:Int)::aa.map Nat.cast) out=(if aa.foldl (g9 a) b'=0 then some (out++[s.drop a]) else r2 s ((a+aa.foldl (g9 a) b':Nat):Int) (ab++(p:Int)::aa.map Nat.cast) (out++[(s.drop a).take (aa.foldl (g9 a) b')])):=by
    intro b' hb';have:=ih s a b' (ab++[(p:Int)]) aa out (by omega) (by simp;omega) (fun q hq=>hp q (qE _ hq)) ha hs hb' ho
    rw[au _]
    simpa using this
   unfold qeu qk6;rw[cq];by_cases q1:a<p
   ·have e1:af ((p:Int)-(a:Int))=((p-a:Nat):Int):=by rw[eg];omega
    have e2:(p:Int)=zp a (p-a):=by unfold zp;rw[qW (by omega)];omega
    rw[qX (by omega),e1,cq]
    by_cases q2:p-a<=78
    ·rw[qX (by omega),aw,show g9 a b p=p-a by unfold g9;rw[qX ⟨q1,.inl q2⟩],← fin (p-a) (by omega),← e2]
    ·rw[qW (by omega)]
     by_cases q3:b=0
     ·rw[aw (by unfold zp;rw[qX q3];rfl),show g9 a b p=p-a by unfold g9;rw[qX ⟨q1,.inr q3⟩],← fin (p-a) (by omega),← e2]
     ·rw[ay (by unfold zp;rw[qW q3];exact decide_eq_false (by omega)),show g9 a b p=b by unfold g9;rw[qW (by omega)],fin b hab]
   ·rw[qW (by omega),ay (by rfl),show g9 a b p=b by unfold g9;rw[qW (by omega)],fin b hab]
def zdh(fu n:Nat)(s:List UInt8)(k0:Nat)(hk1:1<=k0)(hk:k0<=s.length)(hs:s.length<500000000)(hfu:s.length<fu):∀(m a:Nat)(out:List (List UInt8)),s.length-a<=m->s.length-a<n->(a=0\/k0<=a)->a<s.length->out.length+(s.length-a)<500000000 ->
  sw fu n s (a:Int) ((pts s k0 (s.length-k0)).map Nat.cast) out=some (out++fh m (s.drop a) (if a=0 then k0 else 1)):=by
 induction n with
 |zero=>intro m a out _ h;omega|succ n ih=>
  intro m a out hm h hz ha ho;rw[sw,qk3,show af ((s.length:Int)-(a:Int))=((s.length-a:Nat):Int) by rw[eg];omega,cq]
  have ac:(s.drop a).length=s.length-a:=List.length_drop;by_cases hl:78<s.length-a
  ·obtain⟨m,rfl⟩:∃j,m=j+1:=⟨m-1,by omega⟩
   have hpl:=ztd s k0 (s.length-k0);have hin:=zpx fu (sw fu n) fu s a 0 [] (pts s k0 (s.length-k0)) out (by omega) (by simp;omega) (fun p hp=>by
    unfold pts at hp;rw[List.mem_filter,List.mem_range'_1]at hp;omega) (by omega) (by omega) (by omega) (by omega)
   rw[zu6 s a k0 hk1 hz ha hk]at hin;simp only[List.nil_append,qZ]at hin;rw[qX (by omega),fh,ac,qX hl]
   have hin:w7 fu (sw fu n) fu s (a:Int) (-1) 0 ((pts s k0 (s.length-k0)).map Nat.cast) out=_:=hin;rw[hin];by_cases h0:et (s.drop a) (if a=0 then k0 else 1)=0
   ·rw[qX h0,qX h0]
   ·obtain⟨h1,h2,_⟩:=qob (s.drop a) (if a=0 then k0 else 1) (by split<;>omega) h0
    rw[qW h0,qW h0];generalize hB:et (s.drop a) (if a=0 then k0 else 1)=B at *
    have:=ih m (a+B) (out++[(s.drop a).take B]) (by omega) (by omega) (.inr (by
     split at h1
     ·omega
     ·rcases hz with hz|hz<;>omega)) (by omega) (by rw[qM,wD];split at h1<;>omega)
    rw[qW (by split at h1<;>omega)]at this
    rw[this];simp[List.drop_drop]
  ·rw[qW (by omega),ag,ag (by simp[a7];omega)]
   have e:fh m (s.drop a) (if a=0 then k0 else 1)=[s.drop a]:=by cases m with|zero=>rfl|succ m=>rw[fh,ac,qW hl]
   rw[e];simp
def ztc(fu n:Nat):∀(s:List UInt8)(m i:Nat)(acc:List Int),i+m=s.length->1<=i->m<n->s.length<1000000000->acc.length+m<1000000000 ->
  qan fu n s (i:Int) acc=sw fu fu s 0 (acc++(pts s i m).map Nat.cast) []:=by
 induction n with
 |zero=>intro s m i acc _ _ h;omega|succ n ih=>
  intro s m i acc hi h1 hm hb ha;rw[qan,qk2]
  cases m with
  |zero=>rw[aq];simp[pts]|succ m=>
   have hlt:i<s.length:=by omega
   have hlt':i-1<s.length:=by omega
   rw[ag,vm _ _ hlt,qB,qdo,qB,q1x]
   unfold qk4 qk5;rw[show gv s i=(bl s[i] && !bl s[i-1]) by unfold gv;rw[qph _ _ hlt,qph _ _ hlt']]
   cases bl s[i]
   ·rw[ay (by rfl),ay (by rfl),au _]
    exact ih s m (i+1) acc (by omega) (by omega) (by omega) hb (by omega)
   ·rw[aw,show af ((i:Int)-1)=((i-1:Nat):Int) by rw[eg];omega,vm _ _ hlt',qB,qdo,qB]
    cases bl s[i-1]
    ·rw[dx,ag (by simp[a7];omega),au _]
     have:=ih s m (i+1) (acc++[(i:Int)]) (by omega) (by omega) (by omega) hb (by simp;omega)
     simpa using this
    ·rw[ci,au _]
     exact ih s m (i+1) acc (by omega) (by omega) (by omega) hb (by omega)
def zmu(n v:List UInt8):et (bu n v) (n.length+2)=et (bu n v) (n.length+3):=by
 unfold et
 cases v with
 |nil=>rw[show(bu n []).length=n.length+2 by simp[bu]];simp[cb]|cons c v=>
  have hl:(bu n (c::v)).length=n.length+3+v.length:=by simp[bu];omega
  rw[hl,show n.length+3+v.length-(n.length+2)=v.length+1 by omega,show n.length+3+v.length-(n.length+3)=v.length by omega,cb]
  have:gv (bu n (c::v)) (n.length+2)=false:=by
   unfold gv;have e:(bu n (c::v)).getD (n.length+2-1) 0=32:=by
    rw[show bu n (c::v)=(n++[58])++32::c::v by simp[bu],show n.length+2-1=(n++[58]).length by simp]
    simp[List.getD_eq_getElem?_getD]
   rw[e];cases bl ((bu n (c::v)).getD (n.length+2) 0)<;>rfl
  rw[this];rfl
def zot(n v:List UInt8):fh (bu n v).length (bu n v) (n.length+3)=dh n v:=by
 unfold dh
 cases h:(bu n v).length with|zero=>rfl|succ m=>rw[fh,fh,zmu]
def za8(fu:Nat)(n v:List UInt8)(h:n.length+v.length+3<fu:=by omega)(hb:n.length+v.length<400000000:=by omega):qet fu n v=some (dh n v):=by
 unfold qet;have hl:(bu n v).length=n.length+2+v.length:=by simp[bu];omega
 rw[ag (by simp[ap];omega),ag (by simp[ap];omega)]
 rw[show n++([58,32]:List UInt8)++v=bu n v from rfl,show af ((n.length:Int)+3)=((n.length+3:Nat):Int) by rw[eg];omega]
 cases v with
 |nil=>
  obtain⟨k,rfl⟩:∃k,fu=k+1:=⟨fu-1,by omega⟩
  simp only[qZ]at h hl;rw[qan,qk2,aq]
  -- too short for points
  by_cases hn:78<n.length+2
  ·have:=zdh (k+1) (k+1) (bu n []) (n.length+2) (by omega) (by omega) (by omega) (by omega) (bu n []).length 0 [] (by omega) (by omega) (.inl rfl) (by omega) (by simp;omega)
   rw[show(bu n []).length-(n.length+2)=0 by omega]at this
   exact this
  ·rw[sw,qk3,show af (((bu n []).length:Int)-0)=((bu n []).length:Int) by rw[eg];omega,aq,ag,ag (by simp[a7])]
   unfold dh;rw[show fh (bu n []).length (bu n []) (n.length+2)=[bu n []] by
    rw[hl,show n.length+2+0=n.length+1+1 by omega,fh,qW (by omega)]]
   rfl
 |cons c v=>
  simp only[qL]at h hb hl;have:=ztc fu fu (bu n (c::v)) v.length (n.length+3) [] (by omega) (by omega) (by omega) (by omega) (by simp;omega)
  rw[this,List.nil_append,← zot];have:=zdh fu fu (bu n (c::v)) (n.length+3) (by omega) (by omega) (by omega) (by omega) (bu n (c::v)).length 0 [] (by omega) (by omega) (.inl rfl) (by omega) (by simp;omega)
  rw[show(bu n (c::v)).length-(n.length+3)=v.length by omega]at this
  exact this
def ztv(fu n:Nat)(m16:Int×Int):∀(ab aa:List (List UInt8)),aa.length<n->ab.length+aa.length<1000000000 ->
  qes fu n (ab.length:Int) m16 (ab++aa)=some (match rl ab.length aa with|some i=>(1,(i:Int))|none=>(0,0)):=by
 induction n with
 |zero=>intro ab aa h;omega|succ n ih=>
  intro ab aa h hb;rw[qes,qsk]
  cases aa with
  |nil=>rw[aq];rfl|cons c aa=>
   simp only[qL]at h hb;rw[c7,ag,iy,bg,qB,cq,rl]
   by_cases hc:998<c.length
   ·rw[qX (by omega),qX hc];rfl
   ·rw[qW (by omega),qW hc,au _]
    have:=ih (ab++[c]) aa (by omega) (by simp;omega)
    simpa using this
def qz4:∀(m:Nat)(s:List UInt8)(k:Nat),s.length<=m->1<=k->(fh m s k).length<=s.length+1
 |0,s,_,_,_=>by simp[fh]|m+1,s,k,h,hk=>by
  rw[fh];split
  ·split
   ·simp
   ·rename_i h0;obtain⟨h1,h2,_⟩:=qob s k hk h0;have:=qz4 m (s.drop (et s k)) 1 (by rw[List.length_drop];omega) (by omega)
    rw[List.length_drop]at this;rw[qL];omega
  ·simp
def zq0(ls:List (List UInt8)):(zd ls).1=(match rl 0 ls with|some i=>(1,(i:Int))|none=>(0,0)):=by
 unfold zd;split<;>simp_all
def zow(fu:Nat)(n v:List UInt8)(hfu:10000<=fu:=by omega)(hn:n.length<fu:=by omega)(hv:v.length<fu:=by omega)(hnb:n.length<1000000000:=by omega)(hvb:v.length<1000000000:=by omega):qk1 fu n v=some (qx n v).1:=by
 unfold qk1 qx;rw[ztw fu n v (by omega) hn hv hnb hvb,qB,fp]
 by_cases h0:mo n v=0
 ·obtain⟨h1,h2,_⟩:=qip h0;have hl:=qpc h1;rw[qW (by omega),qX h0,za8 fu n v,qB,zq0]
  have:=qz4 (bu n v).length (bu n v) (n.length+2) (wF _) (by omega)
  have hle:(bu n v).length=n.length+2+v.length:=by simp[bu];omega
  have:=ztv fu fu (0,0) [] (dh n v) (by unfold dh;omega) (by unfold dh;simp;omega)
  exact this
 ·rw[qX h0,qW h0];rfl
def zbp{α:Type}(ab:List α)(c d:α)(aa:List α):am (ab++c::d::aa) ((ab.length+1:Nat):Int)=some d:=by
 have:=bg (ab++[c]) d aa;simpa using this
def gu(c:UInt8)(r:List UInt8):Bool:=c==13&&r.head? == some 10
def qi4{c:UInt8}{r:List UInt8}(h:gu c r=true):c=13/\∃r',r=10::r':=by
 unfold gu at h;simp only[qA,beq_iff_eq]at h;refine⟨h.1,?_⟩
 cases r with|nil=>simp at h|cons d r=>simp at h;exact⟨r,by rw[h.2]⟩
def eo:List UInt8->List UInt8|[]=>[]|c::r=>if gu c r then 13::10::eo r.tail else if c=13\/c=10 then 13::10::eo r else c::eo r
termination_by l=>l.length
decreasing_by all_goals (simp only[qL,List.length_tail];omega)
def zd6(ab:List UInt8)(c:UInt8)(r:List UInt8)(hb:ab.length<100000000:=by omega):qal (ab++c::r) (ab.length:Int)=some (gu c r):=by
 unfold qal gu;rw[au _]
 cases r with
 |nil=>rw[aq];cases c==13<;>rfl
 |cons d r=>
  rw[ag (by simp<;>omega),bg,qB]
  cases c==13
  ·rfl
  ·rw[aw,zbp,qB]
   cases h:d==10<;>simp_all
def bs(col:Nat):List UInt8->Int|[]=>0|c::r=>if gu c r then bs 0 r.tail else if c=13\/c=10 then 11 else if 998<=col then 1 else bs (col+1) r
termination_by l=>l.length
decreasing_by all_goals (simp only[qL,List.length_tail];omega)
def qod(col:Nat):bs col []=0:=by rw[bs]
def qoc(col:Nat)(c:UInt8)(r:List UInt8):bs col (c::r)=if gu c r then bs 0 r.tail else if c=13\/c=10 then 11 else if 998<=col then 1 else bs (col+1) r:=by rw[bs]
def qck(x:Int):Int×Int:=if x=11 then(11,-5) else if x=1 then(1,-6) else(0,0)
def q9i(fu n:Nat):∀(ab aa:List UInt8)(col:Nat),aa.length<n->ab.length+aa.length<100000000->col<=2000 ->
  xq fu n (ab++aa) (col:Int) (ab.length:Int)=some (bs col aa):=by
 induction n with
 |zero=>intro ab aa col h;omega|succ n ih=>
  intro ab aa col h hb hcol;rw[xq,qug]
  cases aa with
  |nil=>rw[aq,qod]|cons c r=>
   simp only[qL]at h hb;have fin:∀f,f=gu c r->qbf fu (xq fu n) (ab++c::r) (col:Int) (ab.length:Int) c f=some (bs col (c::r)):=by
    intro f hf;unfold qbf;rw[qoc,hf];cases hc:gu c r
    ·rw[ay (by rfl),qW (by decide)]
     unfold quh;rw[lg,lg];by_cases h13:c=13
     ·rw[qX h13,qX (.inl h13)]
     ·rw[qW h13];by_cases h10:c=10
      ·rw[qX h10,qX (.inr h10)]
      ·rw[qW h10,qW (by simp[h13,h10]),au _,cq]
       by_cases hq:998<=col
       ·rw[qX (by omega),qX hq]
       ·rw[qW (by omega),qW hq,au _]
        have:=ih (ab++[c]) r (col+1) (by omega) (by simp;omega) (by omega)
        simpa using this
    ·obtain⟨rfl,r',rfl⟩:=qi4 hc;simp only[qL]at h hb;rw[aw,qX rfl,au _,au _,show ab.length+1+1=ab.length+2 from rfl]
     have:=ih (ab++[13,10]) r' 0 (by omega) (by simp;omega) (by omega)
     simpa using this
   rw[c7,ag,bg,qB,lg]
   by_cases h13:c=13
   ·subst h13;rw[qX rfl,au _]
    cases r with
    |nil=>rw[aq];exact fin false rfl|cons d r=>
     rw[ag (by simp only[qL];omega),zbp,qB]
     exact fin _ (by unfold gu;cases h:d==10<;>simp_all)
   ·rw[qW h13];exact fin false (by unfold gu;rw[beq_false_of_ne h13];rfl)
def zmo(fu:Nat)(s:List UInt8)(h:s.length<fu:=by omega)(hb:s.length<100000000:=by omega):qmj fu s=some (qck (bs 0 s)):=by
 unfold qmj qbe qck;have:=q9i fu fu [] s 0 h (by simpa using hb) (by omega)
 have this:xq fu fu s 0 0=some (bs 0 s):=this;rw[this,qB,jb,jb];split
 ·rfl
 ·split<;>rfl
def zmx(n:Nat):∀(s:List UInt8)(col:Nat),s.length<=n->bs col s=0\/bs col s=1\/bs col s=11:=by
 induction n with
 |zero=>intro s col h;have:=List.length_eq_zero_iff.1 (Nat.le_zero.1 h);subst this;rw[qod];exact .inl rfl|succ n ih=>
  intro s col h
  cases s with
  |nil=>rw[qod];exact .inl rfl|cons c r=>
   simp only[qL]at h;rw[qoc];split
   ·exact ih _ _ (by rw[List.length_tail];omega)
   ·split
    ·exact .inr (.inr rfl)
    ·split
     ·exact .inr (.inl rfl)
     ·exact ih _ _ (by omega)
def ztt(fu n:Nat)(m16:Int×Int):∀(ab aa:List UInt8)(col b:Nat),aa.length<n->ab.length+aa.length<100000000->b+col=ab.length ->
  qfu fu n (ab++aa) (b:Int) (ab.length:Int) m16=some (qck (bs col aa)):=by
 induction n with
 |zero=>intro ab aa col b h;omega|succ n ih=>
  intro ab aa col b h hb hcol;rw[qfu,qto]
  cases aa with
  |nil=>rw[aq,qod];rfl|cons c r=>
   simp only[qL]at h hb;rw[c7,ag,zd6 ab c r,qB,qoc]
   cases hc:gu c r
   ·rw[ay (by rfl),qW (by decide),bg,qB,qB,lg]
    unfold qlq;by_cases h13:c=13
    ·rw[qX h13,qX (.inl h13)];rfl
    ·rw[qW h13,lg];by_cases h10:c=10
     ·rw[qX h10,qX (.inr h10)];rfl
     ·rw[qW h10,qW (by simp[h13,h10]),show af ((ab.length:Int)-(b:Int))=(col:Int) by rw[eg];omega,cq]
      by_cases hq:998<=col
      ·rw[qX (by omega),qX hq];rfl
      ·rw[qW (by omega),qW hq,au _]
       have:=ih (ab++[c]) r (col+1) b (by omega) (by simp;omega) (by simp;omega)
       simpa using this
   ·obtain⟨rfl,r',rfl⟩:=qi4 hc;simp only[qL]at h hb;rw[aw,qX rfl,au _,au _,show ab.length+1+1=ab.length+2 from rfl]
    have:=ih (ab++[13,10]) r' 0 (ab.length+2) (by omega) (by simp;omega) (by simp)
    simpa using this
def zd5(fu:Nat)(s:List UInt8)(h:s.length<fu:=by omega)(hb:s.length<100000000:=by omega):qlp fu s=some (qck (bs 0 s)):=by
 have:=ztt fu fu (0,0) [] s 0 0 h (by simpa using hb) rfl
 exact this
abbrev az:Type:=List UInt8×List UInt8
def ni(l:List az):Prop:=l.length<=10000000/\∀x∈l,x.1.length<=10000000/\x.2.length<=10000000
def ni.tail{x:az}{l:List az}(h:ni (x::l)):ni l:=⟨by have:=h.1;simp only[qL]at this;omega,fun y hy=>h.2 y (qE _ hy)⟩
def ff:Nat->List az->Int×Int|_,[]=>(0,0)|i,x::l=>if(qx x.1 x.2).1.1≠0 then((qx x.1 x.2).1.1,(i:Int)) else ff (i+1) l
def lj(l:List az):Int×Int:=if 60<l.length then(2,-1) else ff 0 l
def zpp(fu n:Nat)(hfu:90000000<=fu)(m16:Int×Int):∀(ab aa:List az),aa.length<n->ab.length+aa.length<100000000->ni aa ->
  qgi fu n (ab++aa) ((ab.length+aa.length:Nat):Int) (ab.length:Int) m16=some (ff ab.length aa):=by
 induction n with
 |zero=>intro ab aa h;omega|succ n ih=>
  intro ab aa h hb hs;rw[qgi,quv]
  cases aa with
  |nil=>rw[aq];rfl|cons x aa=>
   simp only[qL]at h hb ⊢;obtain⟨q1,q2⟩:=hs.2 x qH;rw[ag,bg,qB,qz5 fu x.1 x.2,qB,qw,qB,fp,ff]
   split
   ·rfl
   ·rw[au _]
    have:=ih (ab++[x]) aa (by omega) (by simp;omega) hs.tail
    simp only[qS,wM,qM,qL,qZ]at this;rw[show ab.length+(0+1)+aa.length=ab.length+(aa.length+1) by omega]at this
    exact this
def zbn(fu:Nat)(hfu:90000000<=fu)(l:List az)(hs:ni l):qgh fu l=some (lj l):=by
 unfold qgh lj;rw[cq];split
 ·rw[qX (by omega)];rfl
 ·rw[qW (by omega)]
  have:=zpp fu fu hfu (0,0) [] l (by have:=hs.1;omega) (by have:=hs.1;simp;omega) hs
  simp only[List.nil_append,qZ,wO]at this;exact this
def zui(fu n:Nat)(hfu:90000000<=fu)(m16:Int×Int):∀(ab aa:List az),aa.length<n->ab.length+aa.length<100000000->ni aa ->
  qeq fu n (ab++aa) (ab.length:Int) m16=some (ff ab.length aa):=by
 induction n with
 |zero=>intro ab aa h;omega|succ n ih=>
  intro ab aa h hb hs;rw[qeq,qsi]
  cases aa with
  |nil=>rw[aq];rfl|cons x aa=>
   simp only[qL]at h hb ⊢;obtain⟨q1,q2⟩:=hs.2 x qH;rw[qde,qL,ag,bg,qB,qB,zow fu x.1 x.2,qB,fp,ff]
   split
   ·rfl
   ·rw[au _]
    have:=ih (ab++[x]) aa (by omega) (by simp;omega) hs.tail
    simpa using this
def zeu(fu:Nat)(hfu:90000000<=fu)(l:List az)(hs:ni l):qep fu l=some (lj l):=by
 unfold qep lj;rw[cq];split
 ·rw[qX (by omega)];rfl
 ·rw[qW (by omega)]
  have:=zui fu fu hfu (0,0) [] l (by have:=hs.1;omega) (by have:=hs.1;simp;omega) hs
  exact this
def fq(x:az):Prop:=mo x.1 x.2=0/\rl 0 (dh x.1 x.2)=none
def q1c{x:az}(h:fq x):qx x.1 x.2=((0,0),dh x.1 x.2):=by
 unfold qx zd;rw[qX h.1,h.2]
def zoy{x:az}(h:(qx x.1 x.2).1.1=0:=by omega):fq x:=by
 unfold qx zd at h;by_cases h0:mo x.1 x.2=0
 ·refine⟨h0,?_⟩;rw[qX h0]at h;split at h
  ·exact absurd h (by simp)
  ·rename_i h1;exact h1
 ·rw[qW h0]at h;exact absurd h h0
def zat:∀(i:Nat)(l:List az),(ff i l).1=0->∀x∈l,fq x
 |_,[],_,_,h=>by cases h
 |i,y::l,h,x,hx=>by
  rw[ff]at h;split at h
  ·rename_i h1;exact absurd h h1
  ·rename_i h1;rcases List.mem_cons.1 hx with rfl|hx
   ·exact zoy
   ·exact zat (i+1) l h x hx
def zdb:∀(i:Nat)(l:List az),(∀x∈l,fq x)->ff i l=(0,0)
 |_,[],_=>rfl|i,y::l,h=>by
  rw[ff,q1c (h y qH),qW (by simp)]
  exact zdb (i+1) l fun x hx=>h x (qE _ hx)
def qzy{l:List az}(h:(lj l).1=0):lj l=(0,0)/\l.length<=60/\∀x∈l,fq x:=by
 unfold lj at h ⊢;split at h
 ·exact absurd h (by decide)
 ·rename_i hl;have:=zat 0 l h;rw[qW hl];exact⟨zdb 0 l this,by omega,this⟩
def dv(ls:List (List UInt8)):List UInt8:=ls.flatMap fun s=>s++[13,10]
def nu(l:List az):List UInt8:=l.flatMap fun x=>dv (dh x.1 x.2)
def hbytes(l:List az):List UInt8:=nu l++[13,10]
def qpd:∀(m:Nat)(s:List UInt8)(k:Nat),(fh m s k).flatten=s
 |0,s,_=>by simp[fh]|m+1,s,k=>by
  rw[fh];split
  ·split
   ·simp
   ·rw[List.flatten_cons,qpd m,List.take_append_drop]
  ·simp
def q0l:∀ls:List (List UInt8),(dv ls).length=ls.flatten.length+2*ls.length
 |[]=>rfl|s::ls=>by
  have:=q0l ls;unfold dv at this ⊢;rw[List.flatMap_cons,List.flatten_cons,qM,qM,this];simp only[qM,qL,qZ];omega
def qdj{x:az}(h:fq x):x.1.length<=60/\x.2.length<=4000/\(dh x.1 x.2).length<=5000/\(dv (dh x.1 x.2)).length<=20000:=by
 obtain⟨h1,h2,_⟩:=qip h.1;have hl:=qpc h1;have hle:(bu x.1 x.2).length=x.1.length+2+x.2.length:=by simp[bu];omega
 have h3:=qz4 (bu x.1 x.2).length (bu x.1 x.2) (x.1.length+2) (wF _) (by omega)
 have h4:(dh x.1 x.2).flatten.length=(bu x.1 x.2).length:=by unfold dh;rw[qpd]
 have h5:(dh x.1 x.2).length<=5000:=by unfold dh;omega
 exact⟨hl,h2,h5,by rw[q0l];omega⟩
def zas:∀l:List az,(∀x∈l,fq x)->(nu l).length<=20000*l.length
 |[],_=>wF _|x::l,h=>by
  have:=zas l fun y hy=>h y (qE _ hy)
  obtain⟨_,_,_,h4⟩:=qdj (h x qH);unfold nu at this ⊢;rw[List.flatMap_cons,qM,qL];omega
def zxx(fu:Nat)(r0:List az->Int->Int->(List az×List UInt8)->List UInt8->Option (List UInt8))(s11:List az)(s12 s13:Int)(m16:List az×List UInt8)(n:Nat):∀(ab aa:List (List UInt8))(out:List UInt8),aa.length<n->ab.length+aa.length<100000000->out.length+(dv aa).length<1000000000 ->
  qbp fu r0 n s11 s12 s13 ((ab.length+aa.length:Nat):Int) (ab.length:Int) m16 (ab++aa) out=r0 s11 s12 (af (s13+1)) m16 (out++dv aa):=by
 induction n with
 |zero=>intro ab aa out h;omega|succ n ih=>
  intro ab aa out h hb ho;rw[qbp,qvk]
  cases aa with
  |nil=>rw[aq];simp[dv]|cons x aa=>
   have hc:dv (x::aa)=x++[13,10]++dv aa:=by simp[dv]
   rw[hc]at ho ⊢;simp only[qL,qM,qZ]at h hb ho;rw[show(x::aa).length=aa.length+1 from rfl,ag,iy,bg,qB,ag (by simp[a7];omega),ag (by simp[a7];omega),au _]
   have:=ih (ab++[x]) aa (out++x++[13,10]) (by omega) (by simp;omega) (by simp;omega)
   simp only[qS,wM,qM,qL,qZ]at this;rw[show ab.length+(0+1)+aa.length=ab.length+(aa.length+1) by omega]at this
   simpa using this
def zx2(fu n:Nat)(hfu:90000000<=fu)(m16:List az×List UInt8)(hm:m16.2.length<=100000000):∀(ab aa:List az)(out:List UInt8),aa.length<n->ab.length+aa.length<1000->(∀x∈aa,fq x)->out.length<=20000*ab.length ->
  xy fu n (ab++aa) ((ab.length+aa.length:Nat):Int) (ab.length:Int) m16 out=some (out++hbytes aa++m16.2):=by
 induction n with
 |zero=>intro ab aa out h;omega|succ n ih=>
  intro ab aa out h hb hok ho;rw[xy,qvj]
  cases aa with
  |nil=>
   rw[aq,ag (by simp[a7];omega),ag (by simp[a7];omega)];simp[hbytes,nu]
  |cons x aa=>
   have hx:=hok x qH;obtain⟨l1,l2,l3,l4⟩:=qdj hx;have hc:hbytes (x::aa)=dv (dh x.1 x.2)++hbytes aa:=by simp[hbytes,nu]
   rw[hc];simp only[qL]at h hb ⊢;rw[ag,bg,qB,qz5 fu x.1 x.2,qB,q1c hx]
   have:=zxx fu (xy fu n) (ab++x::aa) ((ab.length+(aa.length+1):Nat):Int) (ab.length:Int) m16 fu [] (dh x.1 x.2) out (by omega) (by simp;omega) (by omega)
   simp only[List.nil_append,qZ,wO]at this;have this:qbp fu (xy fu n) fu (ab++x::aa) ((ab.length+(aa.length+1):Nat):Int) (ab.length:Int) ((dh x.1 x.2).length:Int) 0 m16 (dh x.1 x.2) out=_:=this;rw[this,au _]
   have:=ih (ab++[x]) aa (out++dv (dh x.1 x.2)) (by omega) (by simp;omega) (fun y hy=>hok y (qE _ hy)) (by simp;omega)
   simp only[qS,wM,qM,qL,qZ]at this;rw[show ab.length+(0+1)+aa.length=ab.length+(aa.length+1) by omega]at this
   simpa using this
def zx1(fu:Nat)(hfu:90000000<=fu)(l:List az)(b:List UInt8)(hl:l.length<=60)(hok:∀x∈l,fq x)(hb:b.length<=100000000:=by omega):qvi fu (l,b)=some (hbytes l++b):=by
 have:=zx2 fu fu hfu (l,b) hb [] l [] (by omega) (by simp;omega) hok (by simp)
 simp only[List.nil_append,qZ,wO]at this;exact this
def zpl(fu:Nat)(r0:List az->List UInt8->Int->Option (List UInt8))(s0:List az)(s4:Int)(n:Nat):∀(ab aa:List (List UInt8))(out:List UInt8),aa.length<n->ab.length+aa.length<100000000->out.length+(dv aa).length<1000000000 ->
  qao fu r0 n s0 out s4 (ab.length:Int) (ab++aa)=r0 s0 (out++dv aa) (af (s4+1)):=by
 induction n with
 |zero=>intro ab aa out h;omega|succ n ih=>
  intro ab aa out h hb ho;rw[qao,qsn]
  cases aa with
  |nil=>rw[aq];simp[dv]|cons x aa=>
   have hc:dv (x::aa)=x++[13,10]++dv aa:=by simp[dv]
   rw[hc]at ho ⊢;simp only[qL,qM,qZ]at h hb ho;rw[c7,ag,iy,bg,qB,ag (by simp[ap];omega),ag (by simp[ap];omega),au _]
   have:=ih (ab++[x]) aa (out++x++[13,10]) (by omega) (by simp;omega) (by simp;omega)
   simpa using this
def zpe(fu n:Nat)(hfu:90000000<=fu):∀(ab aa:List az)(out:List UInt8),aa.length<n->ab.length+aa.length<1000->(∀x∈aa,fq x)->out.length<=20000*ab.length ->
  w8 fu n (ab++aa) out (ab.length:Int)=some (out++hbytes aa):=by
 induction n with
 |zero=>intro ab aa out h;omega|succ n ih=>
  intro ab aa out h hb hok ho;rw[w8,qsm]
  cases aa with
  |nil=>
   rw[aq,ag (by simp[ap];omega),ag (by simp[maxLen];omega)];simp[hbytes,nu]
  |cons x aa=>
   have hx:=hok x qH;obtain⟨l1,l2,l3,l4⟩:=qdj hx;have hc:hbytes (x::aa)=dv (dh x.1 x.2)++hbytes aa:=by simp[hbytes,nu]
   rw[hc];simp only[qL]at h hb ⊢;rw[qde,qL,ag,bg,qB,qB,za8 fu x.1 x.2,qB]
   have:=zpl fu (w8 fu n) (ab++x::aa) (ab.length:Int) fu [] (dh x.1 x.2) out (by omega) (by simp;omega) (by omega)
   have this:qao fu (w8 fu n) fu (ab++x::aa) out (ab.length:Int) 0 (dh x.1 x.2)=_:=this;rw[this,au _]
   have:=ih (ab++[x]) aa (out++dv (dh x.1 x.2)) (by omega) (by simp;omega) (fun y hy=>hok y (qE _ hy)) (by simp;omega)
   simpa using this
def zbk(fu:Nat)(hfu:90000000<=fu)(l:List az)(hl:l.length<=60)(hok:∀x∈l,fq x):qk7 fu l=some (hbytes l):=by
 have:=zpe fu fu hfu [] l [] (by omega) (by simp;omega) hok (by simp)
 exact this
def zpf{l:List az}(hl:l.length<=60)(hok:∀x∈l,fq x):(hbytes l).length<=2000000:=by
 have:=zas l hok;unfold hbytes;rw[qM];simp only[qL,qZ];omega
def rr(m:List az×List UInt8):Int×Int:=if(lj m.1).1≠0 then lj m.1 else if 12000<(hbytes m.1).length+m.2.length then(1,-4) else qck (bs 0 m.2)
def SmM(m:List az×List UInt8):Prop:=ni m.1/\m.2.length<=80000000
def zxj(fu:Nat)(hfu:90000000<=fu)(m:List az×List UInt8)(hs:SmM m):qg5 fu m=some (rr m):=by
 obtain⟨l,b⟩:=m;obtain⟨h1,h2⟩:=hs;simp only at h1 h2;unfold qg5 rr;rw[zbn fu hfu l h1,qB,qw,qB,fp];simp only;split
 ·rfl
 ·rename_i h0;obtain⟨_,k1,k2⟩:=qzy (l:=l) (by omega)
  rw[zx1 fu hfu l b k1 k2,qB,cq,qM]
  split
  ·rw[qX (by omega)];rfl
  ·rw[qW (by omega),zmo fu b];rfl
def zok(fu:Nat)(hfu:90000000<=fu)(m:List az×List UInt8)(hs:SmM m):qlu fu m=some (rr m):=by
 obtain⟨l,b⟩:=m;obtain⟨h1,h2⟩:=hs;simp only at h1 h2;unfold qlu rr;rw[zeu fu hfu l h1,qB,fp];simp only;split
 ·rfl
 ·rename_i h0;obtain⟨_,k1,k2⟩:=qzy (l:=l) (by omega)
  have hl:=zpf k1 k2;rw[cq];split
  ·rw[qX (by omega)];rfl
  ·rw[zbk fu hfu l k1 k2,qB,eg,cq]
   split
   ·rw[qX (by omega)];rfl
   ·rw[qW (by omega),zd5 fu b];rfl
def zm8(t:List UInt8):List UInt8:=if t.getLast? = some 13 then t.dropLast else t
def ln(r:List UInt8):List UInt8×Nat:=if(10:UInt8)∈r then(zm8 (r.takeWhile (· != 10)),(r.takeWhile (· != 10)).length+1) else(r,r.length)
def zor(s:List UInt8):Option az:=if(58:UInt8)∈s/\lm (ik (s.takeWhile (· != 58)))=true then some (ik (s.takeWhile (· != 58)),(s.dropWhile (· != 58)).tail) else none

def qny(out:List az)(s:List UInt8):List az:=match out.getLast? with|some x=>out.dropLast++[(x.1,x.2++s)]|none=>out
def zlr(out:List az)(x:az)(s:List UInt8):qny (out++[x]) s=out++[(x.1,x.2++s)]:=by
 unfold qny;rw[List.getLast?_concat,List.dropLast_concat]
def hd:Nat->List UInt8->Nat->List az->Nat×List az
 |0,_,a,out=>(a,out)|n+1,r,a,out=>
  if r=[] then(a,out) else
  if(ln r).1=[] then(a+(ln r).2,out) else
  if bl ((ln r).1.headD 0)=true/\out≠[] then hd n (r.drop (ln r).2) (a+(ln r).2) (qny out (ln r).1) else
  match zor (ln r).1 with|none=>(a,out)|some x=>hd n (r.drop (ln r).2) (a+(ln r).2) (out++[x])
def SmA(a:Nat)(l:List az):Prop:=l.length<=a/\∀x∈l,x.1.length<=a/\x.2.length<=a
def SmA.mono{a b:Nat}{l:List az}(h:SmA a l)(hab:a<=b):SmA b l:=⟨Nat.le_trans h.1 hab,fun x hx=>⟨Nat.le_trans (h.2 x hx).1 hab,Nat.le_trans (h.2 x hx).2 hab⟩⟩
def SmA.app{a k:Nat}{l:List az}(h:SmA a l)(hne:l≠[])(s:List UInt8)(hs:s.length<=k):SmA (a+k) (qny l s):=by
 rcases List.eq_nil_or_concat l with rfl|⟨t,x,rfl⟩
 ·exact absurd rfl hne
 ·rw[List.concat_eq_append]at *;rw[zlr];refine⟨by have:=h.1;simp only[qM,qL,qZ]at this ⊢;omega,fun y hy => ?_⟩
  rcases List.mem_append.1 hy with hy|hy
  ·have:=h.2 y (List.mem_append_left _ hy);omega
  ·have:=h.2 x (by simp)
   rw[List.mem_singleton.1 hy];simp only[qM];omega

def zvq(fu n:Nat):∀(ab aa:List az),aa.length<n->ab.length+aa.length<100000000->qa0 fu n (ab++aa) (ab++aa) (ab.length:Int)=some true:=by
 induction n with
 |zero=>intro ab aa h;omega|succ n ih=>
  intro ab aa h hb;rw[qa0,qs4]
  cases aa with
  |nil=>rw[aq]|cons x aa=>
   simp only[qL]at h hb;rw[qde,qL,ag,bg,qB,qB,show((x.1==x.1)&&((x.2==x.2)&&true))=true by simp,ci,au _]
   have:=ih (ab++[x]) aa (by omega) (by simp;omega)
   simpa using this
def zvp(fu:Nat)(m:List az×List UInt8)(h:m.1.length<fu:=by omega)(hb:m.1.length<100000000:=by omega):xp fu m m=some true:=by
 unfold xp qli qky;rw[fp,qW (by simp)]
 have:=zvq fu fu [] m.1 h (by simpa using hb)
 have this:qa0 fu fu m.1 m.1 0=some true:=this;rw[this,qB,aw,qB];simp
def zm9(s:List UInt8):Prop:=∀x∈s,x≠13/\x≠10/\x≠0
def zrm:∀n:_root_.Fin 256,mr (UInt8.ofNat n.val)=true->(UInt8.ofNat n.val≠13/\UInt8.ofNat n.val≠10/\UInt8.ofNat n.val≠0)/\UInt8.ofNat n.val≠58/\bl (UInt8.ofNat n.val)=false:=by decide +kernel
def zrn(c:UInt8)(h:mr c=true):(c≠13/\c≠10/\c≠0)/\c≠58/\bl c=false:=jl (fun c=>mr c=true->(c≠13/\c≠10/\c≠0)/\c≠58/\bl c=false) zrm c h
def zov{n:List UInt8}(h:lm n=true):n≠[]/\∀c∈n,mr c=true:=by
 unfold lm at h;simp only[qA]at h;exact⟨by have:=h.1.1;intro e;subst e;simp at this,fun c hc=>List.all_eq_true.1 h.2 c hc⟩
def zo4{v:List UInt8}(h:qy v=true):zm9 v/\tr v=true:=by
 unfold qy at h;simp only[qA,Bool.not_eq_true']at h;refine⟨fun c hc => ?_,h.2⟩
 have:=List.any_eq_false.1 h.1 c hc;simp at this;exact this
def dr(l:List az)(n:List UInt8):List (List UInt8):=(l.filter fun x=>x.1.map lo==n.map lo).map (·.2)
def wq(x:az)(l:List az)(n:List UInt8):dr (x::l) n=if(x.1.map lo==n.map lo)=true then x.2::dr l n else dr l n:=by
 unfold dr;rw[List.filter_cons];split<;>rfl
def zxn(fu n:Nat)(hfu:90000000<=fu)(nm:List UInt8)(hn:nm.length<=1000):∀(ab aa:List az)(out:List (List UInt8)),aa.length<n->ab.length+aa.length<100000000->ni aa->out.length+aa.length<1000000000 ->
  qa2 fu n (ab++aa) nm (ab.length:Int) out=some (out++dr aa nm):=by
 induction n with
 |zero=>intro ab aa out h;omega|succ n ih=>
  intro ab aa out h hb hs hk;rw[qa2,qte]
  cases aa with
  |nil=>rw[aq];simp[dr]|cons x aa=>
   simp only[qL]at h hb hk;obtain⟨q1,q2⟩:=hs.2 x qH;have next:∀out':List (List UInt8),out'.length<=out.length+1->qa2 fu n (ab++x::aa) nm (af ((ab.length:Int)+1)) out'=some (out'++dr aa nm):=by
    intro out' hj;have:=ih (ab++[x]) aa out' (by omega) (by simp;omega) hs.tail (by omega)
    rw[au _]
    simpa using this
   rw[qde,qL,ag,bg,qB,q8q fu _ _ (by omega) (by omega) (by simp only[maxLen];omega) (by simp only[maxLen];omega),qB,wq]
   cases hc:x.1.map lo==nm.map lo
   ·rw[ay (by rfl),qW (by decide)]
    exact next out (by omega)
   ·rw[aw,qX rfl,qB,ag (by simp[a7];omega),next _ (by simp)]
    simp
def zgs(fu:Nat)(hfu:90000000<=fu)(l:List az)(nm:List UInt8)(hn:nm.length<=1000)(hs:ni l):qlj fu l nm=some (dr l nm):=by
 have h1:=hs.1;have:=zxn fu fu hfu nm hn [] l [] (by omega) (by simp;omega) hs (by simp;omega)
 exact this
def zs8(f:Bs->Bs->Option Pc):∀(n:Nat)(acc:List Pc)(s:Bs)(l:List Pc),dn f n acc s=some l->∃t,l=acc++t:=by
 intro n
 induction n with
 |zero=>intro acc s l h;cases h
 |succ n ih=>
  intro acc s l h;rw[dn]at h
  cases ht:bf s with
  |nil=>rw[ht]at h;cases h;exact⟨[],by simp⟩
  |cons c t=>
   rw[ht]at h;simp only at h;by_cases hc:c=59
   ·rw[qX hc]at h
    cases hx:pl t with
    |none=>rw[hx]at h;cases h
    |some x=>
     rw[hx]at h;simp only at h
     cases hp:f x.1.1 x.1.2 with
     |none=>rw[hp]at h;cases h
     |some p=>
      rw[hp]at h;simp only at h;obtain⟨u,e⟩:=ih _ _ _ h;exact⟨p::u,by rw[e];simp⟩
   ·rw[qW hc]at h;cases h
def js(p:Pc):Prop:=p.2.1<1000000000
def zs7:∀(n:Nat)(acc:List Pc)(s:Bs),(∀p∈acc,js p)->(∀l,dn fo n acc s=some l->(∀p∈l,js p)->dn gy n acc s=some l) /\
  (∀l,dn fo n acc s=some l->(∃p∈l,¬js p)->dn gy n acc s=none)/\(dn fo n acc s=none->dn gy n acc s=none):=by
 intro n
 induction n with
 |zero=>intro acc s _;exact⟨fun l h=>(nomatch h),fun l h=>(nomatch h),fun _=>rfl⟩
 |succ n ih=>
  intro acc s ha;rw[dn,dn]
  cases ht:bf s with
  |nil=>exact⟨fun l h _=>h,fun l h hb=>(by cases h;obtain⟨p,hp,hq⟩:=hb;exact absurd (ha p hp) hq),fun h=>h⟩
  |cons c t=>
   simp only;by_cases hc:c=59
   ·rw[qX hc,qX hc]
    cases hx:pl t with
    |none=>exact⟨fun l h=>(nomatch h),fun l h=>(nomatch h),fun _=>rfl⟩
    |some x=>
     simp only;unfold gy
     cases hp:fo x.1.1 x.1.2 with
     |none=>exact⟨fun l h=>(nomatch h),fun l h=>(nomatch h),fun _=>rfl⟩
     |some p=>
      simp only;by_cases hs:p.2.1<1000000000
      ·simp only[qX hs];exact ih (acc++[p]) x.2 (fun y hy=>(List.mem_append.1 hy).elim (ha y) (fun e=>by rw[List.mem_singleton.1 e];exact hs))
      ·simp only[qW hs];refine⟨fun l h hall => ?_,fun _ _ _=>by first|rfl|trivial,fun _=>by first|rfl|trivial⟩
       obtain⟨u,e⟩:=zs8 fo n _ _ _ h;exact absurd (hall p (by rw[e];simp)) hs
   ·rw[qW hc,qW hc];exact⟨fun l h=>(nomatch h),fun l h=>(nomatch h),fun _=>rfl⟩
def zs9:∀(n:Nat)(acc:List Pc)(s:Bs)(l:List Pc),dn fo n acc s=some l->c8 l<=c8 acc+s.length/\((∀p∈acc,nb p)->∀p∈l,nb p):=by
 intro n
 induction n with
 |zero=>intro acc s l h;cases h
 |succ n ih=>
  intro acc s l h;have hl:=lw s;rw[dn]at h
  cases ht:bf s with
  |nil=>rw[ht]at h;cases h;exact⟨Nat.le_add_right _ _,fun h=>h⟩
  |cons c t=>
   rw[ht]at h hl;simp only[qL]at h hl;by_cases hc:c=59
   ·rw[qX hc]at h
    cases hx:pl t with
    |none=>rw[hx]at h;cases h
    |some x=>
     rw[hx]at h;simp only at h;have hxl:=(q0o (n:=x.1.1) (v:=x.1.2) (t:=x.2) hx).1
     cases hp:fo x.1.1 x.1.2 with
     |none=>rw[hp]at h;cases h
     |some p=>
      rw[hp]at h;simp only at h;obtain⟨g1,g2,g3,g4,_⟩:=zds hp;obtain⟨e1,e2⟩:=ih _ _ _ h;rw[zf1,g2]at e1;exact⟨by omega,fun hh=>e2 (fun y hy=>(List.mem_append.1 hy).elim (hh y) (fun e=>by rw[List.mem_singleton.1 e];exact⟨g3,g4⟩))⟩
   ·rw[qW hc]at h;cases h
def zc4:∀(q:List Pc)(k:Int),mt q k->∀x∈q,x.2.1<k+q.length
 |[],_,_,_,h=>by cases h
 |p::r,k,h,x,hx=>by
  simp only[qL];rcases List.mem_cons.1 hx with e|e
  ·subst e;have:=h.1;omega
  ·have:=zc4 r _ h.2 x e;omega
def zb9{a b c:Bs}(h1:lk a b=true)(h2:lk b c=true):lk a c=true:=by
 unfold lk at *;simp only[beq_iff_eq]at *;rw[h1,h2]
def zrr(l:List Pc){a b:Bs}(h:lk a b=true):cw a l=cw b l:=by
 unfold cw;congr 1;funext x;rw[Bool.eq_iff_iff];exact⟨fun g=>zb9 g h,fun g=>zb9 g (by rw[q0p];exact h)⟩
def zsh(l:List Pc):∀(aa ab:List Pc)(out:List bz),l=ab++aa->(fk ab aa out).1=true->(∀x∈ab,rf (cw x.1 l)≠none)->∀x∈l,rf (cw x.1 l)≠none:=by
 intro aa
 induction aa with
 |nil=>intro ab out hl _ hp;rw[hl,List.append_nil];rw[hl,List.append_nil]at hp;exact hp|cons p aa ih=>
  intro ab out hl h hp;rw[fk]at h;by_cases hany:ab.any (fun x=>lk x.1 p.1)=true
  ·rw[qX hany]at h;refine ih (ab++[p]) out (by rw[hl];simp) h (fun x hx => ?_)
   rcases List.mem_append.1 hx with g|g
   ·exact hp x g
   ·rw[List.mem_singleton.1 g];obtain⟨y,hy,hk⟩:=List.any_eq_true.1 hany;rw[← zrr l hk];exact hp y hy
  ·rw[qW hany,← hl]at h
   cases hj:rf (cw p.1 l) with
   |none=>rw[hj]at h;cases h
   |some v=>
    rw[hj]at h;refine ih (ab++[p]) _ (by rw[hl];simp) h (fun x hx => ?_)
    rcases List.mem_append.1 hx with g|g
    ·exact hp x g
    ·rw[List.mem_singleton.1 g,hj];simp
def zqm(A:List Pc)(hn:∀x∈A,nb x)(hl:A.length<=300000)(h:rf A≠none):∀x∈A,js x:=by
 cases A with
 |nil=>intro x hx;cases hx
 |cons p l=>
  rw[qpv]at h;by_cases h0:p.2.1<0
  ·rw[qX h0]at h;by_cases h1:l=[]
   ·subst h1;intro x hx;rw[List.mem_singleton.1 hx];unfold js;omega
   ·rw[qW h1]at h;exact absurd rfl h
  ·rw[qW h0]at h;obtain⟨_,h2,_⟩:=q2i (p::l) hn
   have hnum:mt (ia (p::l)) 0:=by
    by_cases hq:mt (ia (p::l)) 0
    ·exact hq
    ·rw[zcb _ _ _ hq]at h;exact absurd rfl h
   intro x hx;have:=zc4 _ 0 hnum x (h2.mem_iff.2 hx);rw[h2.length_eq]at this;unfold js;omega
def zsi(l:List Pc)(hn:∀x∈l,nb x)(hl:l.length<=300000)(hb:∃p∈l,¬js p):(fk [] l []).1=false:=by
 cases h:(fk [] l []).1
 ·rfl
 ·obtain⟨p,hp,hq⟩:=hb;have:=zsh l l [] [] rfl h (by simp) p hp
  refine absurd (zqm (cw p.1 l) (fun x hx=>hn x (List.mem_filter.1 hx).1) ?_ this p (List.mem_filter.2 ⟨hp,q0q _⟩)) hq
  have:=List.length_filter_le (fun x:Pc=>lk x.1 p.1) l
  unfold cw;omega
def t8(s:Bs):Option db:=match n8 fo s with|none=>none|some m=>if(fk [] m.2.2 []).1=true then some (m.1,(m.2.1,(fk [] m.2.2 []).2)) else none
def zdn{f:Bs->Bs->Option Pc}{s:Bs}{m:Bs×Bs×List Pc}(h:n8 f s=some m):∃c,dn f (s.length+1) [] c=some m.2.2/\c.length+m.1.length+m.2.1.length<=s.length:=by
 have l1:=z6 tk s;have l2:=qdu 47 (b9 tk s).2;have l3:=z6 tk (di 47 (b9 tk s).2).2;unfold n8 at h;simp only at h;split at h
 ·cases h
 ·cases hp:dn f (s.length+1) [] (b9 tk (di 47 (b9 tk s).2).2).2 with
  |none=>rw[hp]at h;cases h
  |some l=>
   rw[hp]at h;cases h;exact⟨_,hp,by simp only;omega⟩
def zdo{s:Bs}{m:Bs×Bs×List Pc}(h:n8 fo s=some m):c8 m.2.2<=s.length/\∀p∈m.2.2,nb p:=by
 obtain⟨c,h1,h2⟩:=zdn h;obtain⟨g1,g2⟩:=zs9 _ _ _ _ h1;exact⟨by simp[c8]at g1 ⊢;omega,g2 (by simp)⟩
def zsj(l:List Pc)(hz:c8 l<=300000):∀(aa ab:List Pc)(out:List bz),l=ab++aa->out.length<=ab.length->(∀x∈out,x.1.length<=4000000/\x.2.length<=4000000)->nj (fk ab aa out).2:=by
 have hll:=mw l;intro aa
 induction aa with
 |nil=>intro ab out hl ho hs;rw[hl]at hll;simp at hll;exact⟨by rw[fk];simp only;rw[hl]at hz;simp at hz;omega,hs⟩|cons p aa ih=>
  intro ab out hl ho hs;rw[fk];have hpl:=qdw (show p∈l by rw[hl];simp)
  split
  ·exact ih (ab++[p]) out (by rw[hl];simp) (by simp;omega) hs
  ·rw[← hl]
   cases hj:rf (cw p.1 l) with
   |none=>exact⟨by simp,by simp⟩|some v=>
    refine ih (ab++[p]) _ (by rw[hl];simp) (by simp;omega) (fun x hx => ?_)
    rcases List.mem_append.1 hx with g|g
    ·exact hs x g
    ·rw[List.mem_singleton.1 g];refine⟨by simp only;omega,?_⟩
     simp only;have hzf:=q2m (fun x=>lk x.1 p.1) l
     have hN:cw p.1 l=l.filter fun x=>lk x.1 p.1:=rfl
     rw[hN]at hj;generalize l.filter (fun x=>lk x.1 p.1)=A at hj hzf
     cases A with
     |nil=>cases hj
     |cons a A=>
      rw[qpv]at hj;split at hj
      ·split at hj
       ·cases hj
        have:=qdw (qH (a:=a) (l:=A));omega
       ·cases hj
      ·cases hL:lv (ia (a::A)) 0 [] with
       |none=>rw[hL]at hj;cases hj
       |some w=>
        rw[hL]at hj;cases hj;have:=zxo w.length false w;have hw:w.length<=c8 (ia (a::A)):=by
         have hnum:=q0u _ _ _ _ hL;rw[q0v _ _ _ hnum]at hL;cases hL
         generalize ia (a::A)=q;clear hnum
         induction q with
         |nil=>simp|cons y q ih2=>
          have:=qjy y;simp only[List.nil_append]at ih2 ⊢;rw[List.flatMap_cons,qM,zz];omega
        have hq:c8 (ia (a::A))<=c8 (a::A):=by
         unfold ia
         cases ht:pw (a::A) with
         |none=>simp[c8]|some q=>
          have h1:=(zfr q).1.map (·.1);simp only;rw[q2n h1]
          have e:q.map (·.1)=a::A:=by
           clear h1 hL hzf hw this;generalize a::A=B at ht
           induction B generalizing q with
           |nil=>cases ht;rfl
           |cons b B ih3=>
            rw[pw]at ht;split at ht
            ·cases hB:pw B with
             |none=>rw[hB]at ht;cases ht
             |some r=>rw[hB]at ht;cases ht;simp[ih3 r hB]
            ·cases ht
          rw[e];exact wF _
        show(vu [239,191,189] w.length false w).length<=4000000;omega
def q0y{s:Bs}{m:db}(h:t8 s=some m)(hs:s.length<=300000:=by omega):yp m:=by
 unfold t8 at h
 cases hp:n8 fo s with
 |none=>rw[hp]at h;cases h
 |some x=>
  rw[hp]at h;simp only at h;split at h
  ·cases h
   obtain⟨c,_,h2⟩:=zdn hp;obtain⟨h3,_⟩:=zdo hp;exact⟨by simp only;omega,by simp only;omega,zsj x.2.2 (by omega) x.2.2 [] [] rfl (by simp) (by simp)⟩
  ·cases h
def zrg(fu:Nat)(hfu:90000000<=fu)(s:Bs)(h:s.length<=300000:=by omega):qew fu s=some (match t8 s with|some m=>(m,true)|none=>bad):=by
 rw[zu5 fu hfu s h];unfold t8;have hR:=fun c=>zs7 (s.length+1) [] c (by simp)
 unfold n8;simp only;by_cases hc:(b9 tk s).1=[]\/(di 47 (b9 tk s).2).1=false\/(b9 tk (di 47 (b9 tk s).2).2).1=[]
 ·rw[qX hc,qX hc]
 ·rw[qW hc,qW hc];obtain⟨r1,r2,r3⟩:=hR (b9 tk (di 47 (b9 tk s).2).2).2
  cases hp:dn fo (s.length+1) [] (b9 tk (di 47 (b9 tk s).2).2).2 with
  |none=>rw[r3 hp];rfl|some l=>
   simp only[wQ];have hsz:c8 l<=s.length/\∀p∈l,nb p:=zdo (s:=s) (m:=((b9 tk s).1,(b9 tk (di 47 (b9 tk s).2).2).1,l)) (by unfold n8;simp only;rw[qW hc,hp];rfl)
   have hll:=mw l;by_cases hall:∀p∈l,js p
   ·rw[r1 l hp hall];simp only[wQ];have:=zu0 fu hfu l (by omega) hsz.2 [] [] (b9 tk s).1 (b9 tk (di 47 (b9 tk s).2).2).1 fu [] l [] rfl (by omega) (by simp)
    rw[show(([]:List Pc).length:Int)=0 from rfl]at this
    rw[this];cases (fk [] l []).1<;>rfl
   ·have hb:∃p∈l,¬js p:=by
     apply Classical.byContradiction;intro hq;exact hall (fun p hp2=>Classical.byContradiction fun hq2=>hq ⟨p,hp2,hq2⟩)
    rw[r2 l hp hb,zsi l hsz.2 (by omega) hb];rfl
def ub(s:Bs):Option db:=if 4000<s.length then none else match t8 s with|none=>none|some m=>if(d9 m).1≠0 then none else some m
def zq4(fu:Nat)(hfu:90000000<=fu)(s:Bs)(h:s.length<=4000000):∃R,qgm fu s=some R/\match ub s with
  |some m=>R = .inr (m.1,(m.2.1,(0,(0,m.2.2))))|none=>∃f:Int×Int,R = .inl ([],([],f))/\f.1≠0:=by
 unfold qgm ub;by_cases h4:4000<s.length
 ·rw[ag,qX h4];exact⟨_,rfl,_,rfl,by decide⟩
 rw[aq,qW h4]
 obtain⟨R,g1,g2⟩:=zrd fu hfu (fun l=>fk [] l []) (fun l hl hn=>zsf fu hfu l hl hn) s
 rw[g1,qB];have hfail:y7 R->∃R',(ch R (fun a3=>bif !a3.2.2 then(da (11:Int) (-5:Int)).bind fun x5=>some (.inl (([]:Bs),(([]:Bs),x5))) else(s9 fu (a3.1,(a3.2.1,[]))).bind fun x6=>(e7 x6).bind fun x7=>bif x7 then(da x6.1 (-6:Int)).bind fun x8=>some (.inl (([]:Bs),(([]:Bs),x8))) else(ig).bind fun x9=>some (.inl (a3.1,(a3.2.1,x9)))) (fun b4=>bif !b4.2.2.1 then(da (11:Int) (-5:Int)).bind fun x10=>some (.inl (([]:Bs),(([]:Bs),x10))) else(s9 fu (b4.1,(b4.2.1,b4.2.2.2))).bind fun x11=>(e7 x11).bind fun x12=>bif x12 then(da x11.1 (-6:Int)).bind fun x13=>some (.inl (([]:Bs),(([]:Bs),x13))) else(ig).bind fun p8=>some (.inr (b4.1,(b4.2.1,(p8.1,(p8.2,b4.2.2.2)))))):Option q7z)=some R'/\∃f:Int×Int,R' = .inl ([],([],f))/\f.1≠0:=by
  intro hf
  cases R with|inl x=>unfold y7 at hf;simp only at hf;simp only[ch,hf];exact⟨_,rfl,_,rfl,by decide⟩|inr x=>unfold y7 at hf;simp only at hf;simp only[ch,hf];exact⟨_,rfl,_,rfl,by decide⟩
 unfold t8
 cases hp:n8 fo s with
 |none=>rw[hp]at g2;exact hfail g2|some m=>
  rw[hp]at g2;simp only at g2 ⊢;by_cases ht:(fk [] m.2.2 []).1=true
  ·rw[qX ht]at g2;subst g2;have hsz:=q0y (s:=s) (m:=(m.1,(m.2.1,(fk [] m.2.2 []).2))) (by unfold t8;rw[hp];simp only;rw[qX ht]) (by omega)
   simp only[ch,qX ht];rw[ci,q01 fu hfu _ hsz,qB,qw,qB,fp];by_cases h0:(d9 (m.1,(m.2.1,(fk [] m.2.2 []).2))).1≠0
   ·rw[qX h0,qX h0];exact⟨_,rfl,_,rfl,h0⟩
   ·rw[qW h0,qW h0];exact⟨_,rfl,rfl⟩
  ·rw[qW ht]at g2 ⊢;exact hfail g2
def zsz{s:Bs}{m:db}(h:ub s=some m):yp m/\(d9 m).1=0:=by
 unfold ub at h;split at h
 ·cases h
 ·rename_i h4
  cases hm:t8 s with
  |none=>rw[hm]at h;cases h
  |some x=>
   rw[hm]at h;simp only at h;split at h
   ·cases h
   ·rename_i h0;cases h
    exact⟨q0y hm,Classical.byContradiction h0⟩
open Go.Lib (decDigits itoa validD)
def two(c:UInt8):Bs:=(xl c).getD []
def zgh:∀n:_root_.Fin 256,xl (UInt8.ofNat n.val)=some (two (UInt8.ofNat n.val))/\(two (UInt8.ofNat n.val)).length=2:=by decide +kernel
def zw5(c:UInt8):xl c=some (two c):=(jl (fun c=>xl c=some (two c)/\(two c).length=2) zgh c).1
def zgj(c:UInt8):(two c).length=2:=(jl (fun c=>xl c=some (two c)/\(two c).length=2) zgh c).2
def dgH(c:UInt8):UInt8:=(oo (sg c (min (4:Int).toNat 8))).getD 0
def dgL(c:UInt8):UInt8:=(oo c).getD 0
def znw:∀n:_root_.Fin 256,oo (sg (UInt8.ofNat n.val) (min (4:Int).toNat 8))=some (dgH (UInt8.ofNat n.val))/\oo (UInt8.ofNat n.val)=some (dgL (UInt8.ofNat n.val))/\[dgH (UInt8.ofNat n.val),dgL (UInt8.ofNat n.val)]=two (UInt8.ofNat n.val):=by decide +kernel
def znx(c:UInt8):oo (sg c (min (4:Int).toNat 8))=some (dgH c)/\oo c=some (dgL c)/\[dgH c,dgL c]=two c:=
 jl (fun c=>oo (sg c (min (4:Int).toNat 8))=some (dgH c)/\oo c=some (dgL c)/\[dgH c,dgL c]=two c) znw c
def ib(c:UInt8):Bs:=if tk c=true then[c] else 37::two c
def q2w(c:UInt8):1<=(ib c).length/\(ib c).length<=3:=by
 unfold ib;split
 ·simp
 ·rw[qL,zgj];omega
def fm(cur:Bs):Bs->List Bs|[]=>[cur]|c::t=>if cur.length+(ib c).length<=60 then fm (cur++ib c) t else cur::fm (ib c) t
def qjf:∀(t cur:Bs),(fm cur t).length<=t.length+1/\1<=(fm cur t).length
 |[],_=>by simp[fm]|c::t,cur=>by
  rw[fm];split
  ·have:=qjf t (cur++ib c);simp only[qL];omega
  ·have:=qjf t (ib c);simp only[qL];omega
def qjg:∀(t cur:Bs),cur.length<=60->∀x∈fm cur t,x.length<=60
 |[],cur,h,x,hx=>by rw[fm,List.mem_singleton]at hx;rw[hx];exact h|c::t,cur,h,x,hx=>by
  have hu:=q2w c;rw[fm]at hx;split at hx
  ·exact qjg t _ (by rw[qM];omega) x hx
  ·rcases List.mem_cons.1 hx with e|e
   ·rw[e];exact h
   ·exact qjg t _ (by omega) x e
def jq(nm:Bs):Nat->List Bs->Bs|_,[]=>[]|n,p::ps=>(((((([59,32]:Bs)++nm)++([42]:Bs))++decDigits n)++([42,61]:Bs))++p)++jq nm (n+1) ps
def zc7(nm:Bs)(hn:nm.length<=1000):∀(ps:List Bs)(n:Nat),n+ps.length<=100000000->(∀x∈ps,x.length<=60)->(jq nm n ps).length<=ps.length*1200
 |[],_,_,_=>by simp[jq]|p::ps,n,h,hs=>by
  simp only[qL]at h;have h1:=zc7 nm hn ps (n+1) (by omega) (fun x hx=>hs x (qE _ hx))
  have h2:=hs p qH;have h3:=qq 9 n (by omega) (by omega)
  rw[jq];simp only[qM,qL,qZ];omega
def zsv(fu n:Nat):∀(ab aa cur:Bs)(done:List Bs),aa.length<n->ab.length+aa.length<1000000->done.length<=ab.length->cur.length<=60 ->
  qbo fu n (ab++aa) ((ab.length+aa.length:Nat):Int) (ab.length:Int) (done++[cur])=some (done++fm cur aa):=by
 have hrm:=ge
 induction n with
 |zero=>intro ab aa cur done h;omega|succ n ih=>
  intro ab aa cur done h hb hd hc;rw[qbo,qvd]
  cases aa with
  |nil=>rw[aq];rfl|cons c t=>
   simp only[qL]at h hb;have hu:=q2w c;have e:(ab.length+(c::t).length:Nat)=ab.length+1+t.length:=by simp only[qL];omega
   have p1:qgx fu (qbo fu n) (ab++c::t) (ib c) ((ab.length+(c::t).length:Nat):Int) (ab.length:Int) (done++[cur])=some (done++fm cur (c::t)):=by
    have hl:(((done++[cur]).length:Nat):Int)-1=(done.length:Int):=by simp
    rw[qgx,hl,eg,ag,qz,qB,l8 _ _,fm,au _,e]
    have st:=fun cur' done'(h1:done'.length<=ab.length+1)(h2:cur'.length<=60)=>ih (ab++[c]) t cur' done' (by omega) (by simp;omega) (by simpa using h1) h2
    simp only[qM,qL,qZ,qS,wM,wO]at st;by_cases h60:cur.length+(ib c).length<=60
    ·rw[ag,qX h60,ag,qB,ag (by simp only[ap];omega),ag,qB,qqs]
     exact st (cur++ib c) done (by omega) (by rw[qM];omega)
    ·rw[aq,qW h60,ag (by simp only[qM,qL,qZ];omega)]
     have:=st (ib c) (done++[cur]) (by simp;omega) (by omega)
     refine this.trans ?_;simp
   rw[ag (by simp only[qL];omega),au _,ag (by rw[c7];omega),bg,qB,qjz,qB,qjs]
   rw[ib]at p1;obtain⟨d1,d2,d3⟩:=znx c;cases hk:tk c
   ·rw[dx,qB,d1,qB,qB,d2,qB];rw[hk,qW (by simp),← d3]at p1
    exact p1
   ·rw[ci];rw[hk,qX rfl]at p1;exact p1
def oa:Bs:=[117,116,102,56,39,39]
def zre(fu:Nat)(hfu:90000000<=fu)(v:Bs)(h:v.length<=500000:=by omega):qme fu v=some (fm oa v):=by
 have:=zsv fu fu [] v oa [] (by omega) (by simp;omega) (by simp) (by decide)
 simpa [qme,oa] using this
def ee(c:UInt8):Bool:=decide (32<=c)&&decide (c<=126)
def zs5(c:UInt8):qgq c=some (ee c):=by unfold qgq ee;by_cases h:(32:UInt8)<=c<;>simp[h]
def zli(fu:Nat)(s:Bs)(h:s.length<fu:=by omega)(hb:s.length<9223372036854775807:=by omega):ql0 fu s=some (s.all ee):=by
 have e:∀n,qf9 fu n=yt qgq n:=by
  intro n;induction n with|zero=>rfl|succ n ih=>rw[qf9,ih];funext a b c;rfl
 unfold ql0;rw[e];exact qyo _ _ zs5 _ _ h hb
def quo(s:Bs):Bs:=ej 92 34 [92,92] [92,34] s
def qqd(s:Bs):(quo s).length<=2*s.length:=by
 unfold quo;rw[qoz (by decide)]
 have h1:=List.count_le_length (a:=(92:UInt8)) (l:=s);unfold jd;have:List.count 92 s+List.count 34 s<=s.length:=by
  induction s with
  |nil=>simp|cons c s ih=>
   have h1:=List.count_le_length (a:=(92:UInt8)) (l:=s);have:=ih h1;simp only[List.count_cons,qL];by_cases e:c=92
   ·subst e;simp;omega
   ·have:(c==92)=false:=by simpa using e
    rw[this];simp only[wJ,if_false];split<;>omega
 omega
def ij(p:bz):Bs:=if dw p.2=true then((([59,32]:Bs)++p.1)++([61]:Bs))++p.2
 else if p.2.length<=60/\p.2.all ee=true then((((([59,32]:Bs)++p.1)++([61,34]:Bs))++quo p.2)++([34]:Bs))
 else jq p.1 0 (fm oa p.2)
def zsc(fu n:Nat)(z:bz)(hz:z.1.length<=1000):∀(ab aa:List Bs)(out:Bs),aa.length<n->ab.length+aa.length<1000000->out.length<=ab.length*1200->(∀x∈aa,x.length<=60) ->
  qgr fu n out ((ab.length+aa.length:Nat):Int) (ab.length:Int) z (ab++aa)=some (out++jq z.1 ab.length aa):=by
 induction n with
 |zero=>intro ab aa out h;omega|succ n ih=>
  intro ab aa out h hb ho hs;rw[qgr,qu6]
  cases aa with
  |nil=>rw[aq];simp[jq]|cons p t=>
   simp only[qL]at h hb;have hp:=hs p qH;have hd:=qq 9 ab.length (by omega) (by omega)
   rw[ag (by simp only[qL];omega),ag,qz,qB,ag (by simp[ap];omega),ag (by simp[ap];omega)]
   have hi:ov (ab.length:Int)=some (decDigits ab.length):=by unfold ov;rw[ag,qpt]
   rw[hi,qB,ag (by simp[ap];omega),ag (by simp[ap];omega),ag (by simp[ap];omega),ag (by simp[ap];omega),au _]
   have st:=ih (ab++[p]) t (out++((((((([59,32]:Bs)++z.1)++([42]:Bs))++decDigits ab.length)++([42,61]:Bs))++p))) (by omega) (by simp;omega) (by simp only[qM,qL,qZ];omega) (fun x hx=>hs x (qE _ hx))
   simp only[qM,qL,qZ,wO]at st;rw[show(ab.length+(p::t).length:Nat)=ab.length+1+t.length by simp only[qL];omega]
   rw[show(ab++[p])++t=ab++p::t by simp]at st
   refine st.trans ?_;rw[jq,qS]
def zse(fu:Nat)(hfu:90000000<=fu)(p:bz)(h1:p.1.length<=1000)(h2:p.2.length<=100000):qmb fu p=some (ij p):=by
 unfold qmb ij;rw[qq2 fu _,qB]
 cases ht:dw p.2
 ·rw[ay rfl,qW (by simp)]
  have hno:qbk fu false p=some (jq p.1 0 (fm oa p.2)):=by
   rw[qbk,ay rfl,qu7,zre fu hfu _,qB]
   have hl:=qjf p.2 oa;have:=zsc fu fu p h1 [] (fm oa p.2) [] (by omega) (by simp;omega) (by simp) (qjg _ _ (by decide))
   simpa using this
  by_cases h60:p.2.length<=60
  ·rw[ag,zli fu _,qB]
   cases ha:p.2.all ee
   ·rw[hno,qW (by simp)]
   ·rw[qX ⟨h60,rfl⟩,qbk,aw rfl,ag (by simp[ap];omega),ag (by simp[ap];omega)]
    have hq:=qqd p.2;rw[show qm8 ([([92]:Bs),([92,92]:Bs),([34]:Bs),([92,34]:Bs)]:List Bs)=some (0,0,0,[[92],[92,92],[34],[92,34]]) by rfl,qB]
    have hr:u6 p.2 0 0 0 [[92],[92,92],[34],[92,34]]=some (quo p.2):=by
     unfold u6 quo;simp only;rw[ag (by refine⟨?_,?_,by decide,by omega⟩<;>first|rfl|trivial)]
    rw[hr,qB,ag (by simp[ap];omega),ag (by simp[ap];omega)]
  ·rw[aq,hno,qW (by omega)]
 ·rw[aw rfl,qX rfl,ag (by simp[ap];omega),ag (by simp[ap];omega),ag (by simp[ap];omega)]
def zd0(p:bz)(h1:p.1.length<=1000)(h2:p.2.length<=100000):(ij p).length<=200000000:=by
 have hq:=qqd p.2;have hl:=qjf p.2 oa;have hn:=zc7 p.1 h1 (fm oa p.2) 0 (by omega) (qjg _ _ (by decide))
 unfold ij;split
 ·simp;omega
 ·split
  ·simp;omega
  ·omega
def cg(m:db):Bs:=((m.1++([47]:Bs))++m.2.1)++m.2.2.flatMap ij
def SmV(m:db):Prop:=m.1.length<=1000/\m.2.1.length<=1000/\m.2.2.length<=1000/\∀p∈m.2.2,p.1.length<=1000/\p.2.length<=100000
def qj0{s:Bs}(h:dw s=true):s.length<=60:=by unfold dw at h;simp at h;exact h.1.2
def zdk:∀(l ab:List bz),(jx ab l).1=0->∀p∈l,dw p.1=true/\p.1.length<=20/\p.2.length<=500/\validD p.2=true
 |[],_,_,p,hp=>by cases hp
 |q::l,ab,h,p,hp=>by
  rw[jx]at h;split at h
  ·cases h
  ·split at h
   ·cases h
   ·split at h
    ·cases h
    ·split at h
     ·cases h
     ·rename_i g1 g2 g3 g4;rcases List.mem_cons.1 hp with e|e
      ·subst e;refine⟨?_,by omega,by omega,?_⟩
       ·cases hh:dw p.1
        ·exact absurd (.inl hh) g1
        ·rfl
       ·cases hh:validD p.2
        ·exact absurd hh g4
        ·rfl
      ·exact zdk l _ h p e
def q0x{m:db}(h:(d9 m).1=0):dw m.1=true/\dw m.2.1=true/\m.2.2.length<=60/\∀p∈m.2.2,dw p.1=true/\p.1.length<=20/\p.2.length<=500/\validD p.2=true:=by
 unfold d9 at h;split at h
 ·cases h
 ·split at h
  ·cases h
  ·rename_i g1 g2;refine⟨?_,?_,by omega,zdk _ _ h⟩
   ·cases hh:dw m.1
    ·exact absurd (.inl hh) g1
    ·rfl
   ·cases hh:dw m.2.1
    ·exact absurd (.inr hh) g1
    ·rfl
def rq{m:db}(h:(d9 m).1=0):SmV m:=by
 obtain⟨h1,h2,h3,h4⟩:=q0x h;have:=qj0 h1;have:=qj0 h2;exact⟨by omega,by omega,by omega,fun p hp=>by have:=h4 p hp;omega⟩
def SmV.smD{m:db}(h:SmV m):yp m:=⟨by have:=h.1;omega,by have:=h.2.1;omega,by have:=h.2.2.1;omega,fun x hx=>by have:=h.2.2.2 x hx;omega⟩
def zs4(fu n:Nat)(hfu:90000000<=fu)(z:Int×Int):∀(ab aa:List bz)(out:Bs),aa.length<n->ab.length+aa.length<=1000->(∀p∈aa,p.1.length<=1000/\p.2.length<=100000)->out.length<=3000+ab.length*200000000 ->
  qgn fu n out (ab++aa) ((ab.length+aa.length:Nat):Int) (ab.length:Int) z=some (if 4000<(out++aa.flatMap ij).length then([],(1,-4)) else(out++aa.flatMap ij,(0,0))):=by
 induction n with
 |zero=>intro ab aa out h;omega|succ n ih=>
  intro ab aa out h hb hs ho;rw[qgn,qu1]
  cases aa with
  |nil=>
   rw[aq]
   simp only[List.flatMap_nil,List.append_nil];by_cases h4:4000<out.length
   ·rw[ag,qX h4,pp];rfl
   ·rw[aq,qW h4,zra];rfl
  |cons p t=>
   simp only[qL]at h hb;have hp:=hs p qH;have hpl:=zd0 p hp.1 hp.2;rw[ag (by simp only[qL];omega),bg,qB,zse fu hfu p hp.1 hp.2,qB,ag (by simp only[ap];omega),au _]
   have st:=ih (ab++[p]) t (out++ij p) (by omega) (by simp;omega) (fun x hx=>hs x (qE _ hx)) (by simp;omega)
   simp only[qM,qL,qZ,wO]at st;rw[show(ab++[p])++t=ab++p::t by simp]at st
   rw[show(ab.length+(p::t).length:Nat)=ab.length+1+t.length by simp only[qL];omega]
   refine st.trans ?_;simp only[List.flatMap_cons,qS,qM,Nat.add_assoc]
def zdx(fu:Nat)(hfu:90000000<=fu)(m:db)(hs:yp m):uv fu m=some (if(d9 m).1≠0 then([],d9 m) else if 4000<(cg m).length then([],(1,-4)) else(cg m,(0,0))):=by
 unfold uv;rw[q01 fu hfu m hs,qB,qw,qB,fp];by_cases h:(d9 m).1≠0
 ·rw[qX h,qX h]
 ·rw[qW h,qW h];obtain⟨g1,g2,g3,g4⟩:=rq (m:=m) (by omega)
  rw[ag (by simp[ap];omega),ag (by simp[ap];omega)]
  have:=zs4 fu fu hfu (0,0) [] m.2.2 ((m.1++([47]:Bs))++m.2.1) (by omega) (by simp;omega) g4 (by simp;omega)
  simpa [cg] using this
def zto(fu n:Nat):∀(ab aa out:Bs),aa.length<n->ab.length+aa.length<1000000->out.length<=1+2*ab.length ->
  xh fu n (ab++aa) out (ab.length:Int)=some ((out++quo aa)++[34]):=by
 induction n with
 |zero=>intro ab aa out h;omega|succ n ih=>
  intro ab aa out h hb ho;rw[xh,qs3]
  cases aa with
  |nil=>rw[aq,ag (by simp[ap];omega)];simp[quo,ej]|cons c t=>
   simp only[qL]at h hb;have st:=fun o(ho:List.length o<=1+2*(ab.length+1))=>ih (ab++[c]) t o (by omega) (by simp;omega) (by simpa using ho)
   simp only[qM,qL,qZ,qS,wM,wO]at st;have y:xi fu (xh fu n) (ab++c::t) out (ab.length:Int) true=some ((out++([92,c]++quo t))++[34]):=by
    rw[xi,aw rfl,ag (by simp[ap];omega),au _,ag (by rw[c7];omega),qjs,ag (by simp[ap];omega)]
    refine(st (out++[92]++[c]) (by simp;omega)).trans ?_
    simp
   have nn:xi fu (xh fu n) (ab++c::t) out (ab.length:Int) false=some ((out++([c]++quo t))++[34]):=by
    rw[xi,ay rfl,au _,ag (by rw[c7];omega),qjs,ag (by simp[ap];omega)]
    refine(st (out++[c]) (by simp;omega)).trans ?_
    simp
   have hq:quo (c::t)=nt 92 34 [92,92] [92,34] c++quo t:=by unfold quo ej;rw[List.flatMap_cons]
   rw[ag (by rw[c7];omega),bg,qB,lg,hq]
   unfold nt;by_cases h1:c=34
   ·subst h1;rw[qX rfl,y];rfl
   ·rw[qW h1,qB];by_cases h2:c=92
    ·subst h2;rw[show((92:UInt8)==92)=true from rfl,y];rfl
    ·rw[show(c==92)=false by simpa using h2,nn,qW h2,qW h1]
def zu4(fu:Nat)(hfu:90000000<=fu)(s:Bs)(h:s.length<=100000):qlg fu s=some (([34]++quo s)++[34]):=by
 have:=zto fu fu [] s [34] (by omega) (by simp;omega) (by simp)
 simpa [qlg] using this
def zu2(fu n:Nat)(hfu:90000000<=fu)(z:bz)(hz:z.1.length<=1000):∀(ab aa cur out:Bs)(k:Nat),z.2=ab++aa->aa.length<n->z.2.length<=100000->k<=ab.length->cur.length<=60->out.length<=k*1200 ->
  qaz fu n out cur (k:Int) (ab.length:Int) z=some (out++jq z.1 k (fm cur aa)):=by
 induction n with
 |zero=>intro ab aa cur out k _ h;omega|succ n ih=>
  intro ab aa cur out k hzz h hb hk hc ho;have ac:z.2.length=ab.length+aa.length:=by rw[hzz];simp
  have hd:=qq 9 k (by omega) (by omega)
  rw[qaz,qs2]
  cases aa with
  |nil=>
   rw[aq (by simp only[qZ]at ac;omega),ag (by simp[ap];omega),ag (by simp[ap];omega),ag (by simp[ap];omega),qp6 fu (by omega) k,qB,ag (by simp[ap];omega),ag (by simp[ap];omega),ag (by simp[ap];omega)]
   rw[fm,jq,jq];simp
  |cons c t=>
   simp only[qL]at h ac;have hu:=q2w c;have hx:am z.2 (ab.length:Int)=some c:=by rw[hzz];exact bg ab c t
   have st:=fun cur' out' k'(h1:k'<=ab.length+1)(h2:List.length cur'<=60)(h3:List.length out'<=k'*1200)=>ih (ab++[c]) t cur' out' k' (by rw[hzz];simp) (by omega) hb (by simpa using h1) h2 h3
   simp only[qM,qL,qZ,wO]at st;have p3:qfa fu (qaz fu n) out cur (k:Int) (ab.length:Int) (ib c) z=some (out++jq z.1 k (fm cur (c::t))):=by
    rw[qfa,l8 _ _,fm]
    by_cases h60:cur.length+(ib c).length<=60
    ·rw[aq,qX h60,qfb,ag (by simp only[ap];omega),qlf,au _]
     exact st (cur++ib c) out k (by omega) (by rw[qM];omega) ho
    ·rw[ag,qW h60,ag (by simp[ap];omega),ag (by simp[ap];omega),ag (by simp[ap];omega),qp6 fu (by omega) k,qB,ag (by simp[ap];omega),ag (by simp[ap];omega),ag (by simp[ap];omega),qfb,ag (by simp[ap];omega),qlf,au _,au _,List.nil_append]
     refine(st (ib c) _ (k+1) (by omega) (by omega) (by simp only[qM,qL,qZ];omega)).trans ?_
     rw[jq];simp
   rw[ag,hx,qB,zw5,qB,ag (by rw[zgj];simp[ap]),qB,q2a fu (by omega),qB]
   rw[ib]at p3;cases hk2:tk c
   ·rw[ay rfl];rw[hk2,qW (by simp)]at p3
    exact p3
   ·rw[aw rfl,au _,ag]
    rw[hk2,qX rfl]at p3;have e:List.take (((ab.length+1:Nat):Int).toNat-((ab.length:Nat):Int).toNat) (List.drop ((ab.length:Nat):Int).toNat z.2)=[c]:=by rw[hzz];exact qjs ab c t
    rw[e];exact p3
def zu1(fu n:Nat)(hfu:90000000<=fu)(z:bz)(hz:z.1.length<=1000)(hb:z.2.length<=100000)(ht:dw z.2=false):∀(ab aa:Bs)(f:Bool),z.2=ab++aa->aa.length<n->f=(decide (z.2.length<=60)&&ab.all ee) ->
  qe8 fu n f (ab.length:Int) z=some (ij z):=by
 induction n with
 |zero=>intro ab aa f _ h;omega|succ n ih=>
  intro ab aa f hzz h hf;have ac:z.2.length=ab.length+aa.length:=by rw[hzz];simp
  rw[qe8,qs1]
  cases aa with
  |nil=>
   rw[List.append_nil]at hzz;rw[aq (by simp only[qZ]at ac;omega),hf]
   unfold ij;rw[ht,qW (by simp),← hzz]
   cases hc:(decide (z.2.length<=60)&&z.2.all ee)
   ·rw[ay rfl,qW (by intro q;rw[q.2,decide_eq_true q.1]at hc;cases hc)]
    have:=zu2 fu fu hfu z hz [] z.2 oa [] 0 rfl (by omega) hb (by simp) (by decide) (by simp)
    simpa [oa] using this
   ·rw[qA,decide_eq_true_eq]at hc;have hq:=qqd z.2;rw[aw rfl,qX hc,ag (by simp[ap];omega),ag (by simp[ap];omega),zu4 fu hfu _ hb,qB,ag (by simp[ap];omega)]
    simp
  |cons c t=>
   simp only[qL]at h ac;have hx:am z.2 (ab.length:Int)=some c:=by rw[hzz];exact bg ab c t
   have st:=fun f'(hf':f'=(decide (z.2.length<=60)&&(ab++[c]).all ee))=>ih (ab++[c]) t f' (by rw[hzz];simp) (by omega) hf'
   simp only[qM,qL,qZ,wO]at st;have hp:(decide (32<=(c.toNat:Int)/\(c.toNat:Int)<=126))=ee c:=by
    unfold ee;rw[Bool.eq_iff_iff];simp only[decide_eq_true_eq,qA,UInt8.le_iff_toNat_le];show _↔32<=c.toNat/\c.toNat<=126;omega
   rw[ag]
   cases f
   ·rw[ay rfl,qe9,au _]
    exact st false (by
     rw[List.all_append];cases h1:decide (z.2.length<=60)
     ·rfl
     ·rw[h1,Bool.true_and]at hf;rw[← hf];rfl)
   ·rw[aw rfl,hx,qB,mv,hp,qB,qe9,au _]
    exact st (ee c) (by
     rw[List.all_append,← Bool.and_assoc,← hf];simp)
def zuz(fu:Nat)(hfu:90000000<=fu)(p:bz)(h1:p.1.length<=1000)(h2:p.2.length<=100000):qle fu p=some (ij p):=by
 unfold qle;rw[qqq fu (by omega) _,qB]
 cases ht:dw p.2
 ·rw[ay rfl];exact zu1 fu fu hfu p h1 h2 ht [] p.2 _ rfl (by omega) (by simp;omega)
 ·rw[aw rfl,ag (by simp[ap];omega),ag (by simp[ap];omega),ag (by simp[ap];omega)]
  unfold ij;rw[qX ht]
def zuo(fu n:Nat)(hfu:90000000<=fu)(m:db)(hs:SmV m):∀(ab aa:List bz)(out:Bs),m.2.2=ab++aa->aa.length<n->out.length<=3000+ab.length*200000000 ->
  qe6 fu n out (ab.length:Int) m=some (out++aa.flatMap ij):=by
 induction n with
 |zero=>intro ab aa out _ h;omega|succ n ih=>
  intro ab aa out hm h ho;have hl:=hs.2.2.1;have ac:m.2.2.length=ab.length+aa.length:=by rw[hm];simp
  rw[qe6,qsz]
  cases aa with
  |nil=>rw[aq (by simp only[qZ]at ac;omega)];simp|cons p t=>
   simp only[qL]at h ac;have hp:=hs.2.2.2 p (by rw[hm];simp)
   have hpl:=zd0 p hp.1 hp.2;have hx:am m.2.2 (ab.length:Int)=some p:=by rw[hm];exact bg ab p t
   rw[ag,hx,qB,zuz fu hfu p hp.1 hp.2,qB,ag (by simp only[ap];omega),au _]
   have st:=ih (ab++[p]) t (out++ij p) (by rw[hm];simp) (by omega) (by simp;omega)
   simp only[qM,qL,qZ,wO]at st;refine st.trans ?_;rw[List.flatMap_cons,qS]
def zew(fu:Nat)(hfu:90000000<=fu)(m:db)(hs:SmV m):qe5 fu m=some (cg m):=by
 obtain⟨g1,g2,g3,g4⟩:=hs;unfold qe5;rw[ag (by simp[ap];omega),ag (by simp[ap];omega)]
 have:=zuo fu fu hfu m ⟨g1,g2,g3,g4⟩ [] m.2.2 ((m.1++([47]:Bs))++m.2.1) rfl (by omega) (by simp;omega)
 simpa [cg] using this
end Go.Sym
namespace Go.Sym
abbrev bt:Bs:=[67,111,110,116,101,110,116,45,84,121,112,101]
abbrev ctn:Bs:=[99,111,110,116,101,110,116,45,116,121,112,101]
abbrev vv:Bs:=[109,117,108,116,105,112,97,114,116]
abbrev cu:Bs:=[98,111,117,110,100,97,114,121]
def zgr(l:List az):dr l ctn=dr l bt:=rfl
def im(l:List az):Option db:=match dr l bt with|[v]=>ub v|_=>none
def tyP(fu:Nat)(k:Int)(v:Bs):Option qnj:=(qgm fu v).bind fun x4=>ch x4 (fun a5=>(e7 a5.2.2).bind fun x7=>some (.inl (a5.1,(a5.2.1,(k,!x7))))) (fun b6=>(e7 (b6.2.2.1,b6.2.2.2.1)).bind fun x8=>some (.inr (b6.1,(b6.2.1,(k,(!x8,b6.2.2.2.2))))))
def zw9(fu:Nat)(hfu:90000000<=fu)(k:Int)(v:Bs)(h:v.length<=4000000):tyP fu k v=some (match ub v with|some m => .inr (m.1,(m.2.1,(k,(true,m.2.2))))|none => .inl ([],([],(k,false)))):=by
 unfold tyP;obtain⟨R,h1,h2⟩:=zq4 fu hfu v h;rw[h1,qB]
 cases hp:ub v with
 |none=>
  rw[hp]at h2;obtain⟨f,rfl,hf⟩:=h2;simp only[ch,qw,qB];have:(f.1 != 0)=true:=by simpa using hf
  rw[this];rfl
 |some m=>rw[hp]at h2;simp only at h2;subst h2;rfl
section typ
variable(fu:Nat)(hfu:90000000<=fu)(l:List az)(hs:∀x∈l,x.1.length<=4000000/\x.2.length<=4000000)(hl:l.length<=4000000)
include hfu hs hl
def zxb(k:Nat)(y:az)(hy:am l (k:Int)=some y)(n:Nat):∀(ab aa:List az),l=ab++aa->aa.length<n ->
  uz fu n l (k:Int) (ab++aa) ((ab.length+aa.length:Nat):Int) (ab.length:Int) [] []=if dr aa bt=[] then tyP fu (k:Int) y.2 else some (.inl ([],([],(0,false)))):=by
 induction n with
 |zero=>intro ab aa _ h;omega|succ n ih=>
  intro ab aa hp h;have ac:l.length=ab.length+aa.length:=by rw[hp];simp
  rw[uz,qmk]
  cases aa with
  |nil=>rw[aq,aq,hy,qB,show dr [] bt=[] from rfl,qX rfl];rfl|cons x t=>
   simp only[qL]at h ac;have hx:=hs x (by rw[hp];simp)
   have st:=ih (ab++[x]) t (by rw[hp];simp) (by omega)
   simp only[qM,qL,qZ,qS,wM,wO]at st;rw[ag (by simp only[qL];omega),bg,qB,ud fu hfu _ _ hx.1 (by simp),qB,wq]
   cases hk:lk x.1 bt
   ·rw[ay rfl,qbq,au _,qW (show ¬((x.1.map lo==bt.map lo)=true) by show ¬lk x.1 bt=true;rw[hk];simp),show(ab.length+(x::t).length:Nat)=ab.length+1+t.length by simp only[qL];omega]
    exact st
   ·rw[aw rfl,ag,qX (show(x.1.map lo==bt.map lo)=true from hk),qW (by simp)]
def zxa(n:Nat):∀(ab aa:List az),l=ab++aa->aa.length<n ->
  (dr aa bt=[]->uz fu n l (-1) (ab++aa) ((ab.length+aa.length:Nat):Int) (ab.length:Int) [] []=some (.inl ([],([],(0,false))))) /\
  (∀u x w,aa=u++x::w->dr u bt=[]->lk x.1 bt=true->uz fu n l (-1) (ab++aa) ((ab.length+aa.length:Nat):Int) (ab.length:Int) [] []=if dr w bt=[] then tyP fu ((ab.length+u.length:Nat):Int) x.2 else some (.inl ([],([],(0,false))))):=by
 induction n with
 |zero=>intro ab aa _ h;omega|succ n ih=>
  intro ab aa hp h;have ac:l.length=ab.length+aa.length:=by rw[hp];simp
  rw[uz,qmk]
  cases aa with
  |nil=>exact⟨fun _=>by rw[aq,ag],fun u x w e=>by simp at e⟩
  |cons y t=>
   simp only[qL]at h ac;have hy:=hs y (by rw[hp];simp)
   obtain⟨s1,s2⟩:=ih (ab++[y]) t (by rw[hp];simp) (by omega)
   simp only[qM,qL,qZ,qS,wM,wO]at s1 s2;rw[ag (by simp only[qL];omega),bg,qB,ud fu hfu _ _ hy.1 (by simp),qB,wq,show(ab.length+(y::t).length:Nat)=ab.length+1+t.length by simp only[qL];omega]
   cases hk:lk y.1 bt
   ·rw[ay rfl,qbq,au _,qW (show ¬((y.1.map lo==bt.map lo)=true) by show ¬lk y.1 bt=true;rw[hk];simp)]
    refine⟨s1,fun u x w e hu hx => ?_⟩
    cases u with
    |nil=>rw[List.nil_append,List.cons.injEq]at e;rw[e.1,hx]at hk;cases hk
    |cons z u=>
     rw[wK,List.cons.injEq]at e;obtain⟨rfl,e⟩:=e;rw[wq,qW (show ¬((y.1.map lo==bt.map lo)=true) by show ¬lk y.1 bt=true;rw[hk];simp)]at hu
     have:=s2 u x w e hu hx;rw[show(ab.length+(y::u).length:Nat)=ab.length+1+u.length by simp only[qL];omega]
     exact this
   ·rw[aw rfl,aq,qbq,au _,qX (show(y.1.map lo==bt.map lo)=true from hk)]
    refine⟨fun e=>by simp at e,fun u x w e hu hx => ?_⟩
    cases u with
    |nil=>
     rw[List.nil_append,List.cons.injEq]at e;obtain⟨rfl,rfl⟩:=e;have:=zxb fu hfu l hs hl ab.length y (by rw[hp];exact bg ab y t) n (ab++[y]) t (by rw[hp];simp) (by omega)
     simp only[qM,qL,qZ,qS,wM,wO]at this;exact this
    |cons z u=>
     rw[wK,List.cons.injEq]at e;obtain⟨rfl,e⟩:=e;rw[wq,qX (show(y.1.map lo==bt.map lo)=true from hk)]at hu
     simp at hu
def q2v:∃R,xz fu l=some R/\match im l with
  |some m=>∃ab x aa,l=ab++x::aa/\dr l bt=[x.2]/\lk x.1 bt=true/\dr ab bt=[]/\dr aa bt=[]/\R = .inr (m.1,(m.2.1,((ab.length:Int),(true,m.2.2))))|none=>∃k,R = .inl ([],([],(k,false))):=by
 obtain⟨h1,h2⟩:=zxa fu hfu l hs hl fu [] l rfl (by omega)
 simp only[List.nil_append,qZ,wO]at h1 h2;unfold xz;rw[show((0:Nat):Int)=0 from rfl]at h1 h2
 have hd:dr l bt=[]\/∃u x w,l=u++x::w/\dr u bt=[]/\lk x.1 bt=true:=by
  clear h1 h2 hs hl
  induction l with
  |nil=>exact .inl rfl|cons y t ih=>
   rw[wq];cases hk:lk y.1 bt
   ·rw[qW (show ¬((y.1.map lo==bt.map lo)=true) by show ¬lk y.1 bt=true;rw[hk];simp)]
    rcases ih with g|⟨u,x,w,e,g1,g2⟩
    ·exact .inl g
    ·exact .inr ⟨y::u,x,w,by rw[e];rfl,by rw[wq,qW (show ¬((y.1.map lo==bt.map lo)=true) by show ¬lk y.1 bt=true;rw[hk];simp)];exact g1,g2⟩
   ·exact .inr ⟨[],y,t,rfl,rfl,hk⟩
 have vapp:∀(u w:List az)(x:az),lk x.1 bt=true->dr (u++x::w) bt=dr u bt++x.2::dr w bt:=fun u w x hx=>by
  unfold dr;rw[List.filter_append,List.filter_cons,qX (show(x.1.map lo==bt.map lo)=true from hx),List.map_append];rfl
 rcases hd with g|⟨u,x,w,e,g1,g2⟩
 ·refine⟨_,h1 g,?_⟩;unfold im;rw[g];exact⟨0,rfl⟩
 ·have hr:=h2 u x w e g1 g2;have hv:=vapp u w x g2;rw[← e,g1,List.nil_append]at hv;by_cases hw:dr w bt=[]
  ·rw[qX hw,zw9 fu hfu _ _ (hs x (by rw[e];simp)).2]at hr
   refine⟨_,hr,?_⟩;rw[hw]at hv;unfold im;rw[hv];simp only
   cases hp:ub x.2 with|none=>exact⟨_,rfl⟩|some m=>exact⟨u,x,w,e,rfl,g2,g1,hw,rfl⟩
  ·rw[qW hw]at hr;refine⟨_,hr,?_⟩;unfold im;rw[hv]
   cases hh:dr w bt with|nil=>exact absurd hh hw|cons=>exact⟨0,rfl⟩
end typ
def qdy{l:List az}{m:db}(h:im l=some m):(d9 m).1=0:=by
 unfold im at h;split at h
 ·exact(zsz h).2
 ·cases h
def q2u(fu:Nat)(hfu:90000000<=fu)(l:List az)(hs:ni l):qbc fu l=some (match im l with|some m=>(m,true)|none=>(([],([],[])),false)):=by
 unfold qbc;rw[zgs fu hfu l ctn (by simp) hs,qB,zgr,fp]
 unfold im
 cases hv:dr l bt with
 |nil=>rw[qX (by simp)];rfl|cons v t=>
  cases t with
  |cons w t=>rw[qX (by simp only[qL];omega)];rfl|nil=>
   rw[qW (by simp),ag,show([v]:List Bs)[(0:Int).toNat]? = some v from rfl,qB,qly]
   simp only;unfold ub;by_cases h4:4000<v.length
   ·rw[ag,qX h4]
   ·rw[aq,qW h4,qt7,ag,show([v]:List Bs)[(0:Int).toNat]? = some v from rfl,qB,zrg fu hfu v,qB]
    cases hm:t8 v with
    |none=>rfl|some m=>
     simp only;rw[ci,zum fu hfu m (q0y hm),qB,fp]
     by_cases h0:(d9 m).1≠0
     ·rw[qX h0,qX h0]
     ·rw[qW h0,qW h0]
def bOk(b:Bs):Bool := !b.isEmpty&&(decide (b.length<=60)&&(b.all ee && !(b.getLast? == some 32)))
def bnd(l:List az):Option Bs:=match im l with|some m=>if lk m.1 vv=true/\(dq m.2.2 cu).2=true/\bOk (dq m.2.2 cu).1=true then some (dq m.2.2 cu).1 else none|none=>none
def zdj(l:List bz)(nm:Bs)(M:Nat)(h:∀x∈l,x.2.length<=M):(dq l nm).1.length<=M:=by
 induction l with
 |nil=>simp[dq,par]|cons p l ih=>
  rw[qp8];split
  ·exact h p qH
  ·exact ih (fun x hx=>h x (qE _ hx))
def zso(c:UInt8):qg7 c=some (ee c):=by unfold qg7 ee;by_cases h:(32:UInt8)<=c<;>simp[h]
def zlj(fu:Nat)(s:Bs)(h:s.length<fu:=by omega)(hb:s.length<9223372036854775807:=by omega):ql1 fu s=some (s.all ee):=by
 have e:∀n,qga fu n=yt qg7 n:=by
  intro n;induction n with|zero=>rfl|succ n ih=>rw[qga,ih];funext a b c;rfl
 unfold ql1;rw[e];exact qyo _ _ zso _ _ h hb
def zpd(t:Bs)(hb:t.length<=4000000:=by omega):qm4 t [32]=some (t.getLast? == some 32):=by
 unfold qm4 qgj;rw[show(([32]:List UInt8).length:Int)=1 from rfl]
 rcases List.eq_nil_or_concat t with rfl|⟨u,c,rfl⟩
 ·rfl
 ·rw[List.concat_eq_append]at *;simp only[qM,qL,qZ]at hb;rw[ph,p6 _,ag,ag,qB,List.getLast?_concat]
  have e:List.drop ((u.length:Nat):Int).toNat (u++[c])=[c]:=y5 u [c];rw[e];congr 1;rw[Bool.eq_iff_iff];simp
def zmq(fu:Nat)(hfu:90000000<=fu)(l:List az)(hs:∀x∈l,x.1.length<=4000000/\x.2.length<=4000000)(hl:l.length<=4000000):∃R,qmm fu l=some R/\match bnd l with
  |some b=>R=(b,true)|none=>R.2=false:=by
 obtain⟨R,h1,h2⟩:=q2v fu hfu l hs hl;unfold qmm bnd;rw[h1,qB]
 cases ht:im l with
 |none=>
  rw[ht]at h2;obtain⟨k,rfl⟩:=h2;exact⟨_,rfl,rfl⟩
 |some m=>
  rw[ht]at h2;obtain⟨ab,x,aa,e1,e2,e3,e4,e5,rfl⟩:=h2;have h0:=qdy ht;have hv:=rq h0;simp only[ch];rw[ci,ud fu hfu _ _ (by have:=hv.1;omega) (by simp),qB]
  cases hk:lk m.1 vv
  ·rw[ya,dx];exact⟨_,rfl,by simp⟩
  ·have hbl:=zdj m.2.2 cu 100000 (fun x hx=>(hv.2.2.2 x hx).2)
   rw[ya,ci,qvs,zcq fu hfu (m.1,(m.2.1,m.2.2)) cu (by simp) hv.smD,qB,qW (by simpa using h0)]
   simp only;generalize hb:(dq m.2.2 cu).1=b at *;generalize hi:(dq m.2.2 cu).2=i at *;unfold bOk
   cases b with
   |nil=>rw[show(!(([]:Bs)==[]))=false from rfl,ay rfl];cases i<;>exact⟨_,rfl,by simp⟩
   |cons c b=>
    rw[show(!((c::b:Bs)==[]))=true from rfl,aw rfl]
    by_cases h60:(c::b).length<=60
    ·rw[ag,zlj fu _,qB]
     cases ha:(c::b).all ee
     ·rw[ay rfl];cases i<;>exact⟨_,rfl,by simp[ha]⟩
     ·rw[aw rfl,zpd _,qB]
      cases i
      ·exact⟨_,rfl,by simp⟩
      ·rw[aw rfl];refine⟨_,rfl,?_⟩;cases hg:((c::b).getLast? == some 32)
       ·rw[qX ⟨by first|rfl|trivial,by first|rfl|trivial,by simp only[List.isEmpty_cons,Bool.not_false,Bool.true_and,Bool.and_true];exact decide_eq_true h60⟩];rfl
       ·rw[qW (by simp)];rfl
    ·rw[aq]
     have hnot:¬(decide ((c::b).length<=60)=true):=by simpa using h60
     cases i
     ·exact⟨_,rfl,by simp⟩
     ·refine⟨_,rfl,?_⟩;rw[qW (by
       rintro⟨_,_,g⟩
       rw[qA,qA]at g;exact hnot g.2.1)]
def zlq(fu n:Nat)(i:Bool):∀(ab aa:Bs),aa.length<n->ab.length+aa.length<1000000 ->
  ∃R,qft fu n (ab++aa) i (ab.length:Int)=some R/\(if aa.all ee=true/\i=true/\(1<=(ab++aa).length/\(ab++aa).length<=60)/\(ab++aa).getLast? ≠ some 32 then R=(ab++aa,true) else R.2=false):=by
 induction n with
 |zero=>intro ab aa h;omega|succ n ih=>
  intro ab aa h hb;rw[qft,qtm]
  cases aa with
  |nil=>
   rw[aq,List.append_nil]
   cases i
   ·exact⟨_,rfl,by rw[qW (by simp)]⟩
   ·rw[aw rfl,mv,qB];by_cases h60:1<=ab.length/\ab.length<=60
    ·rw[ag]
     rcases List.eq_nil_or_concat ab with rfl|⟨u,c,rfl⟩
     ·simp at h60
     ·rw[List.concat_eq_append]at *;simp only[qM,qL,qZ]at hb;rw[ph,p6 _,qda,qB]
      refine⟨_,rfl,?_⟩;rw[List.getLast?_concat];by_cases hc:c=32
      ·rw[qW (by simp[hc])];simp[hc]
      ·rw[qX ⟨rfl,rfl,h60,by simpa using hc⟩];simp[hc]
    ·rw[aq];exact⟨_,rfl,by rw[qW (fun g=>h60 g.2.2.1)]⟩
  |cons c t=>
   simp only[qL]at h hb;have hp:(decide (32<=(c.toNat:Int)/\(c.toNat:Int)<=126))=ee c:=by
    unfold ee;rw[Bool.eq_iff_iff];simp only[decide_eq_true_eq,qA,UInt8.le_iff_toNat_le];show _↔32<=c.toNat/\c.toNat<=126;omega
   rw[ag (by rw[c7];omega),bg,qB,mv,hp,qB,au _]
   cases hc:ee c
   ·rw[dx];exact⟨_,rfl,by rw[qW (by simp[hc])]⟩
   ·rw[ci];obtain⟨R,g1,g2⟩:=ih (ab++[c]) t (by omega) (by simp;omega)
    rw[qM,wD,qS,wM]at g1;refine⟨R,g1,?_⟩;rw[qS,wM]at g2;rw[List.all_cons,hc,Bool.true_and];exact g2
def zlp(fu:Nat)(hfu:90000000<=fu)(l:List az)(hs:ni l):∃R,qlo fu l=some R/\match bnd l with
  |some b=>R=(b,true)|none=>R.2=false:=by
 unfold qlo bnd;rw[q2u fu hfu l hs,qB]
 cases ht:im l with
 |none=>exact⟨_,rfl,rfl⟩|some m=>
  have h0:=qdy ht;have hv:=rq h0;simp only;rw[ci,ve fu hfu _ _ (by have:=hv.1;omega) (by simp),qB]
  cases hk:lk m.1 vv
  ·rw[qfs,dx];exact⟨_,rfl,by simp⟩
  ·have hbl:=zdj m.2.2 cu 100000 (fun x hx=>(hv.2.2.2 x hx).2)
   rw[qfs,ci,qtn,q18 fu hfu m cu (by simp) hv.smD.2.2,qB]
   obtain⟨R,g1,g2⟩:=zlq fu fu (dq m.2.2 cu).2 [] (dq m.2.2 cu).1 (by omega) (by simp;omega)
   refine⟨R,g1,?_⟩;simp only[List.nil_append]at g2;by_cases hc:(dq m.2.2 cu).1.all ee=true/\(dq m.2.2 cu).2=true/\(1<=(dq m.2.2 cu).1.length/\(dq m.2.2 cu).1.length<=60)/\(dq m.2.2 cu).1.getLast? ≠ some 32
   ·rw[qX hc]at g2;have hb:bOk (dq m.2.2 cu).1=true:=by
     unfold bOk;have:(dq m.2.2 cu).1.isEmpty=false:=by
      cases hh:(dq m.2.2 cu).1 with|nil=>rw[hh]at hc;simp at hc|cons=>rfl
     rw[this,hc.1,decide_eq_true hc.2.2.1.2];simp;exact hc.2.2.2
    rw[qX ⟨by first|rfl|trivial,hc.2.1,hb⟩];exact g2
   ·rw[qW hc]at g2;rw[qW (by
     rintro⟨_,q1,q2⟩
     apply hc;unfold bOk at q2;simp only[qA,Bool.not_eq_true',decide_eq_true_eq,beq_eq_false_iff_ne]at q2;refine⟨q2.2.2.1,q1,⟨?_,q2.2.1⟩,q2.2.2.2⟩
     cases hh:(dq m.2.2 cu).1 with
     |nil=>rw[hh]at q2;simp at q2| cons=>simp)]
    exact g2
def q9f{l:List az}{b:Bs}(h:bnd l=some b):1<=b.length/\b.length<=60:=by
 unfold bnd at h;split at h
 ·split at h
  ·rename_i hc;cases h
   have q:=hc.2.2;unfold bOk at q;simp only[qA,Bool.not_eq_true',decide_eq_true_eq]at q;refine⟨?_,q.2.1⟩;generalize (dq _ cu).1=z at *
   cases z with|nil=>simp at q|cons=>simp
  ·cases h
 ·cases h
def qdd(t b:Bs):Int:=if t=([45,45]:Bs)++b then 1 else if t=(([45,45]:Bs)++b)++([45,45]:Bs) then 2 else 0
def jp(line b:Bs):Int:=qdd (ik line) b
def qn8{α:Type}{a b:Bs}{x y:α}:(bif a==b then x else y)=if a=b then x else y:=by
 by_cases h:a=b
 ·rw[aw (by simpa using h),qX h]
 ·rw[ay (by simpa using h),qW h]
def zqo(fu:Nat)(hfu:90000000<=fu)(line b:Bs)(h:line.length<=4000000)(hb:b.length<=1000):qmw fu line b=some (jp line b):=by
 unfold qmw jp qdd;rw[zw1 fu line,qB,ag (by simp[ap];omega),qn8,ag (by simp[ap];omega),ag (by simp[ap];omega),qn8]
 split
 ·rfl
 ·split<;>rfl
def zq1(fu:Nat)(s b:Bs)(hs:s.length<=4000000)(hb:b.length<=1000)(n:Nat):∀(u w:Bs),s=u++w->u.length<n->qba fu n s b (u.length:Int)=some (qdd (ik u) b):=by
 induction n with
 |zero=>intro u w _ h;omega|succ n ih=>
  intro u w hu h;have ac:s.length=u.length+w.length:=by rw[hu];simp
  have fin:qbb fu (qba fu n) s b (u.length:Int) false=some (qdd u b):=by
   rw[qbb,ay rfl,ag,ag (by simp[ap];omega),show List.take ((u.length:Nat):Int).toNat s=u by rw[hu];exact z7 u w,qn8,ag,ag (by simp[ap];omega),ag (by simp[ap];omega),qn8]
   unfold qdd;split
   ·rfl
   ·split<;>rfl
  rw[qba,qtz];rcases List.eq_nil_or_concat u with rfl|⟨t,c,rfl⟩
  ·rw[aq];exact fin
  ·rw[List.concat_eq_append]at *;rw[ag,ph,p6 _ (by simp at ac;omega),qjo]
   have hx:am s (t.length:Int)=some c:=by rw[hu,qS];exact bg t c w
   rw[hx,qB,qdo,qB];cases hc:bl c
   ·rw[ph]at fin;rw[fin];rfl
   ·rw[qbb,aw rfl,qt0,p6 _ (by simp at ac;omega),qX rfl]
    exact ih t (c::w) (by rw[hu];simp) (by simp at h;omega)
def zqz(fu:Nat)(hfu:90000000<=fu)(s b:Bs)(hs:s.length<=4000000)(hb:b.length<=1000):qty fu s b=some (jp s b):=
 zq1 fu s b hs hb fu s [] (by simp) (by omega)
def bq:Bs->Bs|[]=>[]|c::t=>if gu c t=true then[] else c::bq t
def cr:Bs->Bs|[]=>[]|c::t=>if gu c t=true then t.tail else cr t
def tn:∀r:Bs,(r=bq r++13::10::cr r/\Lib.index r [13,10]=((bq r).length:Int))\/(bq r=r/\cr r=[]/\Lib.index r [13,10] = -1)
 |[] => .inr ⟨rfl,rfl,rfl⟩|c::t=>by
  have hp:([13,10]:Bs).isPrefixOf (c::t)=gu c t:=by
   unfold gu
   cases t with|nil=>simp[List.isPrefixOf]|cons d t=>simp[List.isPrefixOf,qn7]
  rw[bq,cr,Lib.index,hp];by_cases hc:gu c t=true
  ·obtain⟨rfl,r',rfl⟩:=qi4 hc;rw[qX hc,qX hc,qX hc];exact .inl ⟨rfl,rfl⟩
  ·rw[qW hc,qW hc,qW hc];rcases tn t with⟨h1,h2⟩|⟨h1,h2,h3⟩
   ·refine .inl ⟨by rw[wK,← h1],?_⟩
    rw[h2,qW (by simp)];simp
   ·refine .inr ⟨by rw[h1],h2,?_⟩
    rw[h3];rfl
def qii(r:Bs):r.take (bq r).length=bq r:=by
 rcases tn r with⟨h1,_⟩|⟨h1,_,_⟩
 ·have e:r.take (bq r).length=(bq r++13::10::cr r).take (bq r).length:=by rw[← h1]
  rw[e,List.take_left]
 ·rw[h1];simp
def qjd(r:Bs):cr r <:+ r:=by
 rcases tn r with⟨h1,_⟩|⟨_,h2,_⟩
 ·exact⟨bq r++[13,10],by simp;exact h1.symm⟩
 ·rw[h2];exact List.nil_suffix
def qjc(c:UInt8)(t:Bs):(cr (c::t)).length<=t.length:=by
 rcases tn (c::t) with⟨h1,_⟩|⟨_,h2,_⟩
 ·have:=congrArg List.length h1;simp only[qM,qL]at this;omega
 ·rw[h2];simp
def qol(r:Bs):(bq r).length<=r.length:=by
 rcases tn r with⟨h1,_⟩|⟨h1,_,_⟩
 ·have:=congrArg List.length h1;simp only[qM,qL]at this;omega
 ·rw[h1];exact wF _
def qzg(s r:Bs):Bs:=s.take (s.length-r.length-2)
def kz(st:Option Bs)(r:Bs)(out:List Bs):List Bs:=match st with|some s=>out++[qzg s r]|none=>out
def iq(b:Bs):Nat->Bs->Option Bs->List Bs->List Bs
 |0,_,_,out=>out|_+1,[],st,out=>match st with|some s=>out++[s]|none=>out
 |n+1,c::t,st,out=>if jp (bq (c::t)) b=0 then iq b n (cr (c::t)) st out
  else if jp (bq (c::t)) b=2 then kz st (c::t) out else iq b n (cr (c::t)) (some (cr (c::t))) (kz st (c::t) out)
def f8(body:Bs)(st:Option Bs):Int:=match st with|some s=>pos body s|none => -1
def zqp(l b:Bs):jp l b=0\/jp l b=1\/jp l b=2:=by
 unfold jp qdd;split
 ·exact .inr (.inl rfl)
 ·split
  ·exact .inr (.inr rfl)
  ·exact .inl rfl
def q0w{body s r:Bs}(hs:s <:+ body)(hr:r <:+ s)(hb:body.length<=4000000):0<=pos body s/\pos body s<=(if af (pos body r-2)>pos body s then af (pos body r-2) else pos body s)/\(if af (pos body r-2)>pos body s then af (pos body r-2) else pos body s)<=(body.length:Int) /\
  List.take ((if af (pos body r-2)>pos body s then af (pos body r-2) else pos body s).toNat-(pos body s).toNat) (List.drop (pos body s).toNat body)=qzg s r:=by
 have h1:=hs.length_le;have h2:=hr.length_le;rw[qdm hs];unfold qzg pos;rw[eg]
 refine⟨by omega,?_,?_,?_⟩
 ·split<;>omega
 ·split<;>omega
 ·congr 1;split<;>omega
def zs2{body r:Bs}(hr:r <:+ body)(hb:body.length<=4000000):(if(body.length:Int)<af (af (pos body r+((bq r).length:Int))+2) then(body.length:Int) else af (af (pos body r+((bq r).length:Int))+2))=pos body (cr r):=by
 have h1:=hr.length_le;rcases tn r with⟨h,_⟩|⟨h,h2,_⟩
 ·have:=congrArg List.length h;simp only[qM,qL]at this;unfold pos;rw[l8 _ _,eg]
  split<;>omega
 ·rw[h2,h,gz];unfold pos;rw[l8 _ _,eg]
  split<;>omega
def zni(fu:Nat)(hfu:90000000<=fu)(body b:Bs)(hb:body.length<=4000000)(hbb:b.length<=1000)(r:Bs)(hr:r <:+ body)(st:Option Bs)(hst:∀s,st=some s->s <:+ body/\r <:+ s)(z out:List Bs)(ho:out.length<=4000000:=by omega) :
  qbs fu (pos body r) (bq r) body b (f8 body st) z out =
   if jp (bq r) b=0 then some (.inl (body,(b,(f8 body st,(z,out))))) else if jp (bq r) b=2 then some (.inr (body,(b,(f8 body st,kz st r out)))) else some (.inl (body,(b,(pos body (cr r),(z,kz st r out))))):=by
 have hrm:=ge;have hcl:=qol r;have hrl:=hr.length_le;unfold qbs;rw[zqo fu hfu _ b (by omega) hbb,qB,jb]
 by_cases h0:jp (bq r) b=0
 ·rw[qX h0,qX h0]
 rw[qW h0,qW h0,zs2 hr hb,jb]
 cases st with
 |none=>
  rw[show f8 body none = -1 from rfl,aq]
  try rw[jb]
  by_cases h2:jp (bq r) b=2
  ·rw[qX h2,qX h2];rfl
  ·rw[qW h2,qW h2];rfl
 |some s=>
  obtain⟨g1,g2⟩:=hst s rfl;obtain⟨q1,q2,q3,q4⟩:=q0w g1 g2 hb;rw[show f8 body (some s)=pos body s from rfl,ag q1,ag ⟨q1,q2,q3⟩,q4,ag]
  by_cases h2:jp (bq r) b=2
  ·rw[qX h2,qX h2];rfl
  ·rw[qW h2,qW h2];rfl
def q8k(st:Option Bs)(r:Bs)(out:List Bs):(kz st r out).length<=out.length+1:=by unfold kz;cases st<;>simp
def zav(st:Option Bs)(out:List Bs):List Bs:=match st with|some s=>out++[s]|none=>out
def znh(fu:Nat)(hfu:90000000<=fu)(body b:Bs)(hb:body.length<=4000000)(hbb:b.length<=1000)(z:List Bs)(n:Nat):∀(r:Bs)(st:Option Bs)(out:List Bs),r <:+ body->(∀s,st=some s->s <:+ body/\r <:+ s)->r.length<n->out.length+r.length<=4000000 ->
  (∃x,yc fu n (pos body r) body body b (f8 body st) z out=some (.inl (body,(body,(b,(x,iq b n r st out)))))) \/
  (∃st' out',yc fu n (pos body r) body body b (f8 body st) z out=some (.inr (body,(body,(b,(f8 body st',(z,out'))))))/\iq b n r st out=zav st' out'/\out'.length<=4000000/\∀s,st'=some s->s <:+ body):=by
 induction n with
 |zero=>intro r st out _ _ h;omega|succ n ih=>
  intro r st out hr hst h ho;rw[yc,qv0]
  cases r with
  |nil=>
   rw[gz,aq]
   exact .inr ⟨st,out,rfl,rfl,by omega,fun s hs=>(hst s hs).1⟩
  |cons c t=>
   simp only[qL]at h ho;have hL:(c::t).length=t.length+1:=rfl;have hrl:=hr.length_le;simp only[qL]at hrl;have hcl:=qol (c::t);have hnl:=qjc c t;have hge:=ru body (c::t);have hnx:cr (c::t) <:+ body:=(qjd _).trans hr;rw[ag (ly hr),ag hge,ag (by decide),qdm hr]
   have hI:oq (c::t) [13,10]=some (Lib.index (c::t) [13,10]):=by
    unfold oq;rw[ag (by refine⟨by simp,by simp only[qL];omega,by simp[maxLen]⟩)]
   have step:∀q:Option qx3,q=((qbs fu (pos body (c::t)) (bq (c::t)) body b (f8 body st) z out).bind fun x2=>ch x2 (fun a3=>yc fu n (pos body (cr (c::t))) body a3.1 a3.2.1 a3.2.2.1 a3.2.2.2.1 a3.2.2.2.2) (fun b4=>some (.inl (body,b4)))) ->
     (∃x,q=some (.inl (body,(body,(b,(x,iq b (n+1) (c::t) st out))))))\/(∃st' out',q=some (.inr (body,(body,(b,(f8 body st',(z,out'))))))/\iq b (n+1) (c::t) st out=zav st' out'/\out'.length<=4000000/\∀s,st'=some s->s <:+ body):=by
    intro q hq;rw[hq,zni fu hfu body b hb hbb (c::t) hr st hst z out,iq]
    have hal:=q8k st (c::t) out;by_cases h0:jp (bq (c::t)) b=0
    ·simp only[qX h0,qB,ch];exact ih (cr (c::t)) st out hnx (fun s hs=>⟨(hst s hs).1,(qjd _).trans (hst s hs).2⟩) (by omega) (by omega)
    ·simp only[qW h0];by_cases h2:jp (bq (c::t)) b=2
     ·simp only[qX h2,qB,ch];exact .inl ⟨_,rfl⟩
     ·simp only[qW h2,qB,ch];exact ih (cr (c::t)) (some (cr (c::t))) _ hnx (fun s hs=>by cases hs;exact⟨hnx,List.suffix_refl _⟩) (by omega) (by omega)
   apply step;rw[hI,qB];rcases tn (c::t) with⟨h1,h2⟩|⟨h1,h2,h3⟩
   ·have ac:=congrArg List.length h1;simp only[qM,qL]at ac;have e1:af (pos body (c::t)+((bq (c::t)).length:Int))=((body.length-(c::t).length+(bq (c::t)).length:Nat):Int):=by unfold pos;rw[l8 _ _]
    have e2:af (((body.length-(c::t).length+(bq (c::t)).length:Nat):Int)+2)=pos body (cr (c::t)):=by unfold pos;rw[eg];simp only[qL];omega
    have e3:((body.length-(c::t).length+(bq (c::t)).length:Nat):Int).toNat-(pos body (c::t)).toNat=(bq (c::t)).length:=by unfold pos;omega
    rw[h2,ag,e1,ag (by unfold pos;simp only[qL];omega),e3,qii,e2]
   ·have e3:(body.length:Int).toNat-(pos body (c::t)).toNat=(bq (c::t)).length:=by rw[h1];unfold pos;omega
    rw[h3,aq,ag,e3,qii,h2,gz]
def q91(b:Bs):∀(n:Nat)(r:Bs)(st:Option Bs)(out:List Bs),r.length<n->iq b n r st out=iq b (r.length+1) r st out:=by
 intro n
 induction n using Nat.strongRecOn with
 |ind n ih=>
  intro r st out h;obtain⟨n,rfl⟩:∃m,n=m+1:=⟨n-1,by omega⟩
  cases r with
  |nil=>rfl|cons c t=>
   simp only[qL]at h ⊢;have hnl:=qjc c t;rw[iq,iq];have e:∀st' out',iq b n (cr (c::t)) st' out'=iq b (t.length+1) (cr (c::t)) st' out':=fun st' out'=>by
    rw[ih n (by omega) _ _ _ (by omega)]
    by_cases hq:t.length+1=n
    ·rw[hq];exact(ih n (by omega) _ _ _ (by omega)).symm
    ·exact(ih (t.length+1) (by omega) _ _ _ (by omega)).symm
   rw[e,e]
def yz(body b:Bs):List Bs:=iq b (body.length+1) body none []
def znj(fu:Nat)(hfu:90000000<=fu)(body b:Bs)(hb:body.length<=4000000)(hbb:b.length<=1000):qmo fu body b=some (yz body b):=by
 have hrm:=ge;unfold qmo qhc qvz yz;rw[qB];have:=znh fu hfu body b hb hbb [] fu body none [] (List.suffix_refl _) (by simp) (by omega) (by simpa using hb)
 rw[qp9,show f8 body none = -1 from rfl,q91 b fu body none [] (by omega)]at this
 rcases this with⟨x,h⟩|⟨st',out',h1,h2,h3,h4⟩
 ·rw[h];rfl
 ·rw[h1,qB,h2];simp only[ch]
  cases st' with
  |none=>rw[show f8 body none = -1 from rfl,aq];rfl|some s=>
   have hge:=ru body s;rw[show f8 body (some s)=pos body s from rfl,ag hge.1,ag hge,ag,qdm (h4 s rfl)];rfl
def ztu(fu:Nat)(r0:og)(body b:Bs)(s6 s7:Int)(out:List Bs)(hb:body.length<=4000000)(n:Nat):∀(u:Bs),u <:+ body->u.length<n ->
  qfv fu r0 n body b s6 s7 (pos body u) out=qfx fu r0 body b s6 s7 (pos body (u.drop (bq u).length)) (pos body (cr u)) out:=by
 induction n with
 |zero=>intro u _ h;omega|succ n ih=>
  intro u hu h;rw[qfv,qtr]
  cases u with
  |nil=>rw[gz,aq,qfw,ay rfl,aw];simp[cr,gz]|cons c t=>
   have ht:t <:+ body:=(List.suffix_cons _ _).trans hu;simp only[qL]at h;have hc:qal body (pos body (c::t))=some (gu c t):=by
    obtain⟨p,e1,e2⟩:=zdt hu;have:=hu.length_le;rw[e2,e1];exact zd6 p c t (by rw[e1]at hb;simp at hb;omega)
   rw[ag (ly hu),hc,qB,qfw,bq,cr];by_cases hq:gu c t=true
   ·obtain⟨rfl,r',rfl⟩:=qi4 hq;have hle:=hu.length_le;simp only[qL]at hle;rw[hq,ci,ay (by have:=ly hu;simp;omega),qX rfl,qX rfl]
    have e:af (pos body (13::10::r')+2)=pos body r':=by unfold pos;rw[eg (by simp only[qL];omega)];simp only[qL];omega
    rw[e];rfl
   ·have:gu c t=false:=by simpa using hq
    rw[this,dx,qts,pq hu,qW (by simp),qW (by simp)]
    exact ih t ht (by omega)
def zty(fu:Nat)(hfu:90000000<=fu)(body b:Bs)(hb:body.length<=4000000)(hbb:b.length<=1000)(n:Nat):∀(r:Bs)(st:Option Bs)(out:List Bs),r <:+ body->(∀s,st=some s->s <:+ body/\r <:+ s)->r.length<n->out.length+r.length<=4000000 ->
  uq fu n body b (f8 body st) (pos body r) out=some (iq b n r st out):=by
 have hrm:=ge
 induction n with
 |zero=>intro r st out _ _ h;omega|succ n ih=>
  intro r st out hr hst h ho;rw[uq,qtq]
  cases r with
  |nil=>
   rw[gz,aq]
   show _=some (match st with|some s=>out++[s]|none=>out)
   cases st with
   |none=>rw[show f8 body none = -1 from rfl,aq]|some s=>
    have hge:=ru body s;rw[show f8 body (some s)=pos body s from rfl,ag hge.1,ag hge,ag (by simp;simp at ho;omega),qdm (hst s rfl).1]
  |cons c t=>
   simp only[qL]at h ho;have hrl:=hr.length_le;simp only[qL]at hrl;have hcl:=qol (c::t);have hnl:=qjc c t;have hnx:cr (c::t) <:+ body:=(qjd _).trans hr;have hal:=q8k st (c::t) out;rw[ag (ly hr),ztu fu _ body b _ _ out hb fu (c::t) hr (by simp only[qL];omega),iq,qfx]
   have hds:(c::t).drop (bq (c::t)).length <:+ (c::t):=List.drop_suffix _ _;have hle:=q1q (s:=body) hds;have g1:=ru body (c::t);have g2:=ru body ((c::t).drop (bq (c::t)).length);have e:List.take ((pos body ((c::t).drop (bq (c::t)).length)).toNat-(pos body (c::t)).toNat) (List.drop (pos body (c::t)).toNat body)=bq (c::t):=by
    rw[q1r hr hds,List.length_drop,show(c::t).length-((c::t).length-(bq (c::t)).length)=(bq (c::t)).length by omega,qii]
   rw[ag ⟨g1.1,hle,g2.2⟩,e,zqz fu hfu _ b (by simp only[qL]at hcl;omega) hbb,qB]
   have nx:∀st' out',(∀s,st'=some s->s <:+ body/\cr (c::t) <:+ s)->out'.length<=out.length+1->uq fu n body b (f8 body st') (pos body (cr (c::t))) out'=some (iq b n (cr (c::t)) st' out'):=fun st' out' h1 h2=>ih _ st' out' hnx h1 (by omega) (by omega)
   rcases zqp (bq (c::t)) b with hk|hk|hk
   ·rw[hk,aq,qX rfl,qa6,ay (by rfl)]
    exact nx st out (fun s hs=>⟨(hst s hs).1,(qjd _).trans (hst s hs).2⟩) (by omega)
   ·rw[hk,ag,qW (by omega),qW (by omega)]
    have p5:∀o,o=kz st (c::t) out->xm fu (uq fu n) body b (pos body (cr (c::t))) 1 o=some (iq b n (cr (c::t)) (some (cr (c::t))) (kz st (c::t) out)):=by
     intro o he;rw[xm,qa6,ay (by rfl),he]
     exact nx (some (cr (c::t))) _ (fun s hs=>by cases hs;exact⟨hnx,List.suffix_refl _⟩) hal
    cases st with
    |none=>rw[show f8 body none = -1 from rfl,aq];exact p5 _ rfl|some s=>
     obtain⟨q1,q2,q3,q4⟩:=q0w (hst s rfl).1 (hst s rfl).2 hb;rw[show f8 body (some s)=pos body s from rfl,ag q1,cq]
     by_cases hlt:af (pos body (c::t)-2)<pos body s
     ·rw[qW (by omega)]at q2 q3 q4
      rw[qX hlt,xn,ag ⟨q1,q2,q3⟩,q4,ag]
      exact p5 _ rfl
     ·rw[qW hlt,xn];by_cases heq:af (pos body (c::t)-2)=pos body s
      ·rw[qW (by omega)]at q2 q3 q4
       rw[heq,ag ⟨q1,q2,q3⟩,q4,ag]
       exact p5 _ rfl
      ·rw[qX (by omega)]at q2 q3 q4
       rw[ag ⟨q1,q2,q3⟩,q4,ag]
       exact p5 _ rfl
   ·rw[hk,ag,qW (by omega),qX rfl]
    have p5:∀o,o=kz st (c::t) out->xm fu (uq fu n) body b (pos body (cr (c::t))) 2 o=some (kz st (c::t) out):=by
     intro o he;rw[xm,qa6,aw,he]
    cases st with
    |none=>rw[show f8 body none = -1 from rfl,aq];exact p5 _ rfl|some s=>
     obtain⟨q1,q2,q3,q4⟩:=q0w (hst s rfl).1 (hst s rfl).2 hb;rw[show f8 body (some s)=pos body s from rfl,ag q1,cq]
     by_cases hlt:af (pos body (c::t)-2)<pos body s
     ·rw[qW (by omega)]at q2 q3 q4
      rw[qX hlt,xn,ag ⟨q1,q2,q3⟩,q4,ag]
      exact p5 _ rfl
     ·rw[qW hlt,xn];by_cases heq:af (pos body (c::t)-2)=pos body s
      ·rw[qW (by omega)]at q2 q3 q4
       rw[heq,ag ⟨q1,q2,q3⟩,q4,ag]
       exact p5 _ rfl
      ·rw[qX (by omega)]at q2 q3 q4
       rw[ag ⟨q1,q2,q3⟩,q4,ag]
       exact p5 _ rfl
def ztz(fu:Nat)(hfu:90000000<=fu)(body b:Bs)(hb:body.length<=4000000)(hbb:b.length<=1000):qtp fu body b=some (yz body b):=by
 have:=zty fu hfu body b hb hbb fu body none [] (List.suffix_refl _) (by simp) (by omega) (by simpa using hb)
 rw[qp9,show f8 body none = -1 from rfl,q91 b fu body none [] (by omega)]at this
 exact this
def zfz(l:List az)(f:az->Nat)(hf:∀x,x.1.length+x.2.length+1<=f x):l.length<=(l.map f).sum/\∀x∈l,x.1.length+x.2.length<=(l.map f).sum:=by
 induction l with
 |nil=>exact⟨wF _,fun x h=>by cases h⟩
 |cons y l ih=>
  have hy:=hf y;refine⟨by simp only[qL,List.map_cons,List.sum_cons];omega,fun x hx => ?_⟩
  rw[List.map_cons,List.sum_cons];rcases List.mem_cons.1 hx with rfl|hx
  ·omega
  ·have:=ih.2 x hx;omega
def qqv:∀b:List UInt8,(List.map (Ty.byte.bk:Ty.byte.den->Nat) b).sum=b.length
 |[]=>rfl|c::b=>by
  show 1+(List.map (Ty.byte.bk:Ty.byte.den->Nat) b).sum=b.length+1;rw[qqv b];omega
def nv(x:az):Nat:=(x.1.length+1)+(x.2.length+1)
def zks(l:List az)(b:List UInt8)(h:((l.map nv).sum+1)+(b.length+1)<=1048576):SmM (l,b):=by
 obtain⟨h1,h2⟩:=zfz l nv (fun x=>by unfold nv;omega)
 refine⟨⟨by simp only;omega,fun x hx => ?_⟩,by simp only;omega⟩
 have:=h2 x hx;omega
def zkr(m:List az×List UInt8)(h:(Ty.prod (.list (.prod .str .str)) (.list .byte)).bk m<=1048576):SmM m:=by
 obtain⟨l,b⟩:=m;have h:((l.map nv).sum+1)+((List.map (Ty.byte.bk:Ty.byte.den->Nat) b).sum+1)<=1048576:=h;rw[qqv]at h;exact zks l b h
abbrev TP:Type:=Tree (List (Bs×Bs)×Bs)
abbrev τP:Ty := .prod (.list (.prod .str .str)) (.list .byte)
def cm(t:TP):Nat:=(Ty.tree τP).bk t
def ue(x:List (Bs×Bs)×Bs)(l:List TP):cm (.node x l)=τP.bk x+(l.map cm).sum+2:=zgd τP.bk x l
def d8(t:TP):Tree.node t.val t.kids=t:=by cases t;rfl
def zwc(l:List TP)(k:TP)(h:k∈l):cm k<=(l.map cm).sum:=by
 obtain⟨a,b,rfl⟩:=List.append_of_mem h;simp;omega
def px{t k:TP}(h:k∈t.kids):cm k+2<=cm t:=by
 cases t with
 |node x l=>
  rw[ue];have:=zwc l k h;omega
def zwb(l:List TP):l.length<=(l.map cm).sum:=by
 induction l with
 |nil=>simp|cons k l ih=>
  have:2<=cm k:=by cases k;rw[ue];omega
  simp only[qL,List.map_cons,List.sum_cons];omega
def qj2(t:TP):t.kids.length+2<=cm t:=by
 cases t with|node x l=>rw[ue];have:=zwb l;show l.length+2<=_;omega
def wn(t:TP):2<=cm t:=by cases t;rw[ue];omega
def zw3(t:TP):τP.bk t.val<=cm t:=by cases t;rw[ue];show τP.bk _<=_;simp only[Tree.val];omega
def mf(x:List (Bs×Bs)×Bs):Prop:=SmM x/\x.1.length<=4000000/\(∀y∈x.1,y.1.length<=4000000/\y.2.length<=4000000)/\x.2.length<=4000000
def zvx(x:List (Bs×Bs)×Bs)(h:τP.bk x<=1048576):mf x:=by
 refine⟨zkr x h,?_⟩;obtain⟨l,b⟩:=x;have h:((l.map nv).sum+1)+((List.map (Ty.byte.bk:Ty.byte.den->Nat) b).sum+1)<=1048576:=h;rw[qqv]at h;obtain⟨h1,h2⟩:=zfz l nv (fun x=>by unfold nv;omega)
 exact⟨by simp only;omega,fun y hy=>by have:=h2 y hy;omega,by simp only;omega⟩
def qac(l:List az)(b:Bs):Int:=match im l with|none=>5|some m=>if 0<b.length\/lk m.1 vv=false\/(dq m.2.2 cu).2=true\/60<=m.2.2.length\/dr l bt≠[cg m]\/2000<(cg m).length then 5 else 0
def zxu(fu:Nat)(hfu:90000000<=fu)(t:TP)(hs:mf t.val):qmx fu t=some (qac t.val.1 t.val.2):=by
 obtain⟨_,h1,h2,h3⟩:=hs;obtain⟨R,g1,g2⟩:=q2v fu hfu t.val.1 h2 h1;unfold qmx qac;rw[g1,qB];simp only[d8]
 cases ht:im t.val.1 with
 |none=>
  rw[ht]at g2;obtain⟨k,rfl⟩:=g2;simp only[ch];by_cases hb:0<t.val.2.length
  ·rw[ag,ou,aw rfl]
  ·rw[aq,dx,ou,aw rfl]
 |some m=>
  rw[ht]at g2;obtain⟨ab,x,aa,e1,e2,e3,e4,e5,rfl⟩:=g2;have h0:=qdy ht;have hv:=rq h0;simp only[ch];by_cases hb:0<t.val.2.length
  ·rw[ag,ou,aw rfl,qX (.inl hb)]
  rw[aq,ci,ud fu hfu _ _ (by have:=hv.1;omega) (by simp),qB,ou,d8]
  cases hk:lk m.1 vv
  ·rw[dx,qX (.inr (.inl rfl))]
  rw[ci,qwa,zcq fu hfu (m.1,(m.2.1,m.2.2)) cu (by simp) hv.smD,qB,qW (by simpa using h0),zdx fu hfu (m.1,(m.2.1,m.2.2)) hv.smD,qB,qW (by simpa using h0)]
  rw[show((m.1,(m.2.1,m.2.2)):db)=m from rfl]
  simp only;cases hp:(dq m.2.2 cu).2
  ·rw[ay rfl];by_cases h60:60<=m.2.2.length
   ·rw[ag,qX (.inr (.inr (.inr (.inl h60))))]
   rw[aq]
   by_cases h4:4000<(cg m).length
   ·rw[qX h4,qX (by omega)];rfl
   ·have hx:am t.val.1 (ab.length:Int)=some x:=by rw[e1];exact bg ab x aa
    rw[qW h4];simp only[qw,qB];rw[ay (by rfl),hx,qB,q88,e2]
    by_cases he:cg m=x.2
    ·rw[qW (by rw[he];simp),cq]
     by_cases h2k:2000<(cg m).length
     ·rw[qX (by omega),qX (by omega)]
     ·rw[qW (by omega),qW (by
       rintro (q|q|q|q|q|q)
       ·exact hb q
       ·simp at q
       ·simp at q
       ·exact h60 q
       ·exact q (by rw[he])
       ·exact h2k q)]
    ·rw[qX (by simpa using he),qX (.inr (.inr (.inr (.inr (.inl (by simpa using fun q=>he q.symm))))))]
  ·rw[aw rfl,qX (.inr (.inr (.inl rfl)))]
def jr(t:TP)(d:Int):Int:=if(lj t.val.1).1≠0 then(lj t.val.1).1 else if 0<t.kids.length then qac t.val.1 t.val.2 else if 12000<t.val.2.length then 1
 else if bs 0 t.val.2≠0 then bs 0 t.val.2 else match bnd t.val.1 with|none=>0|some b=>if d<8/\0<(yz t.val.2 b).length then 5 else 0
def zmf(fu:Nat)(s:Bs)(h:s.length<fu:=by omega)(hb:s.length<100000000:=by omega):qbe fu s=some (bs 0 s):=by
 unfold qbe;have:=q9i fu fu [] s 0 h (by simpa using hb) (by omega)
 exact this
def zp2(fu:Nat)(hfu:90000000<=fu)(l:List az)(b:Bs)(d:Int)(hs:mf (l,b)):qbv fu l b d=some (match bnd l with|none=>[]|some bb=>if d<8 then yz b bb else[]):=by
 obtain⟨_,h1,h2,h3⟩:=hs;obtain⟨R,g1,g2⟩:=zmq fu hfu l h2 h1;unfold qbv;rw[g1,qB]
 cases hb:bnd l with
 |none=>rw[hb]at g2;simp only at g2;rw[g2,dx]|some bb=>
  rw[hb]at g2;simp only at g2;subst g2;rw[ci,cq];have:=q9f hb;by_cases hd:d<8
  ·rw[qW (by omega)];simp only[qX hd];rw[znj fu hfu b bb h3 (by omega)];rfl
  ·rw[qX (by omega)];simp only[qW hd]
def zm6(fu:Nat)(hfu:90000000<=fu)(t:TP)(d:Int)(hs:mf t.val):qmn fu (t,d)=some (jr t d):=by
 unfold qmn jr;rw[zbn fu hfu _ hs.1.1,qB,qw,qB,fp];simp only[d8];by_cases h0:(lj t.val.1).1≠0
 ·rw[qX h0,qX h0]
 rw[qW h0,qW h0,cq];by_cases h1:0<t.kids.length
 ·rw[qX (by omega),qX h1,zxu fu hfu t hs];rfl
 rw[qW (by omega),qW h1,cq]
 by_cases h2:12000<t.val.2.length
 ·rw[qX (by omega),qX h2]
 rw[qW (by omega),qW h2,zmf fu _,qB,fp]
 by_cases h3:bs 0 t.val.2≠0
 ·rw[qX h3,qX h3]
 rw[qW h3,qW h3,zp2 fu hfu t.val.1 t.val.2 d hs,qB]
 cases bnd t.val.1 with
 |none=>rfl|some b=>
  simp only;by_cases hd:d<8
  ·simp only[qX hd];rw[cq];by_cases hc:0<(yz t.val.2 b).length
   ·rw[qX (by omega),qX ⟨hd,hc⟩]
   ·rw[qW (by omega),qW (fun q=>hc q.2)]
  ·simp only[qW hd];rw[qW (fun q=>hd q.1)];rfl
def zsm(fu:Nat)(hfu:90000000<=fu)(t:TP)(d:Int)(hs:mf t.val):qlv fu t d=some (jr t d):=by
 unfold qlv jr;rw[zeu fu hfu _ hs.1.1,qB,fp];simp only[d8];by_cases h0:(lj t.val.1).1≠0
 ·rw[qX h0,qX h0]
 rw[qW h0,qW h0,cq];by_cases h1:0<t.kids.length
 ·rw[qX (by omega),qX h1,q2u fu hfu _ hs.1.1,qB]
  unfold qac
  cases ht:im t.val.1 with
  |none=>
   simp only;rw[q18 fu hfu ([],([],[])) cu (by simp) ⟨by simp,by simp⟩,qB,dx,om,aw rfl]
  |some m=>
   have h0:=qdy ht;have hv:=rq h0;simp only;rw[q18 fu hfu m cu (by simp) hv.smD.2.2,qB,ci]
   cases hp:(dq m.2.2 cu).2
   ·rw[ay rfl,ve fu hfu _ _ (by have:=hv.1;omega) (by simp),qB]
    cases hk:lk m.1 vv
    ·rw[dx,om,aw rfl,qX (.inr (.inl rfl))]
    rw[ci,cq];by_cases hb:0<t.val.2.length
    ·rw[qX (by omega),om,aw rfl,qX (.inl hb)]
    rw[qW (by omega),om,cq]
    by_cases h60:60<=m.2.2.length
    ·rw[qX (by omega),qX (.inr (.inr (.inr (.inl h60))))]
    rw[qW (by omega),d8,qt1,zew fu hfu m hv,qB,cq]
    by_cases h2k:2000<(cg m).length
    ·rw[qX (by omega),qf2,aw rfl,qX (by omega)]
    rw[qW (by omega),zgs fu hfu _ ctn (by simp) hs.1.1,qB,zgr]
    have hv1:∃v,dr t.val.1 bt=[v]:=by
     unfold im at ht;split at ht
     ·rename_i v hv2;exact⟨v,hv2⟩
     ·cases ht
    obtain⟨v,hv1⟩:=hv1;rw[hv1,ag,show([v]:List Bs)[(0:Int).toNat]? = some v from rfl,qB,qf2,q88]
    by_cases he:v=cg m
    ·rw[qW (by rw[he];simp),qW (by
      rintro (q|q|q|q|q|q)
      ·exact hb q
      ·simp at q
      ·simp at q
      ·exact h60 q
      ·exact q (by rw[he])
      ·exact h2k q)];rfl
    ·rw[qX (by simpa using he),qX (.inr (.inr (.inr (.inr (.inl (by simpa using he))))))]
   ·rw[aw rfl,om,aw rfl,qX (.inr (.inr (.inl rfl)))]
 rw[qW (by omega),qW h1,cq]
 have hbl:=hs.2.2.2;by_cases h2:12000<t.val.2.length
 ·rw[qX (by omega),qX h2]
 rw[qW (by omega),qW h2,zd5 fu _,qB,fp]
 have hbv:(qck (bs 0 t.val.2)).1=bs 0 t.val.2:=by
  rcases zmx t.val.2.length t.val.2 0 (wF _) with h|h|h<;>rw[h]<;>rfl
 rw[hbv];by_cases h3:bs 0 t.val.2≠0
 ·rw[qX h3,qX h3]
 rw[qW h3,qW h3];obtain⟨R,g1,g2⟩:=zlp fu hfu t.val.1 hs.1.1;rw[g1,qB]
 cases hb:bnd t.val.1 with
 |none=>rw[hb]at g2;simp only at g2;rw[g2];rfl|some b=>
  rw[hb]at g2;simp only at g2 ⊢;subst g2;have:=q9f hb;rw[aw rfl,cq];by_cases hd:d<8
  ·rw[qX hd,ztz fu hfu t.val.2 b hbl (by omega),qB,cq]
   by_cases hc:0<(yz t.val.2 b).length
   ·rw[qX (by omega),qX ⟨hd,hc⟩]
   ·rw[qW (by omega),qW (fun q=>hc q.2)]
  ·rw[qW hd,qW (fun q=>hd q.1)]
def bh:Nat->TP->Int->List (TP×Int)|0,_,_=>[]|n+1,t,d=>(t,d)::t.kids.flatMap fun k=>bh n k (d+1)
def za0:∀(n:Nat)(t:TP)(d:Int),(bh n t d).length<=cm t:=by
 intro n
 induction n with
 |zero=>intro t d;simp[bh]|succ n ih=>
  intro t d;have key:∀l:List TP,(l.flatMap fun k=>bh n k (d+1)).length<=(l.map cm).sum:=by
   intro l
   induction l with
   |nil=>simp|cons k l ih2=>
    have:=ih k (d+1);rw[List.flatMap_cons,qM,List.map_cons,List.sum_cons];omega
  cases t with
  |node x l=>
   have:=key l;rw[bh,qL,ue];show(l.flatMap _).length+1<=_;omega
def zop:∀(n:Nat)(t:TP)(d:Int),∀x∈bh n t d,cm x.1<=cm t:=by
 intro n
 induction n with
 |zero=>intro t d x hx;cases hx
 |succ n ih=>
  intro t d x hx;rw[bh]at hx;rcases List.mem_cons.1 hx with e|e
  ·rw[e];exact wF _
  ·obtain⟨k,hk,hx2⟩:=List.mem_flatMap.1 e;have:=ih k (d+1) x hx2;have:=px hk;omega
def gd(t:TP):Prop:=cm t<=60000000/\∀n d,∀x∈bh n t d,mf x.1.val
def zo8{t:TP}(h:gd t):mf t.val:=h.2 1 0 (t,0) (by rw[bh];exact qH)
def zo7{t k:TP}(h:gd t)(hk:k∈t.kids):gd k:=⟨by have:=px hk;have:=h.1;omega,fun n d x hx=>h.2 (n+1) (d-1) x (by
 rw[bh];refine qE _ (List.mem_flatMap.2 ⟨k,hk,?_⟩);rw[show d-1+1=d by omega];exact hx)⟩
def zo6{t:TP}(h:cm t<=1048576:=by omega):gd t:=⟨by omega,fun n d x hx=>zvx _ (by have:=zop n t d x hx;have:=zw3 x.1;omega)⟩
def jz:List (TP×Int)->Nat->Bool->Option (Nat×Bool)|[],i,fl=>some (i,fl)|x::L,i,fl=>if 40<=i then none else jz L (i+1) (fl||decide (8<x.2))
def ze5:∀(L M:List (TP×Int))(i:Nat)(fl:Bool),jz (L++M) i fl=(jz L i fl).bind fun x=>jz M x.1 x.2
 |[],_,_,_=>rfl|x::L,M,i,fl=>by
  rw[wK,jz,jz];by_cases h:40<=i
  ·rw[qX h,qX h];rfl
  ·rw[qW h,qW h,ze5 L M]
def ze6:∀(L:List (TP×Int))(i:Nat)(fl:Bool)(x:Nat×Bool),i<=40->jz L i fl=some x->x.1<=40
 |[],_,_,_,h,e=>by cases e;exact h
 |y::L,i,fl,x,h,e=>by
  rw[jz]at e;by_cases h4:40<=i
  ·rw[qX h4]at e;cases e
  ·rw[qW h4]at e;exact ze6 L _ _ x (by omega) e
def ze7:∀(L:List (TP×Int))(i:Nat)(fl:Bool),i<=40->jz L i fl=if 40<i+L.length then none else some (i+L.length,fl||L.any fun x=>decide (8<x.2))
 |[],i,fl,h=>by rw[jz,qW (by simp;omega)];simp|x::L,i,fl,h=>by
  rw[jz];by_cases h4:40<=i
  ·rw[qX h4,qX (by simp only[qL];omega)]
  ·rw[qW h4,ze7 L _ _ (by omega)]
   by_cases h5:40<i+1+L.length
   ·rw[qX h5,qX (by simp only[qL];omega)]
   ·rw[qW h5,qW (by simp only[qL];omega),List.any_cons,Bool.or_assoc,qL,Nat.add_assoc,Nat.add_comm 1]
def zoa(fu:Nat)(hfu:90000000<=fu)(z:Int×Int):∀(n:Nat)(t:TP)(d i:Nat)(fl:Bool),cm t<=n->cm t+d<=70000000->i<=40 ->
  ∃R,qbt fu n t (d:Int) (i:Int) z fl=some R/\match jz (bh n t (d:Int)) i fl with
   |none=>∃a b,R = .inl (a,(((2:Int),(-1:Int)),b))|some x=>R = .inr ((x.1:Int),(z,x.2)):=by
 intro n
 induction n with
 |zero=>intro t d i fl h;have:=wn t;omega|succ n ih=>
  intro t d i fl hz hd hi;rw[qbt,qmr,qvp,bh,jz];by_cases h4:40<=i
  ·rw[ag,qX h4,pp];exact⟨_,rfl,_,_,rfl⟩
  rw[aq,qW h4]
  have hr0:(bif fl then some (.inr (z,true)) else some (.inr (z,decide ((8:Int)<(d:Int)))):Option q70)=some (.inr (z,fl||decide ((8:Int)<(d:Int)))):=by cases fl<;>rfl
  rw[hr0,qB];simp only[ch];rw[au i]
  have loop:∀(m:Nat)(ab aa:List TP)(i:Nat)(fl:Bool),t.kids=ab++aa->aa.length<m->i<=40 ->
    ∃R,qg8 (qbt fu n) fu m (d:Int) t.kids (t.kids.length:Int) (ab.length:Int) (i:Int) z fl=some R/\match jz (aa.flatMap fun k=>bh n k ((d:Int)+1)) i fl with
     |none=>∃a b,R = .inl (a,(((2:Int),(-1:Int)),b))|some x=>R = .inr ((x.1:Int),(z,x.2)):=by
   intro m
   induction m with
   |zero=>intro ab aa i fl _ h;omega|succ m ihm=>
    intro ab aa i fl hk h hi;have ac:t.kids.length=ab.length+aa.length:=by rw[hk];simp
    have hks:=qj2 t;rw[qg8,qvt]
    cases aa with
    |nil=>rw[aq (by simp only[qZ]at ac;omega)];exact⟨_,rfl,rfl⟩|cons k aa=>
     simp only[qL]at h ac;have hkm:k∈t.kids:=by rw[hk];simp
     have hx:am t.kids (ab.length:Int)=some k:=by rw[hk];exact bg ab k aa
     have hkz:=px hkm;rw[ag,hx,qB,d8,au d,List.flatMap_cons,ze5]
     obtain⟨R,g1,g2⟩:=ih k (d+1) i fl (by omega) (by omega) hi
     rw[g1,qB];rw[show((d+1:Nat):Int)=(d:Int)+1 by omega]at g2
     cases hr:jz (bh n k ((d:Int)+1)) i fl with
     |none=>
      rw[hr]at g2;obtain⟨a,b,rfl⟩:=g2;exact⟨_,rfl,a,b,rfl⟩
     |some x=>
      rw[hr]at g2;simp only at g2;subst g2;simp only[ch,qB];rw[au _]
      have:=ihm (ab++[k]) aa x.1 x.2 (by rw[hk];simp) (by omega) (ze6 _ _ _ _ hi hr)
      rw[qM,wD]at this;exact this
  have hks:=qj2 t;exact loop fu [] t.kids (i+1) _ rfl (by omega) (by omega)
def gf:List (TP×Int)->Nat->Option (Int×Int)|[],_=>none|x::L,i=>if jr x.1 x.2≠0 then some (jr x.1 x.2,(i:Int)) else gf L (i+1)
def ze8:∀(L M:List (TP×Int))(i:Nat),gf (L++M) i=match gf L i with|some f=>some f|none=>gf M (i+L.length)
 |[],_,_=>rfl|x::L,M,i=>by
  rw[wK,gf,gf];by_cases h:jr x.1 x.2≠0
  ·rw[qX h,qX h]
  ·rw[qW h,qW h,ze8 L M,qL,Nat.add_assoc,Nat.add_comm 1]
def zob(fu:Nat)(hfu:90000000<=fu)(z:Int×Int):∀(n:Nat)(t:TP)(d i:Nat),cm t<=n->cm t+d<=70000000->gd t->i+cm t<=70000000 ->
  ∃R,qbu fu n t (d:Int) (i:Int) z=some R/\match gf (bh n t (d:Int)) i with
   |some f=>∃a,R = .inl (a,f)|none=>R = .inr (((i+(bh n t (d:Int)).length:Nat):Int),z):=by
 intro n
 induction n with
 |zero=>intro t d i h;have:=wn t;omega|succ n ih=>
  intro t d i hz hd hs hi;have htp:=wn t;rw[qbu,qms,qvq];rw[show((t.val.1,t.val.2):List (Bs×Bs)×Bs)=t.val from rfl,d8,zm6 fu hfu t _ (zo8 hs),qB,bh,gf,fp]
  by_cases hc:jr t (d:Int)≠0
  ·rw[qX hc,qX hc,pp];exact⟨_,rfl,_,rfl⟩
  rw[qW hc,qW hc,qB];simp only[ch];rw[au i]
  have loop:∀(m:Nat)(ab aa:List TP)(i:Nat),t.kids=ab++aa->aa.length<m->i+(aa.map cm).sum<=70000000 ->
    ∃R,qg9 (qbu fu n) fu m (d:Int) t.kids (t.kids.length:Int) (ab.length:Int) (i:Int) z=some R/\match gf (aa.flatMap fun k=>bh n k ((d:Int)+1)) i with
     |some f=>∃a,R = .inl (a,f)|none=>R = .inr (((i+(aa.flatMap fun k=>bh n k ((d:Int)+1)).length:Nat):Int),z):=by
   intro m
   induction m with
   |zero=>intro ab aa i _ h;omega|succ m ihm=>
    intro ab aa i hk h hi;have ac:t.kids.length=ab.length+aa.length:=by rw[hk];simp
    have hks:=qj2 t;rw[qg9,qvu]
    cases aa with
    |nil=>rw[aq (by simp only[qZ]at ac;omega)];exact⟨_,rfl,rfl⟩|cons k aa=>
     simp only[qL]at h ac;simp only[List.map_cons,List.sum_cons]at hi;have hkm:k∈t.kids:=by rw[hk];simp
     have hx:am t.kids (ab.length:Int)=some k:=by rw[hk];exact bg ab k aa
     have hkz:=px hkm;have hfl:=za0 n k ((d:Int)+1);rw[ag,hx,qB,d8,au d,List.flatMap_cons,ze8]
     obtain⟨R,g1,g2⟩:=ih k (d+1) i (by omega) (by omega) (zo7 hs hkm) (by omega)
     rw[g1,qB];rw[show((d+1:Nat):Int)=(d:Int)+1 by omega]at g2
     cases hr:gf (bh n k ((d:Int)+1)) i with
     |some f=>
      rw[hr]at g2;obtain⟨a,rfl⟩:=g2;exact⟨_,rfl,a,rfl⟩
     |none=>
      rw[hr]at g2;simp only at g2;subst g2;simp only[ch];rw[au _]
      have:=ihm (ab++[k]) aa (i+(bh n k ((d:Int)+1)).length) (by rw[hk];simp) (by omega) (by omega)
      rw[qM,wD]at this;rw[qM,← Nat.add_assoc];exact this
  have hks:=qj2 t;have hsum:(t.kids.map cm).sum+2<=cm t:=by cases t;rw[ue];show(List.map cm _).sum+2<=_;simp only[Tree.kids];omega
  obtain⟨R,g1,g2⟩:=loop fu [] t.kids (i+1) rfl (by omega) (by omega)
  refine⟨R,g1,?_⟩;rw[qL,show i+((t.kids.flatMap fun k=>bh n k ((d:Int)+1)).length+1)=i+1+(t.kids.flatMap fun k=>bh n k ((d:Int)+1)).length by omega]
  exact g2
def n9(n:Nat)(t:TP):Int×Int:=if 40<(bh n t 0).length then(2,-1) else if(bh n t 0).any (fun x=>decide (8<x.2))=true then(2,-2) else(gf (bh n t 0) 0).getD (0,0)
def ztj(fu:Nat)(hfu:90000000<=fu)(t:TP)(hs:gd t):qbr fu t=some (n9 fu t):=by
 have hz:=hs.1;unfold qbr qmp;simp only[d8,qB];obtain⟨R,g1,g2⟩:=zoa fu hfu (0,0) fu t 0 0 false (by omega) (by omega) (by omega)
 rw[show((0:Nat):Int)=0 from rfl,ze7 _ _ _ (by omega),wO]at g2
 rw[show((0:Nat):Int)=0 from rfl]at g1
 have e1:qmq fu t (0,0) false=R.elim (fun a2=>some (.inl (t,a2.2))) (fun b3=>some (.inr (t,b3.2))):=by
  unfold qmq q6y;simp only[d8];rw[g1,qB];cases R<;>rfl
 rw[e1];unfold n9;by_cases h4:40<(bh fu t 0).length
 ·rw[qX h4]at g2;obtain⟨a,b,rfl⟩:=g2;rw[qX h4];rfl
 rw[qW h4]at g2;simp only at g2;subst g2;rw[qW h4];simp only[Sum.elim_inr,qB,ch,Bool.false_or];cases hany:(bh fu t 0).any fun x=>decide (8<x.2)
 ·rw[ay rfl,qW (by simp)]
  obtain⟨R2,q1,q2⟩:=zob fu hfu (0,0) fu t 0 0 (by omega) (by omega) hs (by omega)
  rw[show((0:Nat):Int)=0 from rfl]at q1 q2
  have e2:qmt fu t (0,0)=R2.elim (fun a2=>some (.inl (t,a2.2))) (fun b3=>some (.inr (t,b3.2))):=by
   unfold qmt q6z;simp only[d8];rw[q1,qB];cases R2<;>rfl
  rw[e2]
  cases hr:gf (bh fu t 0) 0 with
  |some f=>
   rw[hr]at q2;obtain⟨a,rfl⟩:=q2;rfl
  |none=>rw[hr]at q2;simp only at q2;subst q2;rfl
 ·rw[aw rfl,qX rfl];rfl
def zoq(fu:Nat)(hfu:90000000<=fu):∀(n:Nat)(t:TP)(d:Nat),cm t<=n->cm t+d<=70000000->cm t<=60000000 ->
  qa7 fu n t (d:Int)=some ((bh n t (d:Int)).map (·.1),(bh n t (d:Int)).map (·.2)):=by
 have hrm:=ge;intro n
 induction n with
 |zero=>intro t d h;have:=wn t;omega|succ n ih=>
  intro t d hz hd hs;rw[qa7,qlr,bh];simp only[d8];have hks:=qj2 t;have hsum:(t.kids.map cm).sum+2<=cm t:=by cases t;rw[ue];show(List.map cm _).sum+2<=_;simp only[Tree.kids];omega
  have loop:∀(m:Nat)(ab aa:List TP)(o:List (TP×Int)),t.kids=ab++aa->aa.length<m->o.length+(aa.map cm).sum<=70000000 ->
    qfy (qa7 fu n) fu m (d:Int) (ab.length:Int) t (o.map (·.1)) (o.map (·.2))=some ((o++aa.flatMap fun k=>bh n k ((d:Int)+1)).map (·.1),(o++aa.flatMap fun k=>bh n k ((d:Int)+1)).map (·.2)):=by
   intro m
   induction m with
   |zero=>intro ab aa o _ h;omega|succ m ihm=>
    intro ab aa o hk h ho;have ac:t.kids.length=ab.length+aa.length:=by rw[hk];simp
    rw[qfy,qtt]
    cases aa with
    |nil=>rw[aq (by simp only[qZ]at ac;omega)];simp|cons k aa=>
     simp only[qL]at h ac;simp only[List.map_cons,List.sum_cons]at ho;have hkm:k∈t.kids:=by rw[hk];simp
     have hx:am t.kids (ab.length:Int)=some k:=by rw[hk];exact bg ab k aa
     have hkz:=px hkm;have hfl:=za0 n k ((d:Int)+1);rw[ag,hx,qB,d8,au d,ih k (d+1) (by omega) (by omega) (by omega),qB,show((d+1:Nat):Int)=(d:Int)+1 by omega]
     simp only[d8];rw[ag,ag,au _,← List.map_append,← List.map_append]
     have:=ihm (ab++[k]) aa (o++bh n k ((d:Int)+1)) (by rw[hk];simp) (by omega) (by rw[qM];omega)
     rw[qM,wD]at this;rw[List.flatMap_cons,← qS];exact this
  have:=loop fu [] t.kids [(t,(d:Int))] rfl (by omega) (by simp;omega)
  exact this
def zsr(fu n:Nat)(hfu:90000000<=fu)(L:List (TP×Int))(hL:L.length<=40)(hs:∀x∈L,mf x.1.val)(z:Int×Int):∀(ab aa:List (TP×Int)),L=ab++aa->aa.length<n ->
  qf4 fu n (L.map (·.1)) (L.map (·.2)) (ab.length:Int) z=some ((gf aa ab.length).getD (0,0)):=by
 induction n with
 |zero=>intro ab aa _ h;omega|succ n ih=>
  intro ab aa hp h;have ac:L.length=ab.length+aa.length:=by rw[hp];simp
  rw[qf4,qt3]
  cases aa with
  |nil=>rw[aq (by rw[wC];simp only[qZ]at ac;omega)];rfl|cons x aa=>
   simp only[qL]at h ac
   have i1:am (L.map (·.1)) (ab.length:Int)=some x.1:=by
    have:=bg (ab.map (·.1)) x.1 (aa.map (·.1));rw[wC]at this;rw[hp,List.map_append,List.map_cons];exact this
   have i2:am (L.map (·.2)) (ab.length:Int)=some x.2:=by
    have:=bg (ab.map (·.2)) x.2 (aa.map (·.2));rw[wC]at this;rw[hp,List.map_append,List.map_cons];exact this
   have hx:=hs x (by rw[hp];simp)
   rw[ag (by rw[wC];omega),i1,qB,i2,qB,d8,zsm fu hfu x.1 x.2 hx,qB,fp,gf]
   by_cases hc:jr x.1 x.2≠0
   ·rw[qX hc,qX hc,t7];rfl
   ·rw[qW hc,qW hc,au _]
    have:=ih (ab++[x]) aa (by rw[hp];simp) (by omega)
    rw[qM,wD]at this;exact this
def zsq(fu n:Nat)(hfu:90000000<=fu)(L:List (TP×Int))(hL:L.length<=40)(hs:∀x∈L,mf x.1.val)(z:Int×Int):∀(ab aa:List (TP×Int)),L=ab++aa->aa.length<n ->
  qf3 fu n (L.map (·.1)) (L.map (·.2)) (ab.length:Int) z=some (if aa.any (fun x=>decide (8<x.2))=true then(2,-2) else(gf L 0).getD (0,0)):=by
 induction n with
 |zero=>intro ab aa _ h;omega|succ n ih=>
  intro ab aa hp h;have ac:L.length=ab.length+aa.length:=by rw[hp];simp
  rw[qf3,qt2]
  cases aa with
  |nil=>
   rw[aq (by rw[wC];simp only[qZ]at ac;omega)]
   exact zsr fu fu hfu L hL hs z [] L rfl (by omega)
  |cons x aa=>
   simp only[qL]at h ac
   have i2:am (L.map (·.2)) (ab.length:Int)=some x.2:=by
    have:=bg (ab.map (·.2)) x.2 (aa.map (·.2));rw[wC]at this;rw[hp,List.map_append,List.map_cons];exact this
   rw[ag (by rw[wC];omega),i2,qB,cq,List.any_cons]
   by_cases hc:8<x.2
   ·rw[qX hc,t7,decide_eq_true hc,Bool.true_or,qX rfl];rfl
   ·rw[qW hc,decide_eq_false hc,Bool.false_or,au _]
    have:=ih (ab++[x]) aa (by rw[hp];simp) (by omega)
    rw[qM,wD]at this;exact this
def zsn(fu:Nat)(hfu:90000000<=fu)(t:TP)(hs:gd t):qlw fu t=some (n9 fu t):=by
 unfold qlw q55 n9;simp only[d8];have hz:=hs.1;have:=zoq fu hfu fu t 0 (by omega) (by omega) hs.1
 rw[show((0:Nat):Int)=0 from rfl]at this
 rw[this,qB];simp only;rw[cq,wC];by_cases h4:40<(bh fu t 0).length
 ·rw[qX (by omega),qX h4,t7];rfl
 ·rw[qW (by omega),qW h4]
  exact zsq fu fu hfu _ (by omega) (fun x hx=>hs.2 fu 0 x hx) (0,0) [] _ rfl (by omega)

section sec
variable(fu:Nat)(hfu:90000000<=fu)(path:List Int)(hp:path.length<=2000000)(z:Int×Int)
include hfu hp
end sec
def ze9:∀(L:List (TP×Int))(i:Nat)(f:Int×Int),gf L i=some f->f.1≠0/\∃x∈L,f.1=jr x.1 x.2
 |[],_,_,h=>by cases h
 |x::L,i,f,h=>by
  rw[gf]at h;by_cases hc:jr x.1 x.2≠0
  ·rw[qX hc]at h;cases h;exact⟨hc,x,qH,rfl⟩
  ·rw[qW hc]at h;obtain⟨h1,y,h2,h3⟩:=ze9 L _ _ h;exact⟨h1,y,qE _ h2,h3⟩
def g8(l:List az)(t:Bs):List az:=l.map fun x=>if lk x.1 bt=true then(x.1,t) else x
def zue{l ab aa:List az}{x:az}(t:Bs)(e:l=ab++x::aa)(hx:lk x.1 bt=true)(h1:dr ab bt=[])(h2:dr aa bt=[]):g8 l t=ab++(x.1,t)::aa:=by
 have idm:∀l:List az,dr l bt=[]->(l.map fun x=>if lk x.1 bt=true then(x.1,t) else x)=l:=by
  intro l
  induction l with
  |nil=>intro _;rfl|cons y l ih=>
   intro h;rw[wq]at h;by_cases hk:(y.1.map lo==bt.map lo)=true
   ·rw[qX hk]at h;cases h
   ·rw[qW hk]at h;rw[List.map_cons,ih h,qW (show ¬lk y.1 bt=true from hk)]
 subst e;unfold g8;rw[List.map_append,List.map_cons,idm ab h1,idm aa h2,qX hx]
def zug(fu n:Nat)(hfu:90000000<=fu)(l:List az)(hs:∀x∈l,x.1.length<=4000000)(hl:l.length<=4000000)(t:Bs):∀(ab aa:List az),l=ab++aa->aa.length<n ->
  qf6 fu n l t (ab.length:Int) (g8 ab t)=some (g8 l t):=by
 have hrm:=ge
 induction n with
 |zero=>intro ab aa _ h;omega|succ n ih=>
  intro ab aa hp h;have ac:l.length=ab.length+aa.length:=by rw[hp];simp
  have hrl:(g8 ab t).length=ab.length:=by unfold g8;simp
  rw[qf6,qub]
  cases aa with
  |nil=>rw[aq (by simp only[qZ]at ac;omega),hp,List.append_nil]|cons y w=>
   simp only[qL]at h ac;have hx:am l (ab.length:Int)=some y:=by rw[hp];exact bg ab y w
   have st:=ih (ab++[y]) w (by rw[hp];simp) (by omega)
   rw[qM,wD]at st;have hr:g8 (ab++[y]) t=g8 ab t++[if lk y.1 bt=true then(y.1,t) else y]:=by unfold g8;rw[List.map_append];rfl
   rw[ag,hx,qB,ve fu hfu _ _ (hs y (by rw[hp];simp)) (by simp),qB,au _]
   rw[hr]at st;have hck:lk y.1 ctn=lk y.1 bt:=rfl;show(bif lk y.1 ctn then _ else _)=_
   rw[hck];cases hk:lk y.1 bt
   ·rw[ay rfl,ag];rw[hk]at st;simpa using st
   ·rw[aw rfl,ag];rw[hk]at st;simpa using st
def zuf(fu:Nat)(hfu:90000000<=fu)(l:List az)(hs:∀x∈l,x.1.length<=4000000)(hl:l.length<=4000000)(t:Bs):qua fu l t=some (g8 l t):=
 zug fu fu hfu l hs hl t [] l rfl (by omega)
def Mo(l:List az)(b:Bs):Prop:=l.length<=60/\(∀y∈l,y.1.length<=12000/\y.2.length<=12000)/\b.length<=12000
abbrev cN0:Nat:=1452200
def zbd(M:Nat):∀l:List az,(∀y∈l,y.1.length<=M/\y.2.length<=M)->(l.map nv).sum<=(2*M+2)*l.length
 |[],_=>by simp|x::l,h=>by
  have h1:=h x qH;have:=zbd M l (fun y hy=>h y (qE _ hy))
  rw[List.map_cons,List.sum_cons,qL,Nat.mul_succ];unfold nv at this ⊢;omega
def bkP(f:List az)(b:Bs):τP.bk (f,b)=((f.map nv).sum+1)+(b.length+1):=by
 have:=qqv b;show((f.map nv).sum+1)+((List.map (Ty.byte.bk:Ty.byte.den->Nat) b).sum+1)=_;rw[this]
def Mo.sz{f:List az}{b:Bs}(h:Mo f b)(l:List TP):cm (.node (f,b) l)<=cN0+(l.map cm).sum:=by
 have e:cm (.node (f,b) l)=((f.map nv).sum+1)+(b.length+1)+(l.map cm).sum+2:=(ue (f,b) l).trans (congrArg (fun z=>z+(l.map cm).sum+2) (bkP f b))
 rw[e];have h1:=zbd 12000 f h.2.1;have h2:(2*12000+2)*f.length<=(2*12000+2)*60:=Nat.mul_le_mul_left _ h.1;have:=h.2.2;show _<=1452200+_;omega

end Go.Sym
