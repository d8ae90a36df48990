/- What the claim rests on, part 5: gathered texts. -/
import Derived.Sort.AssemblyPlain
import Derived.Test.YtiidadfafmcdmaaGreatDoorSyF3
set_option maxRecDepth 100000
set_option linter.defProp false
set_option linter.unusedSimpArgs false
set_option linter.unusedVariables false
namespace Go.Sym
def d7{x:Int}(h1 : -9223372036854775808<=x:=by omega)(h2:x<9223372036854775808:=by omega):af x=x:=by
 unfold af IntKind.wrap;simp[IntKind.signed,IntKind.bits];omega
def au{α:Type}{b:Bool}{x y:α}(h:b=true:=by first|rfl|simp;done):(bif b then x else y)=x:=by subst h;rfl
def ax{α:Type}{b:Bool}{x y:α}(h:b=false):(bif b then x else y)=y:=by subst h;rfl
def bu{α:Type}{p:Prop}[Decidable p]{x y:α}:(bif decide p then x else y)=if p then x else y:=by by_cases h:p<;>simp[h]
def ag{α:Type}{p:Prop}[Decidable p]{x y:α}(h:p):(bif decide p then x else y)=x:=au (decide_eq_true h)
def ap{α:Type}{p:Prop}[Decidable p]{x y:α}(h:¬p:=by first|omega|simp;done|simp;omega):(bif decide p then x else y)=y:=ax (decide_eq_false h)
def q95{α:Type}{b:Bool}{x y:α}:(bif !b then x else y)=if b=false then x else y:=by cases b<;>rfl
def fh{α:Type}{a b:Int}{x y:α}:(bif a != b then x else y)=if a≠b then x else y:=by
 by_cases h:a=b
 ·rw[ax (by simp[h]),qW (by simp[h])]
 ·rw[au (by simp[h]),qX h]
def gv{α:Type}{a b:Int}{x y:α}:(bif a==b then x else y)=if a=b then x else y:=by
 by_cases h:a=b
 ·rw[au (by simp[h]),qX h]
 ·rw[ax (by simp[h]),qW h]
def jz{α:Type}{a b:UInt8}{x y:α}:(bif a==b then x else y)=if a=b then x else y:=by
 by_cases h:a=b
 ·rw[au (by simp[h]),qX h]
 ·rw[ax (by simp[h]),qW h]
def wj{α:Type}{a b:UInt8}{x y:α}:(bif a != b then x else y)=if a≠b then x else y:=by
 by_cases h:a=b
 ·rw[ax (by simp[h]),qW (by simp[h])]
 ·rw[au (by simp[h]),qX h]
def q3m{α:Type}{p:Prop}[Decidable p]{x y:α}:(if p then some x else some y)=some (if p then x else y):=by split<;>rfl
def jo{α β:Type}(l:List α)(i:Int)(f:α->Option β):(bif decide (0<=i/\i.toNat<List.length l) then(l[i.toNat]?).bind f else none)=(am l i).bind f:=by
 unfold am;by_cases h:0<=i
 ·by_cases h2:i.toNat<l.length
  ·simp[h,h2]
  ·simp[h,h2]
 ·simp[h]
def wv{α:Type}(l:List α)(k:Nat)(h:k<l.length):am l (k:Int)=some l[k]:=by
 unfold am;rw[qX (by omega)];simp[h]
def bf{α:Type}(ab:List α)(c:α)(aa:List α):am (ab++c::aa) (ab.length:Int)=some c:=by
 unfold am;rw[qX (by omega)];simp
def ii{α:Type}(ab:List α)(c:α)(aa:List α):(ab++c::aa)[((ab.length:Nat):Int).toNat]? = some c:=by simp
def qk{α:Type}(ab:List α)(c d:α)(aa:List α):List.set (ab++c::aa) ((ab.length:Nat):Int).toNat d=ab++d::aa:=by simp
def aw(k:Nat)(h:k<9223372036854775807:=by omega):af ((k:Int)+1)=((k+1:Nat):Int):=by rw[d7];omega
def pl(P:UInt8->Prop)(h:∀n:_root_.Fin 256,P (UInt8.ofNat n.val))(c:UInt8):P c:=by
 have:=h ⟨c.toNat,c.toNat_lt⟩;simpa using this
def lo(c:UInt8):UInt8:=if 65<=c/\c<=90 then c+32 else c
def bl(c:UInt8):Bool:=c==32||c==9
def et(l:List UInt8):List UInt8:=(l.reverse.dropWhile bl).reverse
def be(l:List UInt8):List UInt8:=l.dropWhile bl
def fp(l:List UInt8):List UInt8:=et (be l)
def qem(t:List UInt8)(c:UInt8):et (t++[c])=if bl c then et t else t++[c]:=by
 unfold et;rw[List.reverse_append,List.reverse_singleton,wM,List.dropWhile];cases bl c
 ·simp
 ·simp
def jp(n:Nat)(h:n<1000000000:=by omega):af (((n+1:Nat):Int)-1)=(n:Int):=by rw[d7];omega
def qap{α:Type}(t:List α)(c:α):am (t++[c]) (t.length:Int)=some c:=bf t c []
def qeu{α:Type}(t:List α)(c:α):List.take ((t.length:Nat):Int).toNat (t++[c])=t:=by simp
def ji{α:Type}(t:List α)(c:α):((t++[c]).length:Int)=((t.length+1:Nat):Int):=by simp
def r7{α:Type}(ab:List α)(aa:List α):List.drop ((ab.length:Nat):Int).toNat (ab++aa)=aa:=by simp
def qm{α:Type}(ab:List α)(aa:List α):List.take ((ab.length:Nat):Int).toNat (ab++aa)=ab:=by simp
def qdz{α:Type}(ab:List α)(c:α)(aa:List α):List.drop ((ab.length+1:Nat):Int).toNat (ab++c::aa)=aa:=by
 rw[show((ab.length+1:Nat):Int).toNat=(ab++[c]).length by simp,show ab++c::aa=(ab++[c])++aa by simp]
 simp
def cd{α:Type}(ab:List α)(c:α)(aa:List α):((ab++c::aa).length:Int)=((ab.length+aa.length+1:Nat):Int):=by simp;omega
def um{α:Type}(ab:List α)(aa:List α):((ab++aa).length:Int)=((ab.length+aa.length:Nat):Int):=by simp
def wt(k:UInt8)(t r:List UInt8)(h:∀x∈t,x≠k):Lib.indexByte (t++k::r) k=(t.length:Int):=by
 induction t with
 |nil=>simp[Lib.indexByte]|cons c t ih=>
  have hc:=h c qH;rw[wK,Lib.indexByte,ih (fun x hx=>h x (qE _ hx)),qW (by simpa using hc),qW (by simp<;>omega)]
  simp
def wu(k:UInt8)(t:List UInt8)(h:∀x∈t,x≠k):Lib.indexByte t k = -1:=by
 induction t with
 |nil=>rfl|cons c t ih=>
  have hc:=h c qH;rw[Lib.indexByte,ih (fun x hx=>h x (qE _ hx)),qW (by simpa using hc),qX (by decide)]
def mb(k:UInt8):∀(s:List UInt8),(∃t r,s=t++k::r/\∀x∈t,x≠k)\/∀x∈s,x≠k
 |[] => .inr (fun _ h=>by cases h)
 |c::s=>by
  by_cases hc:c=k
  ·subst hc;exact .inl ⟨[],s,rfl,fun _ h=>by cases h⟩
  ·rcases mb k s with⟨t,r,rfl,h⟩|h
   ·exact .inl ⟨c::t,r,rfl,fun x hx=>(List.mem_cons.1 hx).elim (fun e=>e▸hc) (h x)⟩
   ·exact .inr fun x hx=>(List.mem_cons.1 hx).elim (fun e=>e▸hc) (h x)
def zch(k:UInt8)(s:List UInt8):(0<=Lib.indexByte s k)↔k∈s:=by
 rcases mb k s with⟨t,r,rfl,h⟩|h
 ·rw[wt k t r h];simp
 ·rw[wu k s h];constructor
  ·intro h;omega
  ·intro hk;exact absurd rfl (h k hk)
def cr{α:Type}{x y:α}:(bif !false then x else y)=x:=rfl
def bn{α:Type}{x y:α}:(bif !true then x else y)=y:=rfl
def qpn(a b:UInt8):(a==b)=(b==a):=by
 by_cases h:a=b
 ·rw[h]
 ·rw[beq_false_of_ne h,beq_false_of_ne (Ne.symm h)]
def zab{a b:Nat}(h:a<b):Nat.blt a b=true:=Nat.ble_eq_true_of_le h
def zaa{a b:Nat}(h:¬a<b):Nat.blt a b=false:=by
 cases hq:Nat.blt a b
 ·rfl
 ·exact absurd (Nat.le_of_ble_eq_true hq) h
def q1c(l:List UInt8)(k:Nat)(c:UInt8)(h:l[k]? = some c):(⟨l.toArray⟩:ByteArray).get! k=c:=by
 obtain⟨hk,rfl⟩:=List.getElem?_eq_some_iff.1 h;show(l.toArray)[k]! = _;simp[hk]
def zv5(l:List UInt8):(⟨l.toArray⟩:ByteArray).size=l.length:=by simp[ByteArray.size]
def zeq(s:List UInt8)(p:Nat)(c:UInt8)(h:s[p]? = some c)(hc:c.toNat<128):e7 s p=(c.toNat,1):=by
 unfold e7 Utf8.decode;simp only[Nat.add_zero,q1c s p c h,hc,if_true]
def zt6(s:List UInt8)(p:Nat)(c:UInt8)(h:s[p]? = some c)(hc:128<=c.toNat):128<=(e7 s p).1/\1<=(e7 s p).2/\∀j,j<(e7 s p).2->∃d,s[p+j]? = some d/\128<=d.toNat:=by
 have hn:¬c.toNat<128:=by omega
 have cont:∀k,(decide (p+k<(⟨s.toArray⟩:ByteArray).size)&&((⟨s.toArray⟩:ByteArray).get! (p+k)).toNat/64==2)=true->∃d,s[p+k]? = some d/\128<=d.toNat:=by
  intro k hk;simp only[qA,decide_eq_true_eq,beq_iff_eq,zv5]at hk;obtain⟨h1,h2⟩:=hk;refine⟨s[p+k],by simp[h1],?_⟩
  rw[q1c s (p+k) s[p+k] (by simp[h1])]at h2
  omega
 have z:∀j,j<1->∃d,s[p+j]? = some d/\128<=d.toNat:=fun j hj=>by
  obtain rfl:j=0:=by omega
  exact⟨c,h,hc⟩
 unfold e7 Utf8.decode;simp only[Nat.add_zero,q1c s p c h,hn,if_false];split
 ·rename_i hk;simp only[qA]at hk;have c1:=cont 1 (by simpa using hk.2)
  split
  ·rename_i hge;refine⟨hge,by simp,fun j hj => ?_⟩
   match j,hj with|0,_=>exact⟨c,h,hc⟩|1,_=>exact c1
  ·exact⟨by simp[Utf8.runeError],wF _,z⟩
 ·split
  ·rename_i hk;simp only[qA]at hk;have c1:=cont 1 (by simpa using hk.1.2)
   have c2:=cont 2 (by simpa using hk.2)
   split
   ·rename_i hge;simp only[qA,decide_eq_true_eq]at hge;refine⟨by simp only;omega,by simp,fun j hj => ?_⟩
    match j,hj with|0,_=>exact⟨c,h,hc⟩|1,_=>exact c1|2,_=>exact c2
   ·exact⟨by simp[Utf8.runeError],wF _,z⟩
  ·split
   ·rename_i hk;simp only[qA]at hk;have c1:=cont 1 (by simpa using hk.1.1.2)
    have c2:=cont 2 (by simpa using hk.1.2)
    have c3:=cont 3 (by simpa using hk.2)
    split
    ·rename_i hge;simp only[qA,decide_eq_true_eq]at hge;refine⟨by simp only;omega,by simp,fun j hj => ?_⟩
     match j,hj with|0,_=>exact⟨c,h,hc⟩|1,_=>exact c1|2,_=>exact c2|3,_=>exact c3
    ·exact⟨by simp[Utf8.runeError],wF _,z⟩
   ·exact⟨by simp[Utf8.runeError],wF _,z⟩
def zua(n:Int)(h:128<=n):∃t c,ot n=t++[c]/\128<=c.toNat/\t.length<=3:=by
 unfold ot Utf8.encode;have hc:∀c:Nat,(if Utf8.valid n=true then n.toNat else Utf8.runeError)=c->128<=c:=by
  intro c hc;split at hc
  ·omega
  ·subst hc;decide
 have last:∀m:Nat,128<=(UInt8.ofNat (0x80+m%64)).toNat:=fun m=>by
  simp only[UInt8.toNat_ofNat'];omega
 generalize hq:(if Utf8.valid n=true then n.toNat else Utf8.runeError)=c
 have hc:=hc c hq;simp only[];rw[qW (by omega)]
 split
 ·exact⟨[_],_,rfl,last _,by simp⟩
 ·split
  ·exact⟨[_,_],_,rfl,last _,by simp⟩
  ·exact⟨[_,_,_],_,rfl,last _,by simp⟩
def zre(c:UInt8):(c+97)-65=c+32:=by
 rw[UInt8.sub_eq_add_neg,UInt8.add_assoc];rfl
def zc1(fu:Nat):∀(n:Nat)(ab aa:List UInt8),aa.length<n->ab.length+aa.length<=9223372036854775807 ->
  qci fu n ((ab.length+aa.length:Nat):Int) (ab.length:Int) (ab++aa)=some (ab++aa.map lo)
 |0,_,_,h,_=>absurd h (by omega)|n+1,ab,[],_,_=>by simp[qci,qnd]|n+1,ab,c::aa,h,hb=>by
  simp only[qL]at h hb;have ih:=fun d=>zc1 fu n (ab++[d]) aa (by omega) (by simp;omega)
  simp only[qM,qL,qZ,qS,wM,wO]at ih;have e:((ab.length+(c::aa).length:Nat):Int)=((ab.length+1+aa.length:Nat):Int):=by simp only[qL];omega
  have hl:0<=(ab.length:Int)/\(ab.length:Int).toNat<(ab++c::aa).length:=by simp
  rw[e];simp only[qci,qnd];rw[ag (by omega),ag hl,ii,qB,qk,aw _,bu,bu,ih,ih,ag hl,qB]
  unfold lo;simp only[List.map_cons,zre];by_cases h1:(65:UInt8)<=c
  ·by_cases h2:c<=90
   ·simp[h1,h2]
   ·simp[h1,h2]
  ·simp[h1]
def zc0(fu:Nat)(s:List UInt8)(h:s.length<fu)(hb:s.length<=maxLen):qhh fu s=some (s.map lo):=by
 unfold qhh;rw[ag hb];have:=zc1 fu fu [] s h (by simpa [maxLen] using hb)
 simpa using this
def np(x a b:Int):fq x a b=some (decide (a<=x/\x<=b)):=by
 unfold fq;by_cases h:a<=x<;>simp[h]
def zgt(a b:UInt8):((a.toNat:Int)<=(b.toNat:Int))↔a<=b:=by rw[UInt8.le_iff_toNat_le];omega
def zek(fu:Nat):∀(n:Nat)(ab aa:List UInt8),aa.length<n->ab.length+aa.length<=9223372036854775807 ->
  qbo fu n (ab.length:Int) (ab++aa)=some (ab++aa.map lo)
 |0,_,_,h,_=>absurd h (by omega)|n+1,ab,[],_,_=>by simp[qbo,qmg]|n+1,ab,c::aa,h,hb=>by
  simp only[qL]at h hb;have ih:=fun d=>zek fu n (ab++[d]) aa (by omega) (by simp;omega)
  simp only[qM,qL,qZ,qS,wM,wO]at ih;have hl:0<=(ab.length:Int)/\(ab.length:Int).toNat<(ab++c::aa).length:=by simp
  simp only[qbo,qmg];rw[ag (by simp;omega),ag hl,ii,qB,np,qB,aw _,bu,ag hl,qB,ag hl,qB,qk,ih,ih]
  unfold lo;simp only[List.map_cons];have e1:=zgt 65 c;have e2:=zgt c 90;have q1:((65:UInt8).toNat:Int)=65:=rfl;have q2:((90:UInt8).toNat:Int)=90:=rfl;rw[q1]at e1;rw[q2]at e2;by_cases h1:(65:UInt8)<=c/\c<=90
  ·rw[qX ⟨e1.2 h1.1,e2.2 h1.2⟩,qX h1]
  ·rw[qW (fun q=>h1 ⟨e1.1 q.1,e2.1 q.2⟩),qW h1]
def qrq(fu:Nat)(s:List UInt8)(h:s.length<fu)(hb:s.length<=maxLen):ve fu s=some (s.map lo):=by
 unfold ve;rw[ag hb];have:=zek fu fu [] s h (by simpa [maxLen] using hb)
 simpa using this
def znj(fu:Nat)(a b:List UInt8)(ha:a.length<fu)(hb:b.length<fu)(ha':a.length<=maxLen)(hb':b.length<=maxLen):ld fu a b=some (a.map lo==b.map lo):=by
 unfold ld;rw[gv,zc0 fu a ha ha',zc0 fu b hb hb'];by_cases h:(a.length:Int)=b.length
 ·rw[qX h];rfl
 ·rw[qW h];have:(a.map lo==b.map lo)=false:=by
   rw[beq_eq_false_iff_ne];intro q;apply h;have:=congrArg List.length q;simp only[wC]at this;omega
  rw[this]
def q9m(fu:Nat)(a b:List UInt8)(ha:a.length<fu)(hb:b.length<fu)(ha':a.length<=maxLen)(hb':b.length<=maxLen):jc fu a b=some (a.map lo==b.map lo):=by
 unfold jc;rw[qrq fu a ha ha',qrq fu b hb hb'];rfl
def zw9(c:UInt8):gn (c.toNat:Int)=c:=by
 unfold gn;have:=c.toNat_lt;rw[show((c.toNat:Int)%256).toNat=c.toNat by omega]
 simp
def zf6(s:List UInt8)(c:UInt8):qir s c=some (Lib.indexByte s c):=rfl
def zql(fu:Nat)(cs:List UInt8)(c:UInt8)(h:c.toNat<128):v7 fu cs (c.toNat:Int)=some (Lib.indexByte cs c):=by
 unfold v7 qis;rw[ag (by omega),ag (by omega),zw9,zf6];rfl
def zqj(fu n:Nat):∀(cs:List UInt8)(p:Nat),(∀c∈cs,c.toNat<128)->cs.length-p<n->p<=cs.length->qit fu n cs p=some (-1):=by
 induction n with
 |zero=>intro cs p _ h;omega|succ n ih=>
  intro cs p hA h hp;rw[qit,qxt];by_cases hlt:p<cs.length
  ·have e:cs[p]? = some cs[p]:=List.getElem?_eq_getElem hlt;have hc:=hA cs[p] (List.getElem_mem hlt);rw[au (zab hlt),zeq cs p _ e hc,gv,qW (by simp only;omega)]
   exact ih cs (p+1) hA (by omega) (by omega)
  ·rw[ax (zaa hlt)]
def zqk(fu:Nat)(cs:List UInt8)(r:Int)(hr:128<=r)(hA:∀c∈cs,c.toNat<128)(hfu:cs.length<fu)(hb:cs.length<1000):v7 fu cs r=some (-1):=by
 unfold v7 qis;rw[ag (by omega),ap,gv]
 by_cases h1:r=65533
 ·rw[qX h1];exact zqj fu fu cs 0 hA (by omega) (by omega)
 rw[qW h1];have hv:∃b,qox r=some b:=by
  unfold qox;simp only[bu]
  repeat' split
  all_goals exact⟨_,rfl⟩
 obtain⟨b,hv⟩:=hv;rw[hv,qB];cases b
 ·rfl
 rw[show(!true)=false from rfl,qF]
 obtain⟨t,c,e,hc,ht⟩:=zua r hr;rw[e,ji,jp _]
 obtain⟨n,rfl⟩:∃n,fu=n+1:=⟨fu-1,by omega⟩
 rw[qoo,qxu];by_cases hl:t.length<cs.length
 ·have hcs:=hA cs[t.length] (List.getElem_mem hl);have hne:cs[t.length]≠c:=fun e=>by rw[e]at hcs;omega
  rw[ag (by omega),wv _ _ hl,qB,qap,qB,wj,qX hne,aw _,ag (by omega),qB,zf6,qB,wu,ag (by decide)]
  intro x hx e;have:=hA x (List.mem_of_mem_drop hx);rw[e]at this;omega
 ·rw[ap]
def lg(cs:List UInt8):List Bool:=cs.foldl (fun m c=>m.set c.toNat true) (List.replicate 256 false)
structure AC(cs:List UInt8):Prop where
 two:2<=cs.length
 few:cs.length<100
 low:∀c∈cs,c.toNat<128
 set:∀n,qc2 (n+100) cs=some (lg cs,true)
 get:∀c:UInt8,(lg cs)[c.toNat]? = some (cs.contains c)
 len:(lg cs).length=256
def q0f{cs:List UInt8}(A:AC cs)(c:UInt8):qc1 c (lg cs)=some (cs.contains c,lg cs):=by
 unfold qc1;rw[A.get];rfl
def zp8{cs:List UInt8}(A:AC cs)(fu n:Nat):∀(ab aa:List UInt8),aa.length<n->ab.length+aa.length<1000000000 ->
  ∃r,qip fu n (ab++aa) (ab.length:Int) (lg cs)=some r/\decide (0<=r)=aa.any cs.contains:=by
 induction n with
 |zero=>intro ab aa h;omega|succ n ih=>
  intro ab aa h hb;rw[qip,qxq]
  cases aa with
  |nil=>rw[ap];exact⟨-1,rfl,rfl⟩|cons c aa=>
   simp only[qL]at h hb;rw[cd,ag (by omega),bf,qB,q0f A,qB]
   cases hc:cs.contains c
   ·obtain⟨r,h1,h2⟩:=ih (ab++[c]) aa (by omega) (by simp;omega)
    refine⟨r,?_,by rw[h2,List.any_cons,hc,Bool.false_or]⟩
    rw[aw _]
    simpa using h1
   ·exact⟨_,rfl,by rw[List.any_cons,hc,Bool.true_or];exact decide_eq_true (by omega)⟩
def zp9{cs:List UInt8}(A:AC cs)(fu:Nat)(hfu:100<=fu)(s:List UInt8):∀(n p:Nat),s.length-p<n->p<=s.length ->
  ∃r,qiq fu n cs s p=some r/\decide (0<=r)=(s.drop p).any cs.contains:=by
 intro n
 induction n with
 |zero=>intro p h;omega|succ n ih=>
  intro p h hp;rw[qiq,qxr];by_cases hlt:p<s.length
  ·have e:s[p]? = some s[p]:=List.getElem?_eq_getElem hlt;have hd:s.drop p=s[p]::s.drop (p+1):=List.drop_eq_getElem_cons hlt;rw[au (zab hlt)];by_cases hc:s[p].toNat<128
   ·rw[zeq s p _ e hc];simp only;rw[zql fu cs _ hc,qB,bu,hd,List.any_cons];by_cases hm:s[p]∈cs
    ·rw[qX ((zch _ _).2 hm)];exact⟨_,rfl,by rw[show cs.contains s[p]=true by simpa using hm,Bool.true_or];exact decide_eq_true (by omega)⟩
    ·rw[qW (fun h=>hm ((zch _ _).1 h))]
     obtain⟨r,h1,h2⟩:=ih (p+1) (by omega) (by omega)
     exact⟨r,h1,by rw[h2,show cs.contains s[p]=false by simpa using hm,Bool.false_or]⟩
   ·obtain⟨q1,q2,q3⟩:=zt6 s p _ e (by omega)
    rw[zqk fu cs _ (by omega) A.low (by have:=A.few;omega) (by have:=A.few;omega),qB,ap (by decide)]
    have hle:p+(e7 s p).2<=s.length:=by
     obtain⟨d,hd,_⟩:=q3 ((e7 s p).2-1) (by omega)
     have:=(List.getElem?_eq_some_iff.1 hd).1;omega
    obtain⟨r,h1,h2⟩:=ih (p+(e7 s p).2) (by omega) hle
    refine⟨r,h1,?_⟩;rw[h2];have:∀w,(∀j,j<w->∃d,s[p+j]? = some d/\128<=d.toNat)->(s.drop (p+w)).any cs.contains=(s.drop p).any cs.contains:=by
     intro w
     induction w with
     |zero=>intro _;rfl|succ w ihw=>
      intro hw;rw[← ihw (fun j hj=>hw j (by omega))]
      obtain⟨d,hd,hd2⟩:=hw w (by omega)
      obtain⟨k1,k2⟩:=List.getElem?_eq_some_iff.1 hd;rw[List.drop_eq_getElem_cons k1,k2,List.any_cons,show cs.contains d=false by
       simp only[List.contains_eq_mem,decide_eq_false_iff_not];intro hm;have:=A.low d hm;omega,Bool.false_or]
      rfl
    exact this _ q3
  ·rw[ax (zaa hlt)];exact⟨-1,rfl,by rw[List.drop_eq_nil_of_le (by omega)];rfl⟩
def zn5{cs:List UInt8}(A:AC cs)(fu:Nat)(s:List UInt8)(hfu:100<=fu)(h:s.length<fu)(hb:s.length<1000000000):qoi fu s cs=some (s.any cs.contains):=by
 unfold qoi;have:∃r,qom fu s cs=some r/\decide (0<=r)=s.any cs.contains:=by
  unfold qom;have h2:=A.two;rw[ax (by cases cs with
   |nil=>simp at h2| cons a b=>rfl),gv,qW (by omega)]
  unfold qyc;rw[qB,bu];split
  ·obtain⟨n,rfl⟩:∃n,fu=n+100:=⟨fu-100,by omega⟩
   rw[A.set,qB];simp only[A.len];rw[au (by rw[List.length_replicate];rfl),au]
   have:=zp8 A (n+100) (n+100) [] s (by omega) (by simpa using hb)
   simpa using this
  ·have:=zp9 A fu hfu s fu 0 (by omega) (by omega)
   simpa [qon] using this
 obtain⟨r,h1,h2⟩:=this;rw[h1,qB,h2]
def zl0:∀n:_root_.Fin 256,(lg [13,10,0])[(UInt8.ofNat n.val).toNat]? = some (([13,10,0]:List UInt8).contains (UInt8.ofNat n.val)):=by decide +kernel
def ac1:AC [13,10,0]:=⟨by decide,by decide,by decide,fun n=>by kernel_rfl,fun c=>pl (fun c=>(lg [13,10,0])[c.toNat]? = some (([13,10,0]:List UInt8).contains c)) zl0 c,by decide +kernel⟩
def zl1:∀n:_root_.Fin 256,(lg [32,9])[(UInt8.ofNat n.val).toNat]? = some (([32,9]:List UInt8).contains (UInt8.ofNat n.val)):=by decide +kernel
def wh:AC [32,9]:=⟨by decide,by decide,by decide,fun n=>by kernel_rfl,fun c=>pl (fun c=>(lg [32,9])[c.toNat]? = some (([32,9]:List UInt8).contains c)) zl1 c,by decide +kernel⟩
def q99(c:UInt8):([32,9]:List UInt8).contains c=bl c:=by rw[Bool.eq_iff_iff];simp[bl]
def zfn(c:UInt8)(s:List UInt8):et (c::s)=if et s=[] then(if bl c then[] else[c]) else c::et s:=by
 unfold et;rw[List.reverse_cons];generalize s.reverse=r
 induction r with
 |nil=>simp[List.dropWhile];cases bl c<;>rfl
 |cons x r ih=>
  rw[wK,List.dropWhile,List.dropWhile];cases bl x
  ·simp
  ·simpa using ih
def qa(c:UInt8)(s:List UInt8):be (c::s)=if bl c then be s else c::s:=by
 unfold be;rw[List.dropWhile];cases bl c<;>rfl
def q31:∀s:List UInt8,be (et s)=fp s
 |[]=>rfl|c::s=>by
  unfold fp;have ih:=q31 s;unfold fp at ih;rw[zfn,qa];cases hc:bl c
  ·simp only[wJ,if_false];rw[zfn,hc];simp only[wJ,if_false];split
   ·rw[qa,hc];rfl
   ·rw[qa,hc];rfl
  ·simp only[if_true];rw[← ih];split
   ·rename_i h;rw[h]
   ·rw[qa,hc];rfl
def qel(s:List UInt8):(et s).length<=s.length:=by
 unfold et;rw[List.length_reverse];have:=(List.dropWhile_sublist bl (l:=s.reverse)).length_le;simpa using this
def kh(s:List UInt8):(be s).length<=s.length:=(List.dropWhile_sublist bl).length_le
def zxg(s:List UInt8):(fp s).length<=s.length:=Nat.le_trans (qel _) (kh _)
def wn(s:List UInt8):Bool := !(s.head?.any bl) && !(s.getLast?.any bl)
def zxf(s:List UInt8):decide (fp s=s)=wn s:=by
 unfold wn;cases hf:s.head?.any bl
 ·cases hl:s.getLast?.any bl
  ·rw[decide_eq_true];rfl;unfold fp;have h1:be s=s:=by
    cases s with|nil=>rfl|cons c s=>rw[qa];simp at hf;rw[hf];rfl
   rw[h1];rcases List.eq_nil_or_concat s with rfl|⟨t,c,rfl⟩
   ·rfl
   ·rw[List.concat_eq_append]at *;rw[qem];simp at hl;rw[hl];rfl
  ·rw[decide_eq_false];rfl;rw[← q31];rcases List.eq_nil_or_concat s with rfl|⟨t,c,rfl⟩
   ·simp at hl
   ·rw[List.concat_eq_append]at *;simp at hl;rw[qem,hl,qX rfl];intro e;have:=Nat.le_trans (kh (et t)) (qel t);rw[e]at this;simp at this;omega
 ·rw[decide_eq_false];rfl
  cases s with
  |nil=>simp at hf|cons c s=>
   simp at hf;unfold fp;rw[qa,hf,qX rfl];intro e;have:=Nat.le_trans (qel (be s)) (kh s);rw[e]at this;simp at this;omega
def qjo(c:UInt8):vm c=some (bl c):=by unfold vm bl;cases c==32<;>rfl
def xg(c:UInt8):o5 c=some (bl c):=by unfold o5 bl;cases c==32<;>rfl
def mw(f:Int×Int):ew f=some (f.1 != 0):=rfl
def uq(c:UInt8):Bool:=decide (33<=c)&&decide (c<=126)&&c != 58
def iv(s:List UInt8):Bool:=s != []&&decide (s.length<=60)&&s.all uq
def zru(c:UInt8):qnh c=some (uq c):=by
 unfold qnh uq;cases decide (33<=c)<;>cases decide (c<=126)<;>rfl
def zl9(fu n:Nat):∀(ab aa:List UInt8),aa.length<n->ab.length+aa.length<1000000000 ->
  qhd fu n (ab++aa) ((ab.length+aa.length:Nat):Int) (ab.length:Int)=some (aa.all uq):=by
 induction n with
 |zero=>intro ab aa h;omega|succ n ih=>
  intro ab aa h hb;rw[qhd,qvu]
  cases aa with
  |nil=>rw[ap];rfl|cons c aa=>
   simp only[qL]at h hb ⊢;rw[ag (by omega),bf,qB,zru,qB,List.all_cons]
   cases hc:uq c
   ·rfl
   ·have:=ih (ab++[c]) aa (by omega) (by simp;omega)
    rw[aw _]
    simp only[qS,wM,qM,qL,qZ]at this;rw[show ab.length+0+1+aa.length=ab.length+(aa.length+1) by omega]at this
    simpa using this
def zpk(fu:Nat)(s:List UInt8)(h:61<fu:=by omega):qng fu s=some (iv s):=by
 unfold qng iv
 cases s with
 |nil=>rfl|cons c s=>
  rw[show(!c::s==([]:List UInt8))=true from rfl,show(c::s != ([]:List UInt8))=true from rfl,qT,bu]
  split
  ·rename_i hl;simp only[qL]at hl;unfold qvt;have:=zl9 fu fu [] (c::s) (by simp only[qL];omega) (by simp only[qL,qZ];omega)
   simp only[List.nil_append,qZ,wO]at this;rw[show(0:Int)=((0:Nat):Int) from rfl,this,decide_eq_true (by simp only[qL];omega)]
   rfl
  ·rename_i hl;rw[decide_eq_false (by omega)]
   rfl
def zfe(a b c:Int):fq a b c=some (decide (b<=a)&&decide (a<=c)):=by
 unfold fq;rw[bu];split
 ·rename_i h;rw[decide_eq_true h];rfl
 ·rename_i h;rw[decide_eq_false h];rfl
def zrw:∀n:_root_.Fin 256,(decide ((33:Int)<=((UInt8.ofNat n.val).toNat:Int))&&decide (((UInt8.ofNat n.val).toNat:Int)<=126) && !((UInt8.ofNat n.val)==58))=uq (UInt8.ofNat n.val):=by decide +kernel
def zrv(c:UInt8):(decide ((33:Int)<=(c.toNat:Int))&&decide ((c.toNat:Int)<=126) && !(c==58))=uq c:=pl (fun c=>(decide ((33:Int)<=(c.toNat:Int))&&decide ((c.toNat:Int)<=126) && !(c==58))=uq c) zrw c
def zu0(fu n:Nat):∀(ab aa:List UInt8),aa.length<n->ab.length+aa.length<1000000000 ->
  qfp fu n (ab++aa) (ab.length:Int)=some (aa.all uq&&(decide (1<=ab.length+aa.length)&&decide (ab.length+aa.length<=60))):=by
 induction n with
 |zero=>intro ab aa h;omega|succ n ih=>
  intro ab aa h hb;rw[qfp,qtt]
  cases aa with
  |nil=>
   rw[ap,zfe,List.all_nil,Bool.true_and]
   simp only[List.append_nil,qZ,Nat.add_zero,qB];congr 2
   ·rw[Bool.eq_iff_iff];simp only[decide_eq_true_eq];omega
   ·rw[Bool.eq_iff_iff];simp only[decide_eq_true_eq];omega
  |cons c aa=>
   simp only[qL]at h hb ⊢;rw[cd,ag (by omega),bf,qB,zfe,qB,qB,List.all_cons,← zrv]
   cases decide ((33:Int)<=(c.toNat:Int))&&decide ((c.toNat:Int)<=126)
   ·rfl
   ·cases c==58
    ·have:=ih (ab++[c]) aa (by omega) (by simp;omega)
     rw[aw _]
     simp only[qS,wM,qM,qL,qZ]at this;rw[show ab.length+(0+1)+aa.length=ab.length+(aa.length+1) by omega]at this
     simpa using this
    ·rfl
def zfg(fu:Nat)(s:List UInt8)(h:s.length<fu:=by omega)(hb:s.length<1000000000:=by omega):qfo fu s=some (iv s):=by
 unfold qfo iv;have:=zu0 fu fu [] s h (by simpa using hb)
 rw[show(0:Int)=(([]:List UInt8).length:Int) from rfl,show s=[]++s from rfl,this]
 simp only[qZ,wO,List.nil_append];congr 1
 cases s with
 |nil=>rfl|cons c s=>
  rw[show(c::s != ([]:List UInt8))=true from rfl,decide_eq_true (show 1<=(c::s).length by simp)]
  simp only[Bool.true_and];exact Bool.and_comm _ _
def qao(s:List UInt8):Bool := !(s.any ([13,10,0]:List UInt8).contains)&&wn s
def zb9(fu:Nat)(s:List UInt8)(hfu:100<=fu)(h:s.length<fu)(hb:s.length<1000000000):qnk fu s=some (qao s):=by
 unfold qnk qv5 qao;rw[zn5 ac1 fu s hfu h hb,qB,qB];cases s.any ([13,10,0]:List UInt8).contains
 ·rw[cr];unfold wn
  cases s with
  |nil=>rfl|cons c t=>
   rw[ax (by rfl),show am (c::t) (0:Int)=some c from rfl,qB,qjo,qB]
   rw[show(c::t).head?.any bl=bl c from rfl]
   cases bl c
   ·rw[cr];rcases List.eq_nil_or_concat (c::t) with e|⟨u,d,e⟩
    ·cases e
    ·rw[List.concat_eq_append]at e;rw[e]at hb ⊢;simp only[qM,qL,qZ]at hb;rw[ji,jp _,qap,qB,qjo,qB]
     simp
   ·rfl
 ·rfl
def zfm(fu:Nat)(_r0:Nat->List UInt8->Option (List UInt8))(n:Nat):∀(s:List UInt8),s.length<n->s.length<1000000000->qgj fu n s=some (et s):=by
 induction n with
 |zero=>intro s h;omega|succ n ih=>
  intro s h hb;rw[qgj,qur];rcases List.eq_nil_or_concat s with rfl|⟨t,c,rfl⟩
  ·rw[ap];rfl
  ·rw[List.concat_eq_append]at *;simp only[qM,qL,qZ]at h hb;rw[ji,ag (by omega),jp _,qap,qB,xg,qB,qeu,ag (by omega),ih t (by omega) (by omega),qem]
   cases bl c<;>rfl
def zty(fu n:Nat):∀(s:List UInt8),s.length<n->s.length<fu->s.length<1000000000->qgh fu n s=some (fp s):=by
 induction n with
 |zero=>intro s h;omega|succ n ih=>
  intro s h hf hb;rw[qgh,quq]
  cases s with
  |nil=>
   rw[ap]
   unfold qgi;rw[ax (by rfl),zfm fu (fun _ _=>none) fu [] hf hb];rfl
  |cons c s=>
   rw[ag (by simp),show am (c::s) (0:Int)=some c from rfl,qB,xg,qB]
   unfold qgi fp;rw[qa];simp only[qL]at h hf hb;cases bl c
   ·rw[ax (by rfl),zfm fu (fun _ _=>none) fu (c::s) (by simp only[qL];omega) (by simp only[qL];omega)];rfl
   ·rw[au]
    unfold qus;rw[ag (by simp only[qL];omega)]
    exact ih s (by omega) (by omega) (by omega)
def zel(fu:Nat)(s:List UInt8)(h:s.length<fu)(hb:s.length<1000000000):qmt fu s=some (fp s):=zty fu fu s h h hb
def zg0(fu n:Nat):∀(s:List UInt8),s.length<n->s.length<1000000000->qi4 fu n s (lg [32,9])=some (et s,lg [32,9]):=by
 induction n with
 |zero=>intro s h;omega|succ n ih=>
  intro s h hb;rw[qi4,qyi];rcases List.eq_nil_or_concat s with rfl|⟨t,c,rfl⟩
  ·rw[ap];rfl
  ·rw[List.concat_eq_append]at *;simp only[qM,qL,qZ]at h hb;rw[ji,ag (by omega),jp _,qap,qB,q0f wh,qB,qeu,ag (by omega),ih t (by omega) (by omega),qem,q99]
   cases bl c<;>rfl
def q30(fu:Nat)(s:List UInt8)(hfu:100<=fu:=by omega)(h:s.length<fu:=by omega)(hb:s.length<1000000000:=by omega):qiw fu s [32,9]=some (et s):=by
 unfold qiw
 cases s with
 |nil=>rfl|cons c s=>
  rw[ax (by rfl)]
  unfold qot;rw[ax (by rfl)]
  unfold qx5;rw[ax (by decide)]
  unfold qou;rw[ax (by rfl)]
  unfold qx6;obtain⟨n,rfl⟩:∃n,fu=n+100:=⟨fu-100,by omega⟩
  rw[wh.set,qB];simp only[wh.len];rw[au (by rw[List.length_replicate];rfl),au]
  unfold qi3;rw[zg0 _ _ _ h hb];rfl
def zsc(fu:Nat)(hfu:10<=fu)(c a b d:UInt8):vh fu c [a,b,d]=some (([a,b,d]:List UInt8).contains c):=by
 obtain⟨n,rfl⟩:∃n,fu=n+10:=⟨fu-10,by omega⟩
 unfold vh;simp only[qbw,qmj];rw[au,show am [a,b,d] (0:Int)=some a from rfl,qB]
 simp only[List.contains_cons,List.contains_nil,Bool.or_false];rw[qpn a c,show(af (0+1))=(1:Int) from rfl]
 cases c==a
 ·rw[ax (by rfl),au,show am [a,b,d] (1:Int)=some b from rfl,qB,qpn b c,show(af (1+1))=(2:Int) from rfl]
  cases c==b
  ·rw[ax (by rfl),au,show am [a,b,d] (2:Int)=some d from rfl,qB,qpn d c,show(af (2+1))=(3:Int) from rfl]
   cases c==d
   ·rfl
   ·rfl
  ·rfl
 ·rfl
def zt4(fu n:Nat)(hfu:10<=fu):∀(ab aa:List UInt8),aa.length<n->ab.length+aa.length<1000000000->ab.length+aa.length<fu ->
  qbk fu n (ab++aa) (ab.length:Int)=some (if aa.any ([13,10,0]:List UInt8).contains || !wn (ab++aa) then 11 else 0):=by
 induction n with
 |zero=>intro ab aa h;omega|succ n ih=>
  intro ab aa h hb hf;rw[qbk,qts]
  cases aa with
  |nil=>
   rw[ap,List.append_nil,zel fu ab (by simpa using hf) (by simpa using hb),qB,← zxf,List.any_nil,Bool.false_or]
   by_cases e:fp ab=ab
   ·rw[decide_eq_true e,e];simp
   ·rw[decide_eq_false e,au (by simpa using e)];rfl
  |cons c aa=>
   simp only[qL]at h hb hf;rw[cd,ag (by omega),bf,qB,zsc fu hfu,qB,List.any_cons]
   cases hc:([13,10,0]:List UInt8).contains c
   ·have:=ih (ab++[c]) aa (by omega) (by simp;omega) (by simp;omega)
    rw[ax (by rfl),aw _,Bool.false_or]
    simpa using this
   ·rfl
def oc(n v:List UInt8):Int:=if iv n then(if 4000<v.length then 1 else if qao v then 0 else 11) else 10
def zt3(fu:Nat)(n v:List UInt8)(hfu:10<=fu)(hn:n.length<fu)(hv:v.length<fu)(hnb:n.length<1000000000)(hvb:v.length<1000000000):qfn fu n v=some (oc n v):=by
 unfold qfn oc;rw[zfg fu n hn hnb,qB];cases iv n
 ·rfl
 ·rw[ax (by rfl),qX rfl,bu]
  split
  ·rename_i h;rw[qX (by omega)]
  ·rename_i h;rw[qW (by omega)]
   have:=zt4 fu fu hfu [] v hv (by simpa using hvb) (by simpa using hv)
   simp only[List.nil_append,qZ]at this;have this:qbk fu fu v 0=some (if(v.any ([13,10,0]:List UInt8).contains || !wn v)=true then 11 else 0):=this
   rw[this];unfold qao;cases v.any ([13,10,0]:List UInt8).contains<;>cases wn v<;>rfl
def tk(c:UInt8):Bool:=decide (33<=c)&&decide (c<=126) && !([40,41,60,62,64,44,59,58,92,34,47,91,93,63,61,42,37,39]:Bs).contains c
def zw8:∀n:_root_.Fin 256,o8 (UInt8.ofNat n.val)=some (tk (UInt8.ofNat n.val)):=by decide +kernel
def qk5(c:UInt8):o8 c=some (tk c):=pl (fun c=>o8 c=some (tk c)) zw8 c
def zsd(fu n:Nat)(c:UInt8):∀(ab aa:Bs),aa.length<n->ab.length+aa.length<1000000000 ->
  qbw fu n c (ab++aa) (ab.length:Int)=some (aa.contains c):=by
 induction n with
 |zero=>intro ab aa h;omega|succ n ih=>
  intro ab aa h hb;rw[qbw,qmj]
  cases aa with
  |nil=>rw[ap];rfl|cons d aa=>
   simp only[qL]at h hb;rw[cd,ag (by omega),bf,qB,aw _,jz,List.contains_cons]
   have:=ih (ab++[d]) aa (by omega) (by simp;omega)
   simp only[qM,qL,qZ,qS,wM]at this;by_cases e:d=c
   ·rw[qX e];simp[e]
   ·rw[qW e,this];have:(c==d)=false:=by simp;exact fun h=>e h.symm
    rw[this,Bool.false_or]
def zdx(fu:Nat)(c:UInt8)(l:Bs)(h:l.length<fu:=by omega)(hb:l.length<1000000000:=by omega):vh fu c l=some (l.contains c):=by
 have:=zsd fu fu c [] l h (by simpa using hb)
 simpa [vh] using this
def q3g(fu:Nat)(hfu:100<=fu)(c:UInt8):qb3 fu c=some (tk c):=by
 unfold qb3;rw[np,qB,zdx fu c _ (by simp;omega) (by simp),qB]
 unfold tk;have h1:(33<=(c.toNat:Int)/\(c.toNat:Int)<=126)↔(33<=c/\c<=126):=by
  rw[UInt8.le_iff_toNat_le,UInt8.le_iff_toNat_le];show _↔(33<=c.toNat/\c.toNat<=126);omega
 by_cases h2:33<=c/\c<=126
 ·rw[decide_eq_true (h1.2 h2),au rfl,decide_eq_true h2.1,decide_eq_true h2.2];rfl
 ·rw[decide_eq_false (fun h=>h2 (h1.1 h)),ax rfl]
  by_cases h3:33<=c
  ·have h4:¬c<=126:=fun h=>h2 ⟨h3,h⟩
   rw[decide_eq_false h4];simp
  ·rw[decide_eq_false h3];simp
def qab(P:UInt8->Option Bool):Nat->Bs->Int->Int->Option Bool|0,_,_,_=>none|n+1,s0,s7,s8=>bif decide (s8<s7) then(am s0 s8).bind fun c1=>(P c1).bind fun x2=>bif !x2 then some false else qab P n s0 s7 (af (s8+(1:Int))) else some true
def zl8(P:UInt8->Option Bool)(p:UInt8->Bool)(hP:∀c,P c=some (p c))(n:Nat):∀(ab aa:Bs),aa.length<n->ab.length+aa.length<9223372036854775807 ->
  qab P n (ab++aa) ((ab.length+aa.length:Nat):Int) (ab.length:Int)=some (aa.all p):=by
 induction n with
 |zero=>intro ab aa h;omega|succ n ih=>
  intro ab aa h hb;rw[qab]
  cases aa with
  |nil=>rw[ap];rfl|cons d aa=>
   simp only[qL]at h hb ⊢;rw[ag (by omega),bf,qB,hP,qB,aw _,List.all_cons]
   have:=ih (ab++[d]) aa (by omega) (by simp;omega)
   simp only[qM,qL,qZ,qS,wM]at this;cases p d
   ·rfl
   ·rw[ax (by rfl),Bool.true_and,show((ab.length+(aa.length+1):Nat):Int)=((ab.length+1+aa.length:Nat):Int) by omega]
    exact this
def qzm(P:UInt8->Option Bool)(p:UInt8->Bool)(hP:∀c,P c=some (p c))(n:Nat)(s:Bs)(h:s.length<n)(hb:s.length<9223372036854775807):qab P n s (s.length:Int) 0=some (s.all p):=by
 have:=zl8 P p hP n [] s h (by simpa using hb)
 simpa using this
def zl5(fu:Nat)(s:Bs)(h:s.length<fu)(hb:s.length<9223372036854775807):qna fu s=some (s.all tk):=by
 have e:∀n,qhe fu n=qab o8 n:=by
  intro n;induction n with|zero=>rfl|succ n ih=>rw[qhe,ih];funext a b c;rfl
 unfold qna;rw[e];exact qzm _ _ qk5 _ _ h hb
def eu(s:Bs):Bool := !s.isEmpty&&decide (s.length<=60)&&s.all tk
def qsd(fu:Nat)(s:Bs)(h:s.length<fu:=by omega)(hb:s.length<9223372036854775807:=by omega):zh fu s=some (eu s):=by
 unfold zh eu;rw[zl5 fu s h hb]
 cases s with
 |nil=>rfl|cons c s=>
  rw[au]
  by_cases h1:(c::s).length<=60
  ·rw[ag (by omega),decide_eq_true h1];simp
  ·rw[ap,decide_eq_false h1];simp
def zvi(fu n:Nat)(hfu:100<=fu):∀(ab aa:Bs),aa.length<n->ab.length+aa.length<1000000000 ->
  qgg fu n (ab++aa) (ab.length:Int)=some (aa.all tk&&decide (1<=ab.length+aa.length/\ab.length+aa.length<=60)):=by
 induction n with
 |zero=>intro ab aa h;omega|succ n ih=>
  intro ab aa h hb;rw[qgg,qup]
  cases aa with
  |nil=>
   rw[ap,np,qB]
   simp only[List.append_nil,List.all_nil,Bool.true_and,qZ,Nat.add_zero];congr 1;apply decide_eq_decide.2;omega
  |cons d aa=>
   simp only[qL]at h hb;rw[cd,ag (by omega),bf,qB,q3g fu hfu,qB,aw _,List.all_cons]
   have:=ih (ab++[d]) aa (by omega) (by simp;omega)
   simp only[qM,qL,qZ,qS,wM]at this;cases tk d
   ·rfl
   ·rw[ax (by rfl),Bool.true_and]
    refine this.trans ?_;simp only[qL];congr 2;apply decide_eq_decide.2;omega
def qr3(fu:Nat)(hfu:100<=fu)(s:Bs)(h:s.length<fu:=by omega)(hb:s.length<1000000000:=by omega):y5 fu s=some (eu s):=by
 have:=zvi fu fu hfu [] s h (by simpa using hb)
 simp only[List.nil_append,qZ,wO]at this;unfold y5;refine this.trans ?_;unfold eu
 cases s with
 |nil=>rfl|cons c s=>
  congr 1;rw[Bool.and_comm];congr 1;show decide _=(true&&decide _);rw[Bool.true_and];apply decide_eq_decide.2;simp only[qL];omega
open Go.Lib (decodeL decodeN decodeL_N validD validD_step decodeL_le decodeL_width)
def rn(l:Bs):Int×Int:=if(decodeL l).1=65533/\(decodeL l).2=1 then(-1,1) else(((decodeL l).1:Nat),((decodeL l).2:Nat))
def ow(a b:Nat)(h:a+b<9223372036854775808:=by omega):af ((a:Int)+(b:Int))=((a+b:Nat):Int):=by rw[d7];omega
def zqb{α:Type}(ab l:List α)(k:Nat)(h:k<l.length):am (ab++l) ((ab.length+k:Nat):Int)=some l[k]:=by
 rw[wv _ _ (by simp;omega)];simp
def zqc(ab l:Bs)(k:Nat)(h:k<l.length):am (ab++l) ((ab.length+k:Nat):Int)=some (l.getD k 0):=by
 rw[zqb ab l k h];simp[List.getD,h]
def qeg(fu n:Nat)(ab l:Bs)(size v least k:Nat)(hk:k<size:=by omega)(hl:k<l.length:=by omega)(hv:v<10000000:=by omega)(hb:ab.length+l.length<1000000000:=by omega)(hs:size<=4:=by omega) :
  tn fu (n+1) (ab++l) (ab.length:Int) (size:Int) (v:Int) (least:Int) (k:Int) =
   if 128<=(l.getD k 0).toNat/\(l.getD k 0).toNat<=191 then tn fu n (ab++l) (ab.length:Int) (size:Int) ((64*v+(l.getD k 0).toNat-128:Nat):Int) (least:Int) ((k+1:Nat):Int) else some (-1,1):=by
 have hc:(l.getD k 0).toNat<256:=(l.getD k 0).toNat_lt;rw[tn,qmr,ag (by omega),ow _ _,zqc ab l k hl,qB,np,qB,aw k]
 generalize (l.getD k 0).toNat=x at hc;by_cases h:128<=x/\x<=191
 ·rw[qX h,decide_eq_true (by omega),bn,show(64:Int)*(v:Int)=((64*v:Nat):Int) by omega,d7 (x:=((64*v:Nat):Int)) (by omega) (by omega),d7 (x:=((64*v:Nat):Int)+(x:Int)) (by omega) (by omega),d7]
  congr 1;omega
 ·rw[qW h,decide_eq_false (by omega),cr]
def q2l(fu n:Nat)(s:Bs)(i:Int)(size v least:Nat) :
  tn fu (n+1) s i (size:Int) (v:Int) (least:Int) (size:Int)=if v<least\/1114111<v\/(55296<=v/\v<=57343) then some (-1,1) else some ((v:Int),(size:Int)):=by
 rw[tn,qmr,ap]
 by_cases h1:v<least
 ·rw[ag (by omega),qX (.inl h1)]
 rw[ap]
 by_cases h2:1114111<v
 ·rw[ag (by omega),qX (.inr (.inl h2))]
 rw[ap,np,qB]
 by_cases h3:55296<=v/\v<=57343
 ·rw[ag (by omega),qX (.inr (.inr h3))]
 ·rw[ap,qW (by omega)]
def q2j(fu:Nat)(ab l:Bs)(size v least:Nat)(h:l.length<size)(hs:size<=4:=by omega)(hb:ab.length+l.length<1000000000:=by omega):tm fu (ab++l) (ab.length:Int) (size:Int) (v:Int) (least:Int)=some (-1,1):=by
 rw[tm,gv,qW (by omega),ow _ _,qge,ag (by rw[um];omega)]
def q2i(fu:Nat)(ab l:Bs)(size v least:Nat)(h:¬l.length<size)(h0:size≠0:=by omega)(hs:size<=4:=by omega)(hb:ab.length+l.length<1000000000:=by omega):tm fu (ab++l) (ab.length:Int) (size:Int) (v:Int) (least:Int)=tn fu fu (ab++l) (ab.length:Int) (size:Int) (v:Int) (least:Int) ((1:Nat):Int):=by
 rw[tm,gv,qW (by omega),ow _ _,qge,ap (by rw[um];omega)];rfl
def qj1(x:Nat×Nat):Int×Int:=if x.1=65533/\x.2=1 then(-1,1) else((x.1:Nat),(x.2:Nat))
def qd4:qj1 (65533,1)=(-1,1):=rfl
def q03(x k:Nat)(h:k≠1):qj1 (x,k)=((x:Int),(k:Int)):=qW (fun q=>h q.2)
def ov(n b0 b1 b2 b3:Nat):Int×Int:=qj1 (decodeN n b0 b1 b2 b3)
def zvt(n b0 b1 b2 b3:Nat)(h:b0<128):ov n b0 b1 b2 b3=((b0:Int),1):=by
 unfold ov decodeN;rw[qX h];unfold qj1;rw[qW (fun q=>by have:=q.1;simp only at this;omega)];rfl
def zvu(n b0 b1 b2 b3:Nat)(h:192<=b0/\b0<=223)(h1:b1<256):ov n b0 b1 b2 b3=if n<2 then(-1,1) else if 128<=b1/\b1<=191 then(if(64*(b0-192)+b1-128)<128\/1114111<(64*(b0-192)+b1-128)\/(55296<=(64*(b0-192)+b1-128)/\(64*(b0-192)+b1-128)<=57343) then(-1,1) else(((64*(b0-192)+b1-128:Nat):Int),2)) else(-1,1):=by
 unfold ov decodeN;rw[qW (c:=b0<128) (by omega)]
 by_cases a1:b0/32=6/\(1<n/\b1/64=2)
 ·rw[qX a1,qW (c:=n<2) (by omega),qX (c:=128<=b1/\b1<=191) (by omega)]
  obtain⟨z,hz⟩:∃z,b0%32*64+b1%64=z:=⟨_,rfl⟩;obtain⟨y,hy⟩:∃y,64*(b0-192)+b1-128=y:=⟨_,rfl⟩;have hzy:z=y:=by omega
  have hm:y<2048:=by omega
  rw[hz,hy,hzy];by_cases a2:y ≥ 128
  ·rw[qX a2,q03 _ _ (by decide),qW (by omega)];rfl
  ·rw[qW a2,qd4,qX (by omega)]
 ·rw[qW a1,qW (c:=b0/16=14/\_) (by omega),qW (c:=b0/8=30/\_) (by omega),qd4]
  by_cases a3:n<2
  ·rw[qX a3]
  ·rw[qW a3,qW (by omega)]
def zvv(n b0 b1 b2 b3:Nat)(h:224<=b0/\b0<=239)(h1:b1<256)(h2:b2<256):ov n b0 b1 b2 b3=if n<3 then(-1,1) else if 128<=b1/\b1<=191 then(if 128<=b2/\b2<=191 then(if(64*(64*(b0-224)+b1-128)+b2-128)<2048\/1114111<(64*(64*(b0-224)+b1-128)+b2-128)\/(55296<=(64*(64*(b0-224)+b1-128)+b2-128)/\(64*(64*(b0-224)+b1-128)+b2-128)<=57343) then(-1,1) else(((64*(64*(b0-224)+b1-128)+b2-128:Nat):Int),3)) else(-1,1)) else(-1,1):=by
 unfold ov decodeN;rw[qW (c:=b0<128) (by omega),qW (c:=b0/32=6/\_) (by omega)]
 by_cases a1:b0/16=14/\(1<n/\b1/64=2)/\(2<n/\b2/64=2)
 ·rw[qX a1,qW (c:=n<3) (by omega),qX (c:=128<=b1/\b1<=191) (by omega),qX (c:=128<=b2/\b2<=191) (by omega)]
  obtain⟨z,hz⟩:∃z,b0%16*4096+b1%64*64+b2%64=z:=⟨_,rfl⟩;obtain⟨y,hy⟩:∃y,64*(64*(b0-224)+b1-128)+b2-128=y:=⟨_,rfl⟩;have hzy:z=y:=by omega
  have hm:y<65536:=by omega
  rw[hz,hy,hzy];by_cases a2:y ≥ 2048/\(y<55296\/(57344<=y/\y<=1114111))
  ·rw[qX a2,q03 _ _ (by decide),qW (by omega)];rfl
  ·rw[qW a2,qd4,qX (by omega)]
 ·rw[qW a1,qW (c:=b0/8=30/\_) (by omega),qd4]
  by_cases a3:n<3
  ·rw[qX a3]
  ·rw[qW a3];by_cases a4:128<=b1/\b1<=191
   ·rw[qX a4,qW (by omega)]
   ·rw[qW a4]
def zvw(n b0 b1 b2 b3:Nat)(h:240<=b0/\b0<=247)(h1:b1<256)(h2:b2<256)(h3:b3<256):ov n b0 b1 b2 b3=if n<4 then(-1,1) else if 128<=b1/\b1<=191 then(if 128<=b2/\b2<=191 then(if 128<=b3/\b3<=191 then(if(64*(64*(64*(b0-240)+b1-128)+b2-128)+b3-128)<65536\/1114111<(64*(64*(64*(b0-240)+b1-128)+b2-128)+b3-128)\/(55296<=(64*(64*(64*(b0-240)+b1-128)+b2-128)+b3-128)/\(64*(64*(64*(b0-240)+b1-128)+b2-128)+b3-128)<=57343) then(-1,1) else(((64*(64*(64*(b0-240)+b1-128)+b2-128)+b3-128:Nat):Int),4)) else(-1,1)) else(-1,1)) else(-1,1):=by
 unfold ov decodeN;rw[qW (c:=b0<128) (by omega),qW (c:=b0/32=6/\_) (by omega),qW (c:=b0/16=14/\_) (by omega)]
 by_cases a1:b0/8=30/\(1<n/\b1/64=2)/\(2<n/\b2/64=2)/\(3<n/\b3/64=2)
 ·rw[qX a1,qW (c:=n<4) (by omega),qX (c:=128<=b1/\b1<=191) (by omega),qX (c:=128<=b2/\b2<=191) (by omega),qX (c:=128<=b3/\b3<=191) (by omega)]
  obtain⟨z,hz⟩:∃z,b0%8*262144+b1%64*4096+b2%64*64+b3%64=z:=⟨_,rfl⟩;obtain⟨y,hy⟩:∃y,64*(64*(64*(b0-240)+b1-128)+b2-128)+b3-128=y:=⟨_,rfl⟩;have hzy:z=y:=by omega
  rw[hz,hy,hzy];by_cases a2:y ≥ 65536/\(y<55296\/(57344<=y/\y<=1114111))
  ·rw[qX a2,q03 _ _ (by decide),qW (by omega)];rfl
  ·rw[qW a2,qd4,qX (by omega)]
 ·rw[qW a1,qd4];by_cases a3:n<4
  ·rw[qX a3]
  ·rw[qW a3];by_cases a4:128<=b1/\b1<=191
   ·rw[qX a4];by_cases a5:128<=b2/\b2<=191
    ·rw[qX a5,qW (by omega)]
    ·rw[qW a5]
   ·rw[qW a4]
def zvx(n b0 b1 b2 b3:Nat)(h:(128<=b0/\b0<192)\/248<=b0)(hb:b0<256):ov n b0 b1 b2 b3=(-1,1):=by
 unfold ov decodeN;rw[qW (c:=b0<128) (by omega),qW (c:=b0/32=6/\_) (by omega),qW (c:=b0/16=14/\_) (by omega),qW (c:=b0/8=30/\_) (by omega)];rfl
def zuz(l:Bs):rn l=ov l.length (l.getD 0 0).toNat (l.getD 1 0).toNat (l.getD 2 0).toNat (l.getD 3 0).toNat:=by unfold rn ov qj1;rw[decodeL_N]
def zfw(fu:Nat)(hfu:10<=fu)(ab:Bs)(c:UInt8)(t:Bs)(hb:ab.length+t.length<100000000:=by omega):qgd fu (ab++c::t) (ab.length:Int)=some (rn (c::t)):=by
 have hl:(c::t).length=t.length+1:=rfl;obtain⟨n,rfl⟩:∃n,fu=n+10:=⟨fu-10,by omega⟩
 rw[zuz,show(c::t).getD 0 0=c from rfl]
 generalize hl2:c::t=l at *;have b1:=(l.getD 1 0).toNat_lt;have b2:=(l.getD 2 0).toNat_lt;have b3:=(l.getD 3 0).toNat_lt;have hc:=c.toNat_lt;unfold qgd;rw[show am (ab++l) (ab.length:Int)=some c by rw[← hl2];exact bf ab c t,qB]
 by_cases h0:c.toNat<128
 ·rw[ag (by omega),zvt _ _ _ _ _ h0]
 rw[ap,np,qB]
 by_cases h2:192<=c.toNat/\c.toNat<=223
 ·rw[ag (by omega),zvu _ _ _ _ _ h2 b1,d7,show(c.toNat:Int)-192=((c.toNat-192:Nat):Int) by omega]
  by_cases g:l.length<2
  ·rw[qX g];exact q2j (n+10) ab l 2 _ 128 g
  ·rw[qW g];refine(q2i (n+10) ab l 2 _ 128 g).trans ?_
   rw[qeg (n+10) (n+9) ab l 2 _ 128 1]
   by_cases g1:128<=(l.getD 1 0).toNat/\(l.getD 1 0).toNat<=191
   ·rw[qX g1,qX g1];refine(q2l (n+10) (n+8) _ _ 2 _ 128).trans ?_;rw[q3m];rfl
   ·rw[qW g1,qW g1]
 rw[ap,np,qB]
 by_cases h3:224<=c.toNat/\c.toNat<=239
 ·rw[ag (by omega),zvv _ _ _ _ _ h3 b1 b2,d7,show(c.toNat:Int)-224=((c.toNat-224:Nat):Int) by omega]
  by_cases g:l.length<3
  ·rw[qX g];exact q2j (n+10) ab l 3 _ 2048 g
  ·rw[qW g];refine(q2i (n+10) ab l 3 _ 2048 g).trans ?_
   rw[qeg (n+10) (n+9) ab l 3 _ 2048 1]
   by_cases g1:128<=(l.getD 1 0).toNat/\(l.getD 1 0).toNat<=191
   ·rw[qX g1,qX g1,qeg (n+10) (n+8) ab l 3 _ 2048 2]
    by_cases g2:128<=(l.getD 2 0).toNat/\(l.getD 2 0).toNat<=191
    ·rw[qX g2,qX g2];refine(q2l (n+10) (n+7) _ _ 3 _ 2048).trans ?_;rw[q3m];rfl
    ·rw[qW g2,qW g2]
   ·rw[qW g1,qW g1]
 rw[ap,np,qB]
 by_cases h4:240<=c.toNat/\c.toNat<=247
 ·rw[ag (by omega),zvw _ _ _ _ _ h4 b1 b2 b3,d7,show(c.toNat:Int)-240=((c.toNat-240:Nat):Int) by omega]
  by_cases g:l.length<4
  ·rw[qX g];exact q2j (n+10) ab l 4 _ 65536 g
  ·rw[qW g];refine(q2i (n+10) ab l 4 _ 65536 g).trans ?_
   rw[qeg (n+10) (n+9) ab l 4 _ 65536 1]
   by_cases g1:128<=(l.getD 1 0).toNat/\(l.getD 1 0).toNat<=191
   ·rw[qX g1,qX g1,qeg (n+10) (n+8) ab l 4 _ 65536 2]
    by_cases g2:128<=(l.getD 2 0).toNat/\(l.getD 2 0).toNat<=191
    ·rw[qX g2,qX g2,qeg (n+10) (n+7) ab l 4 _ 65536 3]
     by_cases g3:128<=(l.getD 3 0).toNat/\(l.getD 3 0).toNat<=191
     ·rw[qX g3,qX g3];refine(q2l (n+10) (n+6) _ _ 4 _ 65536).trans ?_;rw[q3m];rfl
     ·rw[qW g3,qW g3]
    ·rw[qW g2,qW g2]
   ·rw[qW g1,qW g1]
 rw[ap,zvx _ _ _ _ _ (by omega) hc]
 rfl
def qrz(l:Bs):(rn l).1<0↔((decodeL l).1=65533/\(decodeL l).2=1):=by
 unfold rn;split
 ·rename_i h;exact⟨fun _=>h,fun _=>by decide⟩
 ·rename_i h;exact⟨fun q=>absurd q (by simp only;omega),fun q=>absurd q h⟩
def q3b(l:Bs):(rn l).2=((decodeL l).2:Int):=by
 unfold rn;split
 ·rename_i h;rw[h.2];rfl
 ·rfl
def zxw(fu n:Nat)(hfu:10<=fu):∀(ab aa:Bs),aa.length<n->ab.length+aa.length<100000000->qgl fu n (ab++aa) (ab.length:Int)=some (validD aa):=by
 induction n with
 |zero=>intro ab aa h;omega|succ n ih=>
  intro ab aa h hb;rw[qgl,quw]
  cases aa with
  |nil=>rw[ap];rfl|cons c t=>
   have hw:=decodeL_width (c::t);have hle:=decodeL_le (c::t) (by simp)
   simp only[qL]at h hb;rw[ag (by rw[cd];omega),zfw fu hfu ab c t,qB,validD_step (c::t) (by simp)]
   by_cases hbad:(decodeL (c::t)).1=65533/\(decodeL (c::t)).2=1
   ·rw[ag ((qrz _).2 hbad),qX hbad]
   ·rw[ap (fun q=>hbad ((qrz _).1 q)),qW hbad,q3b,ow _ _ (by simp only[qL]at hle;omega)]
    have:=ih (ab++(c::t).take (decodeL (c::t)).2) ((c::t).drop (decodeL (c::t)).2) (by rw[List.length_drop];simp only[qL];omega) (by rw[qM,List.length_take,List.length_drop];simp only[qL]at hle ⊢;omega)
    rw[qS,List.take_append_drop,qM,List.length_take,Nat.min_eq_left hle]at this;exact this
def zvz(fu:Nat)(hfu:10<=fu)(s:Bs)(h:s.length<fu:=by omega)(hb:s.length<100000000:=by omega):qgk fu s=some (validD s):=by
 have:=zxw fu fu hfu [] s h (by simpa using hb)
 simpa [qgk] using this
def zxr:qut (-1)=some [239,191,189]:=by rfl
def zx0(n:Nat):∀(b:Bool)(l:Bs),(vu [239,191,189] n b l).length<=3*l.length:=by
 induction n with
 |zero=>intro b l;simp[vu]|succ n ih=>
  intro b l
  cases l with
  |nil=>simp[vu]|cons c t=>
   rw[vu];split
   ·have:=ih true t;rw[qM];simp only[qL];cases b<;>simp<;>omega
   ·have:=ih false ((c::t).drop (decodeL (c::t)).2);have hle:=decodeL_le (c::t) (by simp)
    rw[qM,List.length_take];rw[List.length_drop]at this;omega
def qe3(rep:Bs):∀(n:Nat)(b:Bool)(l:Bs),l.length<=n->vu rep n b l=vu rep l.length b l:=by
 intro n
 induction n using Nat.strongRecOn with
 |ind n ih=>
  intro b l h
  cases l with
  |nil=>cases n<;>rfl
  |cons c t=>
   obtain⟨m,rfl⟩:∃m,n=m+1:=⟨n-1,by simp only[qL]at h;omega⟩
   simp only[qL]at h ⊢;have hw:=decodeL_width (c::t);rw[vu,vu];have hd:((c::t).drop (decodeL (c::t)).2).length<=t.length:=by rw[List.length_drop];simp only[qL];omega
   rw[ih m (by omega) true t (by omega),ih m (by omega) false _ (by omega)]
   by_cases hm:t.length<m+1
   ·rw[ih t.length (by omega) true t (wF _),ih t.length (by omega) false _ hd]
   ·omega
def zuc(fu n:Nat)(hfu:10<=fu):∀(ab aa out:Bs)(bad:Bool),aa.length<n->ab.length+aa.length<100000000->out.length+3*aa.length<400000000 ->
  qgr fu n (ab++aa) out bad (ab.length:Int)=some (out++vu [239,191,189] aa.length bad aa):=by
 induction n with
 |zero=>intro ab aa out bad h;omega|succ n ih=>
  intro ab aa out bad h hb ho;rw[qgr,qu1]
  cases aa with
  |nil=>rw[ap];simp[vu]|cons c t=>
   have hw:=decodeL_width (c::t);have hle:=decodeL_le (c::t) (by simp)
   simp only[qL]at h hb ho;rw[ag (by rw[cd];omega),zfw fu hfu ab c t,qB]
   show _=some (out++vu [239,191,189] (t.length+1) bad (c::t));rw[vu];by_cases hbad:(decodeL (c::t)).1=65533/\(decodeL (c::t)).2=1
   ·have hneg:=(qrz _).2 hbad;rw[ap,qX hbad,decide_eq_true hneg,q3b,hbad.2,zxr,qB,ow _ _]
    have:=fun o=>ih (ab++[c]) t o true (by omega) (by simp;omega)
    simp only[qM,qL,qZ,qS,wM,wO]at this;cases bad
    ·rw[cr,ag (by simp[ar];omega)]
     refine(this (out++[239,191,189]) (by simp;omega)).trans ?_
     simp
    ·rw[bn];refine(this out (by omega)).trans ?_
     simp
   ·have hneg:¬(rn (c::t)).1<0:=fun q=>hbad ((qrz _).1 q)
    have hle':=hle;simp only[qL]at hle';rw[ag (by omega),qW hbad,decide_eq_false hneg,q3b,ow _ _,ag (by rw[cd];omega)]
    have e:List.take (((ab.length+(decodeL (c::t)).2:Nat):Int).toNat-((ab.length:Nat):Int).toNat) (List.drop ((ab.length:Nat):Int).toNat (ab++c::t))=(c::t).take (decodeL (c::t)).2:=by
     rw[r7];congr 1;omega
    rw[e,ag (by rw[List.length_take,Nat.min_eq_left hle];simp[ar];omega)]
    have:=ih (ab++(c::t).take (decodeL (c::t)).2) ((c::t).drop (decodeL (c::t)).2) (out++(c::t).take (decodeL (c::t)).2) false (by rw[List.length_drop];simp only[qL];omega) (by rw[qM,List.length_take,List.length_drop];simp only[qL]at hle ⊢;omega) (by rw[qM,List.length_take,List.length_drop];simp only[qL]at hle ⊢;omega)
    rw[qS,List.take_append_drop,qM,List.length_take,Nat.min_eq_left hle]at this;refine this.trans ?_;rw[qS,qe3 _ t.length false ((c::t).drop (decodeL (c::t)).2) (by rw[List.length_drop];simp only[qL];omega)]
def zue(fu:Nat)(hfu:10<=fu)(s:Bs)(h:s.length<fu:=by omega)(hb:s.length<100000000:=by omega):qmx fu s=some (vu [239,191,189] s.length false s):=by
 have:=zuc fu fu hfu [] s [] false h (by simpa using hb) (by simp;omega)
 simpa [qmx] using this
def zxa(s:Bs)(h:s.length<=1000000):zt s [239,191,189]=some (vu [239,191,189] s.length false s):=by
 unfold zt;rw[ag ⟨h,by simp⟩]
def zxs(s:Bs)(h:s.length<=1000000:=by omega):zu s=some (validD s):=by
 unfold zu;rw[ag (by omega)]
end Go.Sym
namespace Go.Sym
open Go.Lib (validD)
abbrev bt:Type:=Bs×Bs
abbrev dw:Type:=Bs×Bs×List bt
def ml(l:List bt):Prop:=l.length<=4000000/\∀x∈l,x.1.length<=4000000/\x.2.length<=4000000
def z8(m:dw):Prop:=m.1.length<=4000000/\m.2.1.length<=4000000/\ml m.2.2
def lk(a b:Bs):Bool:=a.map lo==b.map lo
def q1r(a b:Bs):lk a b=lk b a:=by unfold lk;rw[Bool.eq_iff_iff];simp only[beq_iff_eq];exact⟨Eq.symm,Eq.symm⟩
def q1s(a:Bs):lk a a=true:=by unfold lk;simp
def qj(fu:Nat)(hfu:90000000<=fu)(a b:Bs)(ha:a.length<=4000000)(hb:b.length<=4000000):ld fu a b=some (lk a b):=
 znj fu a b (by omega) (by omega) (by simp[maxLen];omega) (by simp[maxLen];omega)
def ub(fu:Nat)(hfu:90000000<=fu)(a b:Bs)(ha:a.length<=4000000)(hb:b.length<=4000000):jc fu a b=some (lk a b):=
 q9m fu a b (by omega) (by omega) (by simp[maxLen];omega) (by simp[maxLen];omega)
def zqu(fu n:Nat)(hfu:90000000<=fu)(p:bt)(hp:p.1.length<=4000000):∀(ab aa:List bt),aa.length<n->ab.length+aa.length<100000000->(∀x∈aa,x.1.length<=4000000) ->
  ∃i:Int,qin fu n (ab++aa) ((ab.length+aa.length:Nat):Int) (ab.length:Int) p=some (i,p)/\decide (0<=i)=aa.any (fun x=>lk x.1 p.1):=by
 induction n with
 |zero=>intro ab aa h;omega|succ n ih=>
  intro ab aa h hb hs;rw[qin,qxl]
  cases aa with
  |nil=>rw[ap];exact⟨_,rfl,rfl⟩|cons d aa=>
   simp only[qL]at h hb;rw[ag (by simp only[qL];omega),bf,qB,qwd,qj fu hfu _ _ (hs d qH) hp,qB,qB,aw _]
   obtain⟨i,h1,h2⟩:=ih (ab++[d]) aa (by omega) (by simp;omega) (fun x hx=>hs x (qE _ hx))
   simp only[qM,qL,qZ,qS,wM,wO]at h1;cases e:lk d.1 p.1
   ·simp only[qF,List.any_cons,e,Bool.false_or];rw[show(ab.length+(d::aa).length:Nat)=ab.length+1+aa.length by simp only[qL];omega]
    exact⟨i,h1,h2⟩
   ·simp only[qT,List.any_cons,e,Bool.true_or];exact⟨_,rfl,decide_eq_true (by omega)⟩
def znp(fu:Nat)(hfu:90000000<=fu)(l:List bt)(p:bt)(hp:p.1.length<=4000000)(hs:ml l):qoe fu l p=some (l.any (fun x=>lk x.1 p.1),p):=by
 obtain⟨i,h1,h2⟩:=zqu fu fu hfu p hp [] l (by have:=hs.1;omega) (by have:=hs.1;simp;omega) (fun x hx=>(hs.2 x hx).1)
 simp only[List.nil_append,qZ,wO]at h1;unfold qoe qxk;rw[← h2];exact(congrArg (fun q=>Option.bind q fun x1=>some (decide ((0:Int)<=x1.1),x1.2)) h1).trans rfl
def l5:List bt->List bt->Int×Int
 |_,[]=>(0,0)|ab,p::l=>if eu p.1=false\/20<p.1.length then(10,ab.length) else if ab.any (fun x=>lk x.1 p.1)=true then(7,ab.length) else if 500<p.2.length then(1,ab.length)
  else if validD p.2=false then(5,ab.length) else l5 (ab++[p]) l
def f8(m:dw):Int×Int:=if eu m.1=false\/eu m.2.1=false then(10,-2) else if 60<m.2.2.length then(2,-3) else l5 [] m.2.2
def ml.mono{l l':List bt}(h:ml l)(h1:l'.length<=l.length)(h2:∀x∈l',x∈l):ml l':=⟨Nat.le_trans h1 h.1,fun x hx=>h.2 x (h2 x hx)⟩
def qb(a b:Int):cw a b=some (a,b):=rfl
def w7(a b:Int):ef a b=some (a,b):=rfl
def zrl:gq=some ((0:Int),(0:Int)):=rfl
def zrt(fu n:Nat)(hfu:90000000<=fu)(m:dw)(z:Int×Int):∀(ab aa:List bt),m.2.2=ab++aa->aa.length<n->ml (ab++aa) ->
  qcn fu n (ab++aa) ((ab.length+aa.length:Nat):Int) (ab.length:Int) m z=some (l5 ab aa):=by
 induction n with
 |zero=>intro ab aa _ h;omega|succ n ih=>
  intro ab aa hm h hs;rw[qcn,qwe]
  cases aa with
  |nil=>rw[ap];rfl|cons p aa=>
   have hp:=hs.2 p (by simp)
   have hl:=hs.1;simp only[qL,qM]at h hl;rw[ag (by simp only[qL];omega),bf,qB,qsd fu _,qB,l5]
   have hp3:zf fu (qcn fu n) (ab.length:Int) (ab++p::aa) ((ab.length+(p::aa).length:Nat):Int) (ab.length:Int) false m z p =
     some (if ab.any (fun x=>lk x.1 p.1)=true then(7,(ab.length:Int)) else if 500<p.2.length then(1,(ab.length:Int)) else if validD p.2=false then(5,(ab.length:Int)) else l5 (ab++[p]) aa):=by
    rw[zf,ax rfl,ag (by rw[hm,cd];omega),hm,qm,znp fu hfu ab p hp.1 (hs.mono (by simp) (fun x hx=>by simp[hx])),qB]
    simp only[];by_cases h1:ab.any (fun x=>lk x.1 p.1)=true
    ·rw[qX h1,au h1,qb];rfl
    rw[qW h1,ax (by simpa using h1)]
    by_cases h2:500<p.2.length
    ·rw[qX h2,ag (by omega),qb];rfl
    rw[qW h2,ap,zxs _,qB]
    cases h3:validD p.2
    ·rw[cr,qX rfl,qb];rfl
    ·rw[bn,qW (by simp),aw _]
     have:=ih (ab++[p]) aa (by rw[hm];simp) (by omega) (by simpa using hs)
     simp only[qM,qL,qZ,qS,wM,wO]at this;rw[show(ab.length+(p::aa).length:Nat)=ab.length+1+aa.length by simp only[qL];omega]
     exact this
   cases h0:eu p.1
   ·rw[cr,qX (.inl rfl),zf,au rfl,qb];rfl
   rw[bn];by_cases h20:20<p.1.length
   ·rw[decide_eq_true (by omega),qX (.inr h20),zf,au rfl,qb];rfl
   ·rw[decide_eq_false (p:=(20:Int)<(List.length p.1:Int)) (by omega),hp3,qW (c:=true=false\/20<p.1.length) (by simp;omega)]
def q14(fu:Nat)(hfu:90000000<=fu)(m:dw)(hs:z8 m):tu fu m=some (f8 m):=by
 obtain⟨h1,h2,h3⟩:=hs;unfold tu f8;rw[qsd fu m.1,qB,qsd fu m.2.1]
 cases g1:eu m.1
 ·rw[cr,qcm,au rfl,qb,qX (.inl rfl)];rfl
 rw[bn,qB];cases g2:eu m.2.1
 ·rw[qcm,cr,qb,qX (.inr rfl)];rfl
 rw[qcm,bn,qwf,qW (by simp)]
 by_cases g3:60<m.2.2.length
 ·rw[ag (by omega),qX g3,qb];rfl
 ·rw[ap,qW g3]
  have:=zrt fu fu hfu m (0,0) [] m.2.2 rfl (by have:=h3.1;omega) h3
  simpa using this
def zux(fu n:Nat)(hfu:90000000<=fu)(r2:yd)(m:dw)(z:Int×Int)(p:bt)(rest:List bt)(hp:p.1.length<=4000000):∀(ab aa:List bt),m.2.2=ab++aa++p::rest->aa.length<n->ml m.2.2 ->
  qfv fu r2 n ((ab.length+aa.length:Nat):Int) (ab.length:Int) m z p =
   if aa.any (fun x=>lk x.1 p.1)=true then some (7,((ab.length+aa.length:Nat):Int)) else bif decide ((500:Int)<(List.length p.2:Int)) then(ef (1:Int) ((ab.length+aa.length:Nat):Int)).bind fun x4=>some x4 else(qgk fu p.2).bind fun x5=>bif !x5 then(ef (5:Int) ((ab.length+aa.length:Nat):Int)).bind fun x6=>some x6 else r2 (af (((ab.length+aa.length:Nat):Int)+(1:Int))) m z:=by
 induction n with
 |zero=>intro ab aa _ h;omega|succ n ih=>
  intro ab aa hm h hs;rw[qfv,qt1]
  cases aa with
  |nil=>rw[ap,qW (by simp)]|cons d aa=>
   have hl:=hs.1;rw[hm]at hl;simp only[qL,qM]at h hl;rw[ag (by simp only[qL];omega)]
   have hx:am m.2.2 (ab.length:Int)=some d:=by rw[hm,qS,wK];exact bf ab d _
   rw[hx,qB,ub fu hfu _ _ (hs.2 d (by rw[hm];simp)).1 hp,qB,aw _]
   have:=ih (ab++[d]) aa (by rw[hm];simp) (by omega) hs
   simp only[qM,qL,qZ,qS,wM,wO]at this;cases e:lk d.1 p.1
   ·simp only[qF,List.any_cons,e,Bool.false_or];rw[show(ab.length+(d::aa).length:Nat)=ab.length+1+aa.length by simp only[qL];omega]
    exact this
   ·simp only[qT,List.any_cons,e,Bool.true_or,if_true];rfl
def zuv(fu n:Nat)(hfu:90000000<=fu)(m:dw)(z:Int×Int)(hs:ml m.2.2):∀(ab aa:List bt),m.2.2=ab++aa->aa.length<n ->
  ym fu n (ab.length:Int) m z=some (l5 ab aa):=by
 induction n with
 |zero=>intro ab aa _ h;omega|succ n ih=>
  intro ab aa hm h;rw[ym,qt0,hm]
  cases aa with
  |nil=>rw[ap];rfl|cons p aa=>
   have hp:=hs.2 p (by rw[hm];simp)
   have hl:=hs.1;rw[hm]at hl;simp only[qL,qM]at h hl;rw[ag (by rw[cd];omega),bf,qB,qr3 fu (by omega) _,qB,l5]
   have hp3:yn fu (ym fu n) (ab.length:Int) false m z p =
     some (if ab.any (fun x=>lk x.1 p.1)=true then(7,(ab.length:Int)) else if 500<p.2.length then(1,(ab.length:Int)) else if validD p.2=false then(5,(ab.length:Int)) else l5 (ab++[p]) aa):=by
    rw[yn,ax rfl,qt3];have:=zux fu fu hfu (ym fu n) m z p aa hp.1 [] ab (by rw[hm];simp) (by omega) hs
    simp only[qZ,wO]at this;refine(this:_=_).trans ?_;by_cases h1:ab.any (fun x=>lk x.1 p.1)=true
    ·rw[qX h1,qX h1]
    rw[qW h1,qW h1];by_cases h2:500<p.2.length
    ·rw[qX h2,ag (by omega)];rfl
    rw[qW h2,ap,zvz fu (by omega) _,qB]
    cases h3:validD p.2
    ·rw[cr,qX rfl];rfl
    ·rw[bn,qW (by simp),aw _]
     have:=ih (ab++[p]) aa (by rw[hm];simp) (by omega)
     simpa only [qM,qL,qZ,wO] using this
   cases h0:eu p.1
   ·rw[cr,qX (.inl rfl),yn,au rfl,w7];rfl
   rw[bn];by_cases h20:20<p.1.length
   ·rw[decide_eq_true (by omega),qX (.inr h20),yn,au rfl,w7];rfl
   ·rw[decide_eq_false (p:=(20:Int)<(List.length p.1:Int)) (by omega),hp3,qW (c:=true=false\/20<p.1.length) (by simp;omega)]
def zuw(fu:Nat)(hfu:90000000<=fu)(m:dw)(hs:z8 m):qmh fu m=some (f8 m):=by
 obtain⟨h1,h2,h3⟩:=hs;unfold qmh f8;rw[qr3 fu (by omega) m.1,qB,qr3 fu (by omega) m.2.1]
 cases g1:eu m.1
 ·rw[cr,qbp,au rfl,w7,qX (.inl rfl)];rfl
 rw[bn,qB];cases g2:eu m.2.1
 ·rw[qbp,cr,w7,qX (.inr rfl)];rfl
 rw[qbp,bn,qt2,qW (by simp)]
 by_cases g3:60<m.2.2.length
 ·rw[ag (by omega),qX g3,w7];rfl
 ·rw[ap,qW g3]
  exact zuv fu fu hfu m (0,0) h3 [] m.2.2 rfl (by have:=h3.1;omega)
def par(l:List bt)(nm:Bs):Option Bs:=(l.find? fun x=>lk x.1 nm).map (·.2)
def d5(l:List bt)(nm:Bs):Bs×Bool:=match par l nm with|some v=>(v,true)|none=>([],false)
def q2n(p:bt)(l:List bt)(nm:Bs):d5 (p::l) nm=if lk p.1 nm=true then(p.2,true) else d5 l nm:=by
 unfold d5 par;rw[List.find?_cons];cases lk p.1 nm<;>rfl
def zrn(fu n:Nat)(hfu:90000000<=fu)(nm:Bs)(hn:nm.length<=4000000)(z:Int×Int):∀(ab aa:List bt),aa.length<n->ml (ab++aa) ->
  qhv fu n nm (ab++aa) ((ab.length+aa.length:Nat):Int) (ab.length:Int) z=some ((d5 aa nm).1,((d5 aa nm).2,(0,0))):=by
 induction n with
 |zero=>intro ab aa h;omega|succ n ih=>
  intro ab aa h hs;rw[qhv,qwb]
  cases aa with
  |nil=>rw[ap];rfl|cons p aa=>
   have hl:=hs.1;simp only[qL,qM]at h hl;rw[ag (by simp only[qL];omega),bf,qB,qj fu hfu _ _ (hs.2 p (by simp)).1 hn,qB,aw _,q2n]
   have:=ih (ab++[p]) aa (by omega) (by simpa using hs)
   simp only[qM,qL,qZ,qS,wM,wO]at this;cases e:lk p.1 nm
   ·rw[ax rfl,show(ab.length+(p::aa).length:Nat)=ab.length+1+aa.length by simp only[qL];omega]
    exact this
   ·rfl
def zdd(fu:Nat)(hfu:90000000<=fu)(m:dw)(nm:Bs)(hn:nm.length<=4000000)(hs:z8 m):qhu fu m nm=some (if(f8 m).1≠0 then([],(false,f8 m)) else((d5 m.2.2 nm).1,((d5 m.2.2 nm).2,(0,0)))):=by
 unfold qhu;rw[q14 fu hfu m hs,qB,mw,qB,fh];by_cases h:(f8 m).1≠0
 ·rw[qX h,qX h]
 ·rw[qW h,qW h];have:=zrn fu fu hfu nm hn (0,0) [] m.2.2 (by have:=hs.2.2.1;omega) hs.2.2
  simpa using this
def zu7(fu n:Nat)(hfu:90000000<=fu)(nm:Bs)(hn:nm.length<=4000000)(m:dw)(hs:ml m.2.2):∀(ab aa:List bt),m.2.2=ab++aa->aa.length<n ->
  qf7 fu n nm (ab.length:Int) m=some (d5 aa nm):=by
 induction n with
 |zero=>intro ab aa _ h;omega|succ n ih=>
  intro ab aa hm h;rw[qf7,quc,hm]
  cases aa with
  |nil=>rw[ap];rfl|cons p aa=>
   have hl:=hs.1;rw[hm]at hl;simp only[qL,qM]at h hl;rw[ag (by rw[cd];omega),bf,qB,ub fu hfu _ _ (hs.2 p (by rw[hm];simp)).1 hn,qB,aw _,q2n]
   have:=ih (ab++[p]) aa (by rw[hm];simp) (by omega)
   simp only[qM,qL,qZ,wO]at this;cases e:lk p.1 nm
   ·rw[ax rfl];exact this
   ·rfl
def q3e(fu:Nat)(hfu:90000000<=fu)(m:dw)(nm:Bs)(hn:nm.length<=4000000)(hs:ml m.2.2):qmk fu m nm=some (d5 m.2.2 nm):=
 zu7 fu fu hfu nm hn m hs [] m.2.2 rfl (by have:=hs.1;omega)
end Go.Sym
namespace Go.Sym
def zg1(fu n:Nat):∀(s:List UInt8),s.length<n->s.length<1000000000->qi2 fu n s (lg [32,9])=some (be s,lg [32,9]):=by
 induction n with
 |zero=>intro s h;omega|succ n ih=>
  intro s h hb;rw[qi2,qyd]
  cases s with
  |nil=>rw[ap];rfl|cons c s=>
   simp only[qL]at h hb;rw[ag (by simp),show am (c::s) (0:Int)=some c from rfl,qB,q0f wh,qB,q99,qa]
   cases bl c
   ·rfl
   ·rw[bn,ag (by simp only[qL];omega)]
    exact ih s (by omega) (by omega)
def zf1(fu:Nat)(s:List UInt8)(hfu:100<=fu)(h:s.length<fu)(hb:s.length<1000000000):qiv fu s [32,9]=some (fp s):=by
 unfold qiv
 cases s with
 |nil=>rfl|cons c s=>
  rw[ax (by rfl)]
  unfold qov;rw[ax (by rfl)]
  unfold qx7;rw[ax (by decide)]
  unfold qow;rw[ax (by rfl)]
  unfold qx8;obtain⟨n,rfl⟩:∃n,fu=n+100:=⟨fu-100,by omega⟩
  rw[wh.set,qB];simp only[wh.len];rw[au (by rw[List.length_replicate];rfl),au]
  unfold qi3 qi1;have:=qel (c::s);rw[zg0 _ _ _ h hb,qB,zg1 _ _ (et (c::s)) (by omega) (by omega),qB,q31]
def qed(s:Bs):be (be s)=be s:=by
 induction s with
 |nil=>rfl|cons c s ih=>
  rw[qa];by_cases h:bl c=true
  ·rw[qX h];exact ih
  ·rw[qW h,qa,qW h]
def sm(s:Bs):be s <:+ s:=List.dropWhile_suffix _
def zxd(fu:Nat)(s:List UInt8)(hfu:100<=fu:=by omega)(h:s.length<fu:=by omega)(hb:s.length<1000000000:=by omega):qoq fu s [32,9]=some (be s):=by
 unfold qoq
 cases s with
 |nil=>rfl|cons c s=>
  rw[ax (by rfl)]
  unfold qor;rw[ax (by rfl)]
  unfold qx3;rw[ax (by decide)]
  unfold qos;rw[ax (by rfl)]
  unfold qx4;obtain⟨n,rfl⟩:∃n,fu=n+100:=⟨fu-100,by omega⟩
  rw[wh.set,qB];simp only[wh.len];rw[au (by rw[List.length_replicate];rfl),au]
  unfold qi1;rw[zg1 _ _ _ h hb];rfl
def qdg(fu:Nat)(hfu:90000000<=fu)(s:Bs)(h:s.length<=4000000):vv fu s=some (be s):=by
 unfold vv;rw[zxd fu s];rfl
def bz(p:UInt8->Bool)(s:Bs):Bs×Bs:=((be s).takeWhile p,(be s).dropWhile p)
def dt(c:UInt8):Bool:=tk c||c==42
def kq(c:UInt8):Bool:=tk c||(c==37||(c==39||c==42))
def xp(P:UInt8->Option Bool):Nat->Int->Bs->Option (Bs×Bs)
 |0,_,_=>none|n+1,s5,m0=>bif decide (s5<(List.length m0:Int)) then(am m0 s5).bind fun c1=>(P c1).bind fun x2=>(bif x2 then xp P n (af (s5+(1:Int))) m0 else bif decide (0<=s5/\s5<=(List.length m0:Int)) then bif decide (0<=s5/\s5<=(List.length m0:Int)) then some (List.take s5.toNat m0,List.drop s5.toNat m0) else none else none)
  else(bif false then xp P n (af (s5+(1:Int))) m0 else bif decide (0<=s5/\s5<=(List.length m0:Int)) then bif decide (0<=s5/\s5<=(List.length m0:Int)) then some (List.take s5.toNat m0,List.drop s5.toNat m0) else none else none)
def zw1(P:UInt8->Option Bool)(p:UInt8->Bool)(hP:∀c,P c=some (p c))(n:Nat):∀(ab aa:Bs),aa.length<n->ab.length+aa.length<9223372036854775807 ->
  xp P n (ab.length:Int) (ab++aa)=some (ab++aa.takeWhile p,aa.dropWhile p):=by
 induction n with
 |zero=>intro ab aa h;omega|succ n ih=>
  intro ab aa h hb;rw[xp]
  cases aa with
  |nil=>rw[ap,ax rfl,ag (by simp),ag (by simp),qm,r7];simp|cons d aa=>
   simp only[qL]at h hb;rw[ag (by rw[cd];omega),bf,qB,hP,qB,aw _,qm,r7,List.takeWhile_cons,List.dropWhile_cons]
   have:=ih (ab++[d]) aa (by omega) (by simp;omega)
   simp only[qM,qL,qZ,qS,wM,wO]at this;cases p d
   ·rw[ax rfl,ag (by rw[cd];omega),ag (by rw[cd];omega)];simp
   ·rw[au rfl];simpa using this
def q3z(P:UInt8->Option Bool)(p:UInt8->Bool)(hP:∀c,P c=some (p c))(fu:Nat)(hfu:90000000<=fu)(s:Bs)(h:s.length<=4000000):xp P fu 0 (be s)=some (bz p s):=by
 have hl:=kh s;have:=zw1 P p hP fu [] (be s) (by omega) (by simp;omega)
 simpa [bz] using this
def zgn(fu:Nat)(hfu:90000000<=fu)(s:Bs)(h:s.length<=4000000:=by omega):qh9 fu s=some (bz tk s):=by
 have e:∀n,qia fu n=xp o8 n:=by
  intro n;induction n with|zero=>rfl|succ n ih=>rw[qia,ih];funext a b;rfl
 unfold qh9;rw[qdg fu hfu s h,qB,e];exact q3z _ tk qk5 fu hfu s h
def zw6(c:UInt8):qh8 c=some (dt c):=by
 unfold qh8 dt;rw[qk5,qB];cases tk c<;>rfl
def zw7(c:UInt8):qid c=some (kq c):=by
 unfold qid kq;rw[qk5,qB];cases tk c
 ·cases c==37
  ·cases c==39<;>rfl
  ·rfl
 ·rfl
def zwz(fu:Nat)(hfu:90000000<=fu)(s:Bs)(h:s.length<=4000000):qnv fu s=some (bz dt s):=by
 have e:∀n,qib fu n=xp qh8 n:=by
  intro n;induction n with|zero=>rfl|succ n ih=>rw[qib,ih];funext a b;rfl
 unfold qnv;rw[qdg fu hfu s h,qB,e];exact q3z _ dt zw6 fu hfu s h
def zw0(fu:Nat)(hfu:90000000<=fu)(s:Bs)(h:s.length<=4000000:=by omega):qnw fu s=some (bz kq s):=by
 have e:∀n,qic fu n=xp qid n:=by
  intro n;induction n with|zero=>rfl|succ n ih=>rw[qic,ih];funext a b;rfl
 unfold qnw;rw[qdg fu hfu s h,qB,e];exact q3z _ kq zw7 fu hfu s h
def dd(c:UInt8)(s:Bs):Bool×Bs:=match be s with|[]=>(false,[])|d::t=>if d=c then(true,t) else(false,d::t)
def qre(fu:Nat)(hfu:90000000<=fu)(c:UInt8)(s:Bs)(h:s.length<=4000000:=by omega):zg fu c s=some (dd c s):=by
 unfold zg dd;rw[qdg fu hfu s h,qB]
 cases be s with
 |nil=>rfl|cons d t=>
  rw[ax (by rfl),show am (d::t) (0:Int)=some d from rfl,qB,wj]
  by_cases hd:d=c
  ·rw[qW (by simp[hd]),ag (by simp only[qL];omega)];simp[hd]
  ·rw[qX hd];simp[hd]
def qv:Bs->Bs->Option (Bs×Bs)
 |_,[]=>none| out,c::t=>if c=34 then some (out,t) else if c=92 then(match t with
  |[]=>none| d::t'=>qv (out++[d]) t') else qv (out++[c]) t
def qei(out:Bs)(c:UInt8)(t:Bs):qv out (c::t)=if c=34 then some (out,t) else if c=92 then(match t with
  |[]=>none| d::t'=>qv (out++[d]) t') else qv (out++[c]) t:=by cases t<;>rfl
def gh:4000000000<=a8:=by decide
def ztx(fu n:Nat):∀(ab aa out:Bs),aa.length<n->ab.length+aa.length<100000000->out.length+aa.length<100000000 ->
  qie fu n (ab.length:Int) (ab++aa) out=some (match qv out aa with|some (v,t)=>(v,(true,t))|none=>([],(false,ab++aa))):=by
 have hrm:=gh
 induction n using Nat.strongRecOn with
 |ind n ih=>
  intro ab aa out h hb ho;obtain⟨n,rfl⟩:∃m,n=m+1:=⟨n-1,by omega⟩
  rw[qie,qws]
  cases aa with
  |nil=>rw[ap];rfl|cons c t=>
   simp only[qL]at h hb ho;rw[ag (by rw[cd];omega),bf,qB,aw _,jz]
   have ih1:=ih n (by omega) (ab++[c]) t (out++[c]) (by omega) (by simp;omega) (by simp;omega)
   simp only[qM,qL,qZ,qS,wM,wO]at ih1;by_cases h1:c=34
   ·rw[qX h1,ag (by rw[cd];omega),qdz,qei,qX h1]
   rw[qW h1,jz];by_cases h2:c=92
   ·rw[qX h2,gv,cd]
    cases t with
    |nil=>rw[qX (by simp),qei,qW h1,qX h2]|cons d t=>
     simp only[qL]at h hb ho ⊢;rw[qW (by omega),show am (ab++c::d::t) ((ab.length+1:Nat):Int)=some d by have:=bf (ab++[c]) d t;simpa using this,qB,ag (by simp;omega),aw _,qei,qW h1,qX h2]
     have ih2:=ih n (by omega) (ab++[c,d]) t (out++[d]) (by omega) (by simp;omega) (by simp;omega)
     simp only[qM,qL,qZ,qS,wK,List.nil_append,wO]at ih2;exact ih2
   ·rw[qW h2,ag (by simp;omega),qei,qW h1,qW h2]
    exact ih1
def xt(s:Bs):Option (Bs×Bs):=if(dd 34 s).1=true then qv [] (dd 34 s).2 else some (bz kq (dd 34 s).2)
def qeq(c:UInt8)(s:Bs):(dd c s).2.length<=s.length:=by
 have:=kh s;unfold dd
 cases h:be s with
 |nil=>simp|cons d t=>
  rw[h]at this;simp only[qL]at this;by_cases hd:d=c
  ·simp only[qX hd];omega
  ·simp only[qW hd,qL];omega
def zxy(fu:Nat)(hfu:90000000<=fu)(s:Bs)(h:s.length<=4000000:=by omega):∃r,qnx fu s=some (match xt s with|some (v,t)=>(v,(true,t))|none=>([],(false,r))):=by
 have hl:=qeq 34 s;unfold qnx xt;rw[qre fu hfu 34 s h,qB];cases hs:(dd 34 s).1
 ·rw[cr,zw0 fu hfu _,qW (by simp)]
  exact⟨[],rfl⟩
 ·rw[bn,qX rfl];have:=ztx fu fu [] (dd 34 s).2 [] (by omega) (by simp;omega) (by simp;omega)
  exact⟨(dd 34 s).2,by simpa using this⟩
def p8(s:Bs):Option ((Bs×Bs)×Bs):=if(dd 61 (bz dt s).2).1=true then(xt (dd 61 (bz dt s).2).2).map fun x=>(((bz dt s).1,x.1),x.2) else none
def qa9(p:UInt8->Bool)(s:Bs):(bz p s).1.length+(bz p s).2.length<=s.length:=by
 have:=kh s;have h:=congrArg List.length (List.takeWhile_append_dropWhile (p:=p) (l:=be s));rw[qM]at h;unfold bz;simp only;omega
def zej:∀(out s v t:Bs),qv out s=some (v,t)->v.length+t.length<out.length+s.length/\t <:+ s:=by
 intro out s
 induction s using WellFounded.induction (r:=fun(a b:Bs)=>a.length<b.length) (hwf:=InvImage.wf List.length Nat.lt_wfRel.wf) generalizing out with
 |_ s ih=>
  intro v t h
  cases s with
  |nil=>cases h
  |cons c s=>
   rw[qei]at h;by_cases h1:c=34
   ·rw[qX h1]at h;cases h;exact⟨by simp,List.suffix_cons _ _⟩
   rw[qW h1]at h;by_cases h2:c=92
   ·rw[qX h2]at h
    cases s with
    |nil=>cases h
    |cons d s=>
     obtain⟨g1,g2⟩:=ih s (by simp;omega) (out++[d]) v t h
     refine⟨by simp at g1 ⊢;omega,g2.trans ((List.suffix_cons _ _).trans (List.suffix_cons _ _))⟩
   ·rw[qW h2]at h;obtain⟨g1,g2⟩:=ih s (by simp) (out++[c]) v t h
    exact⟨by simp at g1 ⊢;omega,g2.trans (List.suffix_cons _ _)⟩
def zf7(c:UInt8)(s:Bs):(dd c s).2 <:+ s:=by
 have:=sm s;unfold dd
 cases h:be s with
 |nil=>simp|cons d t=>
  rw[h]at this;by_cases hd:d=c
  ·simp only[qX hd];exact(List.suffix_cons _ _).trans this
  ·simp only[qW hd];exact this
def zgo(p:UInt8->Bool)(s:Bs):(bz p s).2 <:+ s:=(List.dropWhile_suffix _).trans (sm s)
def zxt{s v t:Bs}(h:xt s=some (v,t)):v.length+t.length<=s.length/\t <:+ s:=by
 have hl:=qeq 34 s;have hx:=zf7 34 s;unfold xt at h;by_cases hs:(dd 34 s).1=true
 ·rw[qX hs]at h;obtain⟨g1,g2⟩:=zej [] _ _ _ h;exact⟨by simp at g1;omega,g2.trans hx⟩
 ·rw[qW hs]at h;have e:=qJ h;have g1:=qa9 kq (dd 34 s).2;have g2:=zgo kq (dd 34 s).2;rw[e]at g1 g2;simp only at g1 g2;exact⟨by omega,g2.trans hx⟩
def q1q{s n v t:Bs}(h:p8 s=some ((n,v),t)):n.length+v.length+t.length<=s.length/\t <:+ s:=by
 have h1:=qa9 dt s;have h1':=zgo dt s;have h2:=qeq 61 (bz dt s).2;have h2':=zf7 61 (bz dt s).2;unfold p8 at h;by_cases hs:(dd 61 (bz dt s).2).1=true
 ·rw[qX hs]at h
  cases hv:xt (dd 61 (bz dt s).2).2 with
  |none=>rw[hv]at h;cases h
  |some x=>
   rw[hv]at h;obtain⟨g1,g2⟩:=zxt (v:=x.1) (t:=x.2) hv;have e:=qJ h;obtain⟨rfl,e2⟩:=Prod.mk.inj (Prod.mk.inj e).1;obtain rfl:=(Prod.mk.inj e).2;subst e2;exact⟨by omega,g2.trans (h2'.trans h1')⟩
 ·rw[qW hs]at h;cases h
def pos(s r:Bs):Int:=((s.length-r.length:Nat):Int)
def qko{s r:Bs}(h:r <:+ s):List.drop (pos s r).toNat s=r:=(List.suffix_iff_eq_drop.1 h).symm
def zec{s r:Bs}(h:r <:+ s):∃p,s=p++r/\pos s r=(p.length:Int):=by
 obtain⟨p,rfl⟩:=h;exact⟨p,rfl,by unfold pos;simp⟩
def xf{s:Bs}{c:UInt8}{t:Bs}(h:(c::t) <:+ s):am s (pos s (c::t))=some c:=by
 obtain⟨p,rfl,e⟩:=zec h;rw[e];exact bf p c t
def qg{s:Bs}{c:UInt8}{t:Bs}(h:(c::t) <:+ s)(hb:s.length<1000000000:=by omega):af (pos s (c::t)+1)=pos s t:=by
 have:=h.length_le;simp only[qL]at this;unfold pos;rw[aw _];simp only[qL];omega
def nj{s:Bs}{c:UInt8}{t:Bs}(h:(c::t) <:+ s):pos s (c::t)<(s.length:Int):=by
 have:=h.length_le;simp only[qL]at this;unfold pos;simp only[qL];omega
def ix(s:Bs):pos s []=(s.length:Int):=by unfold pos;simp
def q2t(s:Bs):pos s s=0:=by unfold pos;simp
def uu(s r:Bs):0<=pos s r/\pos s r<=(s.length:Int):=by unfold pos;omega
def q2u{s r r':Bs}(h2:r' <:+ r):pos s r<=pos s r':=by have:=h2.length_le;unfold pos;omega
def q2v{s r r':Bs}(h:r <:+ s)(h2:r' <:+ r):List.take ((pos s r').toNat-(pos s r).toNat) (List.drop (pos s r).toNat s)=r.take (r.length-r'.length):=by
 rw[qko h];have:=h.length_le;have:=h2.length_le;congr 1;unfold pos;omega
def zw2(p:UInt8->Bool)(r:Bs):r.take (r.length-(r.dropWhile p).length)=r.takeWhile p:=by
 have h:r.takeWhile p++r.dropWhile p=r:=List.takeWhile_append_dropWhile;have h2:=congrArg List.length h;rw[qM]at h2;rw[show r.length-(r.dropWhile p).length=(r.takeWhile p).length by omega]
 have e:r.take (r.takeWhile p).length=(r.takeWhile p++r.dropWhile p).take (r.takeWhile p).length:=by rw[h]
 rw[e,List.take_left]
def zv6(fu n:Nat)(s:Bs)(hb:s.length<100000000):∀(r:Bs),r <:+ s->r.length<n->qgt fu n s (pos s r)=some (pos s (be r)):=by
 induction n with
 |zero=>intro r _ h;omega|succ n ih=>
  intro r hr h;rw[qgt,qu3]
  cases r with
  |nil=>rw[ix,ap];simp[be,ix]|cons c t=>
   rw[ag (nj hr),xf hr,qB,xg,qB,qg hr,qa]
   cases hc:bl c
   ·rfl
   ·rw[au rfl,qX rfl];exact ih t ((List.suffix_cons _ _).trans hr) (by simp only[qL]at h;omega)
def xj(fu:Nat)(hfu:90000000<=fu){s r:Bs}(h:s.length<=4000000)(hr:r <:+ s):qx fu s (pos s r)=some (pos s (be r)):=
 zv6 fu fu s (by omega) r hr (by have:=hr.length_le;omega)
def zvp(fu n:Nat)(hfu:90000000<=fu)(more:Bs)(hm:more.length<100)(s:Bs)(hb:s.length<100000000):∀(r:Bs),r <:+ s->r.length<n->qgs fu n s (pos s r) more=some (pos s (r.dropWhile fun c=>tk c||more.contains c)):=by
 induction n with
 |zero=>intro r _ h;omega|succ n ih=>
  intro r hr h;rw[qgs,qu2]
  cases r with
  |nil=>rw[ix,ap];simp[ix]|cons c t=>
   rw[ag (nj hr),xf hr,qB,q3g fu (by omega),qB,qg hr,List.dropWhile_cons]
   have:=ih t ((List.suffix_cons _ _).trans hr) (by simp only[qL]at h;omega)
   cases hc:tk c
   ·rw[ax rfl,qB,zdx fu c more,qB,Bool.false_or]
    cases hd:more.contains c
    ·rfl
    ·rw[au rfl];exact this
   ·rw[au rfl];exact this
def qkw(fu:Nat)(hfu:90000000<=fu)(more:Bs)(hm:more.length<100){s r:Bs}(h:s.length<=4000000)(hr:r <:+ s)(p:UInt8->Bool)(hp:∀c,(tk c||more.contains c)=p c) :
  qb6 fu s (pos s r) more=some (pos s (r.dropWhile p)):=by
 have:=zvp fu fu hfu more hm s (by omega) r hr (by have:=hr.length_le;omega)
 rw[show(fun c=>tk c||more.contains c)=p from funext hp]at this
 exact this
open Go.Lib (decDigits nDigits itoa atoiAll parseUint10 parseMag NumEnd)
def qjx(d:Nat)(h:d<10:=by omega):(UInt8.ofNat (48+d)).toNat=48+d:=by
 rw[UInt8.toNat_ofNat'];omega
def qds(u:Nat)(h:u<10):decDigits u=[UInt8.ofNat (48+u)]:=by rw[decDigits,dif_pos h]
def qdr(u:Nat)(h:¬u<10):decDigits u=decDigits (u/10)++[UInt8.ofNat (48+u%10)]:=by rw[decDigits,dif_neg h]
def za7(u:Nat):decDigits u≠[]:=by
 by_cases h:u<10
 ·rw[qds u h];simp
 ·rw[qdr u h];simp
def za6(u:Nat):∀c∈decDigits u,48<=c.toNat/\c.toNat<=57:=by
 induction u using Nat.strongRecOn with
 |ind u ih=>
  intro c hc;by_cases h:u<10
  ·rw[qds u h]at hc;rw[List.mem_singleton.1 hc,qjx u h];omega
  ·rw[qdr u h]at hc;rcases List.mem_append.1 hc with hc|hc
   ·exact ih (u/10) (by omega) c hc
   ·rw[List.mem_singleton.1 hc,qjx _];omega
def qjw(k:Nat):∀u,u<10 ^ k->1<=k->(decDigits u).length<=k:=by
 induction k with
 |zero=>intro u _ h;omega|succ k ih=>
  intro u hu _;by_cases h:u<10
  ·rw[qds u h];simp
  ·rw[qdr u h,qM,wD];have hk:1<=k:=by
    rcases Nat.eq_zero_or_pos k with h0|h0
    ·subst h0;simp at hu;omega
    ·exact h0
   have:=ih (u/10) (by rw[Nat.pow_succ]at hu;omega) hk
   omega
def sc(a:Nat)(l:Bs):Nat:=l.foldl (fun a c=>10*a+(c.toNat-48)) a
def zox(u:Nat):sc 0 (decDigits u)=u:=by
 induction u using Nat.strongRecOn with
 |ind u ih=>
  by_cases h:u<10
  ·rw[qds u h];show 10*0+((UInt8.ofNat (48+u)).toNat-48)=u;rw[qjx u h];omega
  ·rw[qdr u h];unfold sc;rw[List.foldl_append];have:=ih (u/10) (by omega)
   unfold sc at this;rw[this];show 10*(u/10)+((UInt8.ofNat (48+u%10)).toNat-48)=u;rw[qjx _];omega
def zst:∀(l:Bs)(a:Nat)(c:UInt8),parseUint10 a (l++[c])=match parseUint10 a l with | .ok b=>parseUint10 b [c]|e=>e:=by
 intro l
 induction l with
 |nil=>intro a c;rfl|cons d l ih=>
  intro a c;rw[wK,parseUint10,parseUint10];by_cases h1:48<=d.toNat/\d.toNat<=57
  ·rw[qX h1,qX h1];by_cases h2:1844674407370955162<=a
   ·rw[qX h2,qX h2]
   ·rw[qW h2,qW h2];by_cases h3:18446744073709551616<=a*10+(d.toNat-48)
    ·rw[qX h3,qX h3]
    ·rw[qW h3,qW h3,ih]
  ·rw[qW h1,qW h1]
def zsu(u:Nat):u<9223372036854775808->parseUint10 0 (decDigits u) = .ok u:=by
 induction u using Nat.strongRecOn with
 |ind u ih=>
  intro hu;have step:∀a d,a*10+d=u->d<10->parseUint10 a [UInt8.ofNat (48+d)] = .ok u:=by
   intro a d h1 h2;rw[parseUint10,qjx d h2,qX (by omega),qW (by omega),qW (by omega),parseUint10]
   congr 1;omega
  by_cases h:u<10
  ·rw[qds u h];exact step 0 u (by omega) h
  ·rw[qdr u h,zst,ih (u/10) (by omega) (by omega)]
   exact step (u/10) (u%10) (by omega) (by omega)
def zmv(u:Nat)(hu:u<9223372036854775808:=by omega):atoiAll (decDigits u) = .ok (u:Int):=by
 have hd:=za6 u;have hp:=zsu u hu;have hne:=za7 u
 cases hl:decDigits u with
 |nil=>exact absurd hl hne|cons c r=>
  rw[hl]at hd hp;have hc:=hd c qH;unfold atoiAll;simp only[];rw[qW (c:=c.toNat=43\/c.toNat=45) (by omega),parseMag,qW (by simp),hp]
  simp only[];rw[qW (by omega),qW (by omega),qW (by omega)]
def q1j(u:Nat):itoa (u:Int)=decDigits u:=by unfold itoa;rw[qW (by omega)];simp
def zr7(u:Nat)(most:Int)(h:(u:Int)<=most)(hm:most<9223372036854775808):g8 (decDigits u) most=((u:Int),true):=by
 unfold g8;rw[zmv u]
 simp only[];rw[qX ⟨q1j u,by omega,h⟩]
def q2c{s:Bs}{most:Int}(h:(g8 s most).2=true):∃u:Nat,s=decDigits u/\(u:Int)<=most/\g8 s most=((u:Int),true):=by
 have h0:=h;unfold g8 at h;split at h
 ·rename_i v hv;by_cases hc:itoa v=s/\0<=v/\v<=most
  ·obtain⟨u,rfl⟩:∃u:Nat,v=u:=⟨v.toNat,by omega⟩
   refine⟨u,by rw[← hc.1,q1j],hc.2.2,?_⟩
   unfold g8;rw[hv];simp only[];rw[qX hc]
  ·rw[qW hc]at h;cases h
 ·cases h
def qsf{x:Int}(h1:0<=x:=by omega)(h2:x<18446744073709551616:=by omega):IntKind.u64.wrap x=x:=by
 unfold IntKind.wrap;simp[IntKind.signed,IntKind.bits];omega
def zba(d:Nat)(h:d<10):List.take (d+1-d) (List.drop d ([48,49,50,51,52,53,54,55,56,57]:Bs))=[UInt8.ofNat (48+d)]:=by
 have:∀d:_root_.Fin 10,List.take (d.val+1-d.val) (List.drop d.val ([48,49,50,51,52,53,54,55,56,57]:Bs))=[UInt8.ofNat (48+d.val)]:=by decide
 exact this ⟨d,h⟩
def zog(fu:Nat)(k:Nat):∀(n u:Nat),k<=n->u<10 ^ k->1<=k->u<9223372036854775808->qgm fu n (u:Int)=some (decDigits u):=by
 induction k with
 |zero=>intro n u _ _ h;omega|succ k ih=>
  intro n u hn hu _ hb;obtain⟨n,rfl⟩:∃m,n=m+1:=⟨n-1,by omega⟩
  rw[qgm,qmv];by_cases h:u<10
  ·rw[ag (by omega),show(u:Int)+1=((u+1:Nat):Int) by omega,qsf,ag (by simp;omega),qds u h]
   simp only[qY];rw[zba u h]
  ·have hk:1<=k:=by
    rcases Nat.eq_zero_or_pos k with h0|h0
    ·subst h0;simp at hu;omega
    ·exact h0
   have e1:Int.tdiv (u:Int) 10=((u/10:Nat):Int):=by rw[Int.tdiv_eq_ediv_of_nonneg (by omega)];omega
   have e2:Int.tmod (u:Int) 10=((u%10:Nat):Int):=by rw[Int.tmod_eq_emod_of_nonneg (by omega)];omega
   have hr:=ih n (u/10) (by omega) (by rw[Nat.pow_succ]at hu;omega) hk (by omega)
   have ac:(decDigits (u/10)).length<=19:=qjw 19 _ (by omega) (by omega)
   rw[ap,e1,qsf,hr,qB,e2,show((u%10:Nat):Int)+1=((u%10+1:Nat):Int) by omega,qsf,ag (by simp;omega)]
   simp only[qY];simp only[zba (u%10) (Nat.mod_lt _ (by decide))]
   rw[ag (by simp[ar];omega),qdr u h]
def q2d(fu:Nat)(hfu:100<=fu)(u:Nat)(hu:u<9223372036854775808:=by omega):vg fu (u:Int)=some (decDigits u):=by
 unfold vg quy;rw[ap,qsf,zog fu 19 fu u (by omega) (by omega) (by omega) hu];rfl
def zom(fu n:Nat):∀(ab aa:Bs)(a:Nat),aa.length<n->ab.length+aa.length<100000000->ab.length<=9->a<10 ^ ab.length ->
  qgo fu n (ab++aa) 1 9 (a:Int) (ab.length:Int)=some (if(∀c∈aa,48<=c.toNat/\c.toNat<=57)/\1<=ab.length+aa.length/\ab.length+aa.length<=9 then(sc a aa:Int) else -1):=by
 induction n with
 |zero=>intro ab aa a h;omega|succ n ih=>
  intro ab aa a h hb hp ha;have hpow:10 ^ ab.length<=10 ^ 9:=Nat.pow_le_pow_right (by omega) hp
  rw[qgo,quz]
  cases aa with
  |nil=>
   rw[ap,np,qB]
   simp only[List.append_nil,qZ,Nat.add_zero,List.not_mem_nil,false_implies,implies_true,true_and];by_cases h1:1<=ab.length/\ab.length<=9
   ·rw[decide_eq_true (by omega),bn,qX h1];rfl
   ·rw[decide_eq_false (by omega),cr,qW h1]
  |cons c t=>
   simp only[qL]at h hb;rw[ag (by rw[cd];omega),bf,qB,np,qB]
   by_cases hc:48<=c.toNat/\c.toNat<=57
   ·rw[decide_eq_true (by omega),bn,qgp]
    by_cases h9:9<=ab.length
    ·rw[ag (by omega),qW (by simp only[qL];omega)]
    ·rw[ap,qu0,bf,qB,aw _]
     have hsub:(c-48).toNat=c.toNat-48:=by
      rw[UInt8.toNat_sub_of_le _ _ (by rw[UInt8.le_iff_toNat_le];show 48<=_;omega)];rfl
     rw[hsub,show(10:Int)*(a:Int)=((10*a:Nat):Int) by omega,d7 (x:=((10*a:Nat):Int)) (by omega) (by omega),ow _ _]
     have:=ih (ab++[c]) t (10*a+(c.toNat-48)) (by omega) (by simp;omega) (by simp;omega) (by simp only[qM,qL,qZ,wO,Nat.pow_succ];omega)
     simp only[qM,qL,qZ,qS,wM,wO]at this;refine this.trans ?_;congr 1;by_cases hq:(∀x∈t,48<=x.toNat/\x.toNat<=57)/\1<=ab.length+1+t.length/\ab.length+1+t.length<=9
     ·rw[qX hq,qX ⟨fun x hx=>(List.mem_cons.1 hx).elim (fun e=>e▸hc) (hq.1 x),by simp only[qL];omega,by simp only[qL];omega⟩];rfl
     ·rw[qW hq,qW (fun g=>hq ⟨fun x hx=>g.1 x (qE _ hx),by have:=g.2;simp only[qL]at this;omega,by have:=g.2;simp only[qL]at this;omega⟩)]
   ·rw[decide_eq_false (by omega),cr,qgp,au rfl,qW (fun g=>hc (g.1 c qH))]
def zol(fu:Nat)(s:Bs)(h:s.length<fu)(hb:s.length<100000000):qgn fu s 1 9=some (if(∀c∈s,48<=c.toNat/\c.toNat<=57)/\1<=s.length/\s.length<=9 then(sc 0 s:Int) else -1):=by
 have:=zom fu fu [] s 0 h (by simpa using hb) (by simp) (by simp)
 simpa [qgn] using this
def zoy:∀(s:Bs)(a k:Nat),(∀c∈s,48<=c.toNat/\c.toNat<=57)->a<10 ^ k->sc a s<10 ^ (k+s.length):=by
 intro s
 induction s with
 |nil=>intro a k _ h;exact h|cons c s ih=>
  intro a k hd h;have hc:=hd c qH;have:=ih (10*a+(c.toNat-48)) (k+1) (fun x hx=>hd x (qE _ hx)) (by rw[Nat.pow_succ];omega)
  rw[qL,show k+(s.length+1)=k+1+s.length by omega];exact this
def qay(s:Bs):Option Int:=if(g8 s 1099511627776).2=true/\(g8 s 1099511627776).1<1000000000 then some (g8 s 1099511627776).1 else none
def zr6(fu:Nat)(hfu:1000<=fu)(s:Bs)(h:s.length<fu:=by omega)(hb:s.length<100000000:=by omega):∃x:Int,qgn fu s 1 9=some x /\
  ((qay s=some x/\0<=x/\vg fu x=some s)\/(qay s=none/\(x<0\/(0<=x/\∃t,vg fu x=some t/\t≠s)))):=by
 refine⟨_,zol fu s h hb,?_⟩;by_cases hq:(∀c∈s,48<=c.toNat/\c.toNat<=57)/\1<=s.length/\s.length<=9
 ·rw[qX hq];have hlt:sc 0 s<1000000000:=by
   have h1:=zoy s 0 0 hq.1 (by simp)
   have h2:10 ^ (0+s.length)<=10 ^ 9:=Nat.pow_le_pow_right (by omega) (by omega)
   omega
  have hN:=q2d fu (by omega) (sc 0 s)
  by_cases he:decDigits (sc 0 s)=s
  ·refine .inl ⟨?_,by omega,by rw[hN,he]⟩
   have:=zr7 (sc 0 s) 1099511627776 (by omega) (by decide)
   rw[he]at this;unfold qay;rw[this,qX ⟨rfl,by simp only;omega⟩]
  ·refine .inr ⟨?_,.inr ⟨by omega,_,hN,he⟩⟩
   unfold qay;rw[qW];rintro⟨g1,_⟩
   obtain⟨u,rfl,_,_⟩:=q2c g1;exact he (by rw[zox])
 ·rw[qW hq];refine .inr ⟨?_,.inl (by omega)⟩
  unfold qay;rw[qW];rintro⟨g1,g2⟩
  obtain⟨u,rfl,_,g3⟩:=q2c g1;rw[g3]at g2;simp only at g2;refine hq ⟨za6 u,?_,qjw 9 u (by omega) (by omega)⟩
  have:=za7 u
  cases hd:decDigits u with|nil=>exact absurd hd this|cons=>simp
end Go.Sym
namespace Go.Sym
def hv(c:UInt8):Option UInt8:=if 48<=c/\c<=57 then some (c-48) else if 65<=c/\c<=70 then some (c-65+10) else if 97<=c/\c<=102 then some (c-97+10) else none
def hx(a b:UInt8):Option UInt8:=(hv a).bind fun x=>(hv b).map fun y=>16*x+y
def zm6:∀n:_root_.Fin 256,qch (UInt8.ofNat n.val)=some ((hv (UInt8.ofNat n.val)).getD 0,(hv (UInt8.ofNat n.val)).isSome):=by decide +kernel
def zm7(c:UInt8):qch c=some ((hv c).getD 0,(hv c).isSome):=pl (fun c=>qch c=some ((hv c).getD 0,(hv c).isSome)) zm6 c
def pz(c:UInt8):Int:=match hv c with|some x=>(x.toNat:Int)|none => -1
def oe:List UInt8:=[48,49,50,51,52,53,54,55,56,57,65,66,67,68,69,70]
def qj7(c:UInt8):Nat->Nat->Int|0,_ => -1|m+1,k=>if oe.getD k 0=c then(k:Int) else if(oe.map lo).getD k 0=c then(k:Int) else qj7 c m (k+1)
def zp0:∀n:_root_.Fin 256,qj7 (UInt8.ofNat n.val) 16 0=pz (UInt8.ofNat n.val):=by decide +kernel
def zut(fu:Nat)(hfu:16<fu)(c:UInt8):∀(m k n:Nat),m+k=16->m<n->qbn fu n c (k:Int)=some (qj7 c m k):=by
 intro m
 induction m with
 |zero=>
  intro k n hk hn;obtain⟨n,rfl⟩:∃j,n=j+1:=⟨n-1,by omega⟩
  rw[qbn,qmf,ap];rfl
 |succ m ih=>
  intro k n hk hn;obtain⟨n,rfl⟩:∃j,n=j+1:=⟨n-1,by omega⟩
  have h1:k<oe.length:=by show k<16;omega
  have h2:k<(oe.map lo).length:=by show k<16;omega
  have i1:am oe (k:Int)=some (oe.getD k 0):=by rw[wv _ _ h1];exact congrArg some (List.getElem_eq_getD 0)
  have i2:am (oe.map lo) (k:Int)=some ((oe.map lo).getD k 0):=by rw[wv _ _ h2];exact congrArg some (List.getElem_eq_getD 0)
  rw[qbn,qmf,ag (by omega)]
  rw[show([48,49,50,51,52,53,54,55,56,57,65,66,67,68,69,70]:List UInt8)=oe from rfl]
  rw[i1,qB,jz,qj7];by_cases q:oe.getD k 0=c
  ·rw[qX q,qX q]
  ·rw[qW q,qW q,qrq fu oe (by show 16<fu;omega) (by decide),qB,i2,qB,jz]
   by_cases q2:(oe.map lo).getD k 0=c
   ·rw[qX q2,qX q2]
   ·rw[qW q2,qW q2,aw _,ih (k+1) n (by omega) (by omega)]
def qry(fu:Nat)(hfu:17<fu)(c:UInt8):yl fu c=some (pz c):=by
 have:=zut fu (by omega) c 16 0 fu rfl (by omega)
 unfold yl;rw[show(0:Int)=((0:Nat):Int) from rfl,this,pl (fun c=>qj7 c 16 0=pz c) zp0 c]
def zp5:∀n:_root_.Fin 256,(hv (UInt8.ofNat n.val)).all (fun x=>decide (x.toNat<16))=true:=by decide +kernel
def qqx(c x:UInt8)(h:hv c=some x):x.toNat<16:=by
 have:=pl (fun c=>(hv c).all (fun x=>decide (x.toNat<16))=true) zp5 c
 rw[h]at this;simpa using this
def zxj:∀x y:_root_.Fin 16,(qo (UInt8.ofNat x.val) (min (4:Int).toNat 8))|||UInt8.ofNat y.val=16*UInt8.ofNat x.val+UInt8.ofNat y.val/\gn (af ((af ((16:Int)*((UInt8.ofNat x.val).toNat:Int)))+((UInt8.ofNat y.val).toNat:Int)))=16*UInt8.ofNat x.val+UInt8.ofNat y.val:=by decide +kernel
def zg4(x y:UInt8)(hx1:x.toNat<16)(hy1:y.toNat<16):(qo x (min (4:Int).toNat 8))|||y=16*x+y/\gn (af ((af ((16:Int)*(x.toNat:Int)))+(y.toNat:Int)))=16*x+y:=by
 have:=zxj ⟨x.toNat,hx1⟩ ⟨y.toNat,hy1⟩;simpa using this
def qeh:Bs->Option UInt8|a::b::_=>hx a b|_=>none
def zsl(r:Bs):∃v,qhi r=some (v,(qeh r).isSome)/\∀x,qeh r=some x->v=x:=by
 match r with
 |[]=>exact⟨0,rfl,fun x h=>by cases h⟩
 |[_]=>exact⟨0,rfl,fun x h=>by cases h⟩
 |a::b::t=>
  have e:qhi (a::b::t)=some ((qo ((hv a).getD 0) (min (4:Int).toNat 8))|||(hv b).getD 0,(hv a).isSome&&(hv b).isSome):=by
   unfold qhi;rw[ap (by simp only[qL];omega),show am (a::b::t) 0=some a from rfl,show am (a::b::t) 1=some b from rfl]
   simp only[qB,zm7];cases (hv a).isSome<;>rfl
  rw[e,show qeh (a::b::t)=hx a b from rfl]
  unfold hx
  cases ha:hv a with
  |none=>exact⟨_,rfl,fun x h=>by cases h⟩
  |some x=>
   cases hb:hv b with
   |none=>exact⟨_,rfl,fun x h=>by cases h⟩
   |some y=>exact⟨_,rfl,fun z h=>by cases h;exact(zg4 x y (qqx a x ha) (qqx b y hb)).1⟩
def er:Bs->Bs|[]=>[]|[c]=>[c]|[c,d]=>[c,d]|c::a::b::r=>if c=37 then(match hx a b with|some x=>x::er r|none=>c::er (a::b::r)) else c::er (a::b::r)
def q2q(c:UInt8)(r:Bs)(h:c≠37):er (c::r)=c::er r:=by
 match r with|[]=>rfl|[_]=>rfl|_::_::_=>rw[er,qW h]
def q2p(r:Bs):er (37::r)=match qeh r with|some x=>x::er (r.drop 2)|none=>37::er r:=by
 match r with
 |[]=>rfl|[_]=>rfl|a::b::t=>
  rw[er,qX rfl];show _=match hx a b with|some x=>x::er t|none=>37::er (a::b::t)
  cases hx a b<;>rfl
def zea:∀(n:Nat)(s:Bs),s.length<=n->(er s).length<=s.length:=by
 intro n
 induction n with
 |zero=>intro s h;have:s=[]:=List.eq_nil_of_length_eq_zero (by omega);subst this;simp[er]|succ n ih=>
  intro s h
  cases s with
  |nil=>simp[er]|cons c r=>
   simp only[qL]at h;have h1:=ih r (by omega)
   by_cases hc:c=37
   ·subst hc;rw[q2p]
    cases hp:qeh r with
    |none=>simp only[qL];omega|some x=>
     have h2:=ih (r.drop 2) (by simp;omega)
     simp only[qL,List.length_drop]at h2 ⊢;omega
   ·rw[q2q c r hc];simp only[qL];omega
def zw4(fu n:Nat):∀(ab aa out:Bs),aa.length<n->ab.length+aa.length<100000000->out.length+aa.length<100000000 ->
  qh6 fu n (ab++aa) (ab.length:Int) out=some (out++er aa):=by
 have hrm:=gh
 induction n using Nat.strongRecOn with
 |ind n ih=>
  intro ab aa out h hb ho;obtain⟨n,rfl⟩:∃m,n=m+1:=⟨n-1,by omega⟩
  rw[qh6,qwn]
  cases aa with
  |nil=>rw[ap];simp[er]|cons c t=>
   simp only[qL]at h hb ho;have one:=ih n (by omega) (ab++[c]) t (out++[c]) (by omega) (by simp;omega) (by simp;omega)
   simp only[qM,qL,qZ,qS,wM,wO]at one;rw[ag (by rw[cd];omega),bf,qB,jz,aw _]
   by_cases hc:c=37
   ·rw[qX hc,ag (by rw[cd];omega),qdz]
    obtain⟨v,h1,h2⟩:=zsl t;rw[h1,qB];subst hc;rw[q2p]
    cases hp:qeh t with
    |none=>
     rw[Option.isSome_none,ax rfl,qB,ag (by simp;omega)]
     exact one
    |some x=>
     obtain⟨a,b,r,rfl⟩:∃a b r,t=a::b::r:=by
      match t,hp with|a::b::r,_=>exact⟨a,b,r,rfl⟩
     simp only[qL]at h hb ho;rw[Option.isSome_some,au rfl,h2 x hp,ag (by simp;omega),show(ab.length:Int)+2=((ab.length+2:Nat):Int) by omega,d7 (x:=((ab.length+2:Nat):Int)) (by omega) (by omega),aw _]
     have two:=ih n (by omega) (ab++[37,a,b]) r (out++[x]) (by omega) (by simp;omega) (by simp;omega)
     simp only[qM,qL,qZ,qS,wK,List.nil_append,wO]at two;exact two
   ·rw[qW hc,qB,ag (by simp;omega),q2q c t hc]
    exact one
def qr6(k:Int)(v:Bs):Bs:=if k=0/\6<=v.length/\lk (v.take 6) [117,116,102,56,39,39]=true then v.drop 6 else v
def nt(p:Pc):Bs:=if p.2.2.1=true then er (qr6 p.2.1 p.2.2.2) else p.2.2.2
def qsb(fu:Nat)(hfu:90000000<=fu)(s:Bs)(h:s.length<=4000000):qcr fu s=some (er s):=by
 unfold qcr;have:=zw4 fu fu [] s [] (by omega) (by simp;omega) (by simp;omega)
 simpa using this
def zw3(fu:Nat)(hfu:90000000<=fu)(p:Pc)(h:p.2.2.2.length<=4000000:=by omega):qns fu p=some (nt p):=by
 unfold qns nt qr6;cases hs:p.2.2.1
 ·rfl
 rw[bn,qX rfl,gv];by_cases h0:p.2.1=0
 ·rw[qX h0];by_cases h6:6<=p.2.2.2.length
  ·rw[ag (by omega),ag (by omega),qj fu hfu _ _ (by show(List.take 6 _).length<=_;rw[List.length_take];omega) (by simp),qB]
   show vt fu p.2.2.2 (lk (p.2.2.2.take 6) _)=_;rw[vt];cases hl:lk (p.2.2.2.take 6) [117,116,102,56,39,39]
   ·rw[ax rfl,qsb fu hfu _ h,qW (by simp)]
   ·rw[au rfl,ag (by omega)]
    show qcr fu (p.2.2.2.drop 6)=_;rw[qsb fu hfu _ (by simp;omega),qX ⟨h0,h6,rfl⟩]
  ·rw[ap,vt,ax rfl,qsb fu hfu _ h,qW (by omega)]
 ·rw[qW h0,vt,ax rfl,qsb fu hfu _ h,qW (by omega)]
def qk4(p:Pc):(nt p).length<=p.2.2.2.length:=by
 unfold nt;split
 ·refine Nat.le_trans (zea _ _ (wF _)) ?_;unfold qr6;split
  ·simp
  ·exact wF _
 ·exact wF _
def qkz(ab:Bs)(c:UInt8)(t:Bs):List.take (((ab.length+1:Nat):Int).toNat-((ab.length:Nat):Int).toNat) (List.drop ((ab.length:Nat):Int).toNat (ab++c::t))=[c]:=by
 rw[r7,show((ab.length+1:Nat):Int).toNat-((ab.length:Nat):Int).toNat=1 by omega];rfl
def zxq(fu n:Nat)(hfu:100<=fu):∀(ab aa out:Bs),aa.length<n->ab.length+aa.length<100000000->out.length+aa.length<100000000 ->
  qb7 fu n (ab++aa) out (ab.length:Int)=some (out++er aa):=by
 induction n using Nat.strongRecOn with
 |ind n ih=>
  intro ab aa out h hb ho;obtain⟨n,rfl⟩:∃m,n=m+1:=⟨n-1,by omega⟩
  rw[qb7,qu4]
  cases aa with
  |nil=>rw[ap];simp[er]|cons c t=>
   simp only[qL]at h hb ho;have one:=ih n (by omega) (ab++[c]) t (out++[c]) (by omega) (by simp;omega) (by simp;omega)
   simp only[qM,qL,qZ,qS,wM,wO]at one;have hno:vk fu (qb7 fu n) (ab++c::t) out (ab.length:Int) false=some (out++c::er t):=by
    rw[vk,ax rfl,aw _,ag (by rw[cd];omega),qkz,ag (by simp[ar];omega),one]
    try simp
   rw[ag (by rw[cd];omega),bf,qB,jz,show(ab.length:Int)+2=((ab.length+2:Nat):Int) by omega,d7 (x:=((ab.length+2:Nat):Int)) (by omega) (by omega),aw _]
   by_cases hc:c=37
   ·subst hc;rw[qX rfl,q2p]
    match t with
    |[]=>rw[ap (by rw[cd];simp only[qZ];omega),hno];rfl|[x]=>rw[ap (by rw[cd];simp only[qL,qZ];omega),hno];rfl|a::b::r=>
     simp only[qL]at h hb ho;have i1:am (ab++37::a::b::r) ((ab.length+1:Nat):Int)=some a:=by have:=bf (ab++[37]) a (b::r);simpa using this
     have i2:am (ab++37::a::b::r) ((ab.length+2:Nat):Int)=some b:=by have:=bf (ab++[37,a]) b r;simpa using this
     rw[ag (by rw[cd];simp only[qL];omega),i1,qB,qry fu (by omega),qB]
     show _=some (out++match hx a b with|some x=>x::er r|none=>37::er (a::b::r))
     unfold hx
     cases ha:hv a with
     |none=>
      have:pz a = -1:=by unfold pz;rw[ha]
      rw[this,ap,hno];rfl
     |some x=>
      have hI:pz a=(x.toNat:Int):=by unfold pz;rw[ha]
      rw[hI,ag (by omega),i2,qB,qry fu (by omega),qB]
      cases hb':hv b with
      |none=>
       have:pz b = -1:=by unfold pz;rw[hb']
       rw[this,decide_eq_false (by omega),hno];rfl
      |some y=>
       have hJ:pz b=(y.toNat:Int):=by unfold pz;rw[hb']
       rw[hJ,decide_eq_true (by omega),vk,au rfl,aw _,i1,qB,qry fu (by omega),qB,show(ab.length:Int)+2=((ab.length+2:Nat):Int) by omega,d7 (x:=((ab.length+2:Nat):Int)) (by omega) (by omega),i2,qB,qry fu (by omega),qB,hI,hJ,(zg4 x y (qqx a x ha) (qqx b y hb')).2,ag (by simp[ar];omega),aw _]
       have two:=ih n (by omega) (ab++[37,a,b]) r (out++[16*x+y]) (by omega) (by simp;omega) (by simp;omega)
       simp only[qM,qL,qZ,qS,wK,List.nil_append,wO]at two;exact two
   ·rw[qW hc,hno,q2q c t hc]
def zxp(fu:Nat)(hfu:90000000<=fu)(s:Bs)(h:s.length<=4000000):qmy fu s=some (er s):=by
 have:=zxq fu fu (by omega) [] s [] (by omega) (by simp;omega) (by simp;omega)
 simpa [qmy] using this
def po(k:UInt8):Bs->Option (Bs×Bs)|[]=>none|c::t=>if c=k then some ([],t) else(po k t).map fun x=>(c::x.1,x.2)
def q0g(k:UInt8)(t r:Bs)(h:∀x∈t,x≠k):po k (t++k::r)=some (t,r):=by
 induction t with
 |nil=>rw[List.nil_append,po,qX rfl]|cons c t ih=>
  rw[wK,po,qW (h c qH),ih (fun x hx=>h x (qE _ hx))];rfl
def q0h(k:UInt8)(t:Bs)(h:∀x∈t,x≠k):po k t=none:=by
 induction t with|nil=>rfl|cons c t ih=>rw[po,qW (h c qH),ih (fun x hx=>h x (qE _ hx))];rfl
def zv7(s:Bs)(k:UInt8):qck s [k]=some (Lib.indexByte s k):=by
 unfold qck;rw[ax (by rfl)]
 unfold qcl;by_cases h:[k]=s
 ·subst h;rw[au];show some 0=some (Lib.indexByte ([]++[k]) k);rw[wt k [] [] (by simp)];rfl
 ·rw[ax (by simpa using h),au,show am [k] 0=some k from rfl];rfl
def zn9(s:Bs)(k:UInt8)(h:s.length<=4000000:=by omega):tx s [k]=some (match po k s with|some x=>(x.1,(x.2,true))|none=>(s,([],false))):=by
 unfold tx qhr;rw[zv7,qB];rcases mb k s with⟨t,r,rfl,ht⟩|hn
 ·rw[qM,qL]at h;rw[wt k t r ht,q0g k t r ht,ag (by omega),ag (by rw[cd];omega),show(([k]:Bs).length:Int)=1 from rfl,aw _,ag (by rw[cd];omega),qdz,qm];rfl
 ·rw[wu k s hn,q0h k s hn,ap];rfl
def oa(s:Bs):Bs×Bool:=if s.getLast? = some 42 then(s.dropLast,true) else(s,false)
def zn6(t:Bs)(hb:t.length<=4000000:=by omega):qok t [42]=some (oa t):=by
 unfold qok qwa qhs oa;rw[show(([42]:List UInt8).length:Int)=1 from rfl]
 rcases List.eq_nil_or_concat t with rfl|⟨u,c,rfl⟩
 ·rfl
 ·rw[List.concat_eq_append]at *;simp only[qM,qL,qZ]at hb;rw[ji,jp _,ag (by omega),ag (by omega),qB,List.getLast?_concat,List.dropLast_concat]
  have e:List.drop ((u.length:Nat):Int).toNat (u++[c])=[c]:=r7 u [c];rw[e,qeu];by_cases hc:c=42
  ·subst hc;rw[qX rfl,show([(42:UInt8)]==[42])=true from rfl,bn,ag (by omega)];rfl
  ·rw[qW (by simpa using hc),show([c]==[(42:UInt8)])=false by simpa using hc];rfl
def fo(nm v:Bs):Option Pc:=match po 42 nm with|none=>if nm=[] then none else some (nm,-1,false,v)|some x=>if x.1≠[]/\(g8 (oa x.2).1 1099511627776).2=true then some (x.1,(g8 (oa x.2).1 1099511627776).1,(oa x.2).2,v) else none
def g9(nm v:Bs):Option Pc:=match fo nm v with|some p=>if p.2.1<1000000000 then some p else none|none=>none
def zaz{k:UInt8}{s:Bs}{x:Bs×Bs}(h:po k s=some x):x.1.length+x.2.length<s.length:=by
 rcases mb k s with⟨t,r,rfl,ht⟩|hn
 ·rw[q0g k t r ht]at h;cases h;simp only[qM,qL];omega
 ·rw[q0h k s hn]at h;cases h
def zbf(s:Bs):(oa s).1.length<=s.length:=by unfold oa;split<;>simp
def zeb{nm v:Bs}{p:Pc}(h:fo nm v=some p):p.1.length<=nm.length/\p.2.2.2=v /\ -1<=p.2.1/\p.2.1<=1099511627776/\p.1≠[]:=by
 unfold fo at h
 cases hc:po 42 nm with
 |none=>
  rw[hc]at h;simp only at h;by_cases hn:nm=[]
  ·rw[qX hn]at h;cases h
  ·rw[qW hn]at h;cases h;exact⟨wF _,rfl,by simp only;omega,by simp only;omega,hn⟩
 |some x=>
  rw[hc]at h;simp only at h;by_cases hn:x.1≠[]/\(g8 (oa x.2).1 1099511627776).2=true
  ·rw[qX hn]at h;obtain⟨u,_,h1,h2⟩:=q2c hn.2;have hl:=zaz hc;cases h
   rw[h2];exact⟨by simp only;omega,rfl,by simp only;omega,by simp only;omega,hn.1⟩
  ·rw[qW hn]at h;cases h
def zr9(s:Bs)(h:s.length<=4000000:=by omega):za s 1099511627776=some (g8 s 1099511627776):=by unfold za;rw[ag (by omega)]
def zrq(fu:Nat)(hfu:90000000<=fu)(s:Bs)(h:s.length<=4000000:=by omega):∃R,qnu fu s=some R/\match p8 s with
  |none=>R.2.1=false|some x=>match fo x.1.1 x.1.2 with
   |none=>R.2.1=false|some p=>R=(p,(true,x.2)):=by
 have l1:=qa9 dt s;have l2:=qeq 61 (bz dt s).2;unfold qnu p8;rw[zwz fu hfu s h,qB,qre fu hfu 61 _,qB]
 cases hs:(dd 61 (bz dt s).2).1
 ·rw[cr,qW (by simp)];exact⟨_,rfl,rfl⟩
 rw[bn,qX rfl];obtain⟨r,hv⟩:=zxy fu hfu (dd 61 (bz dt s).2).2
 rw[hv,qB,zn9 _ 42,qB]
 generalize hx:xt (dd 61 (bz dt s).2).2=vs;generalize hn:(bz dt s).1=nm at *
 cases hc:po 42 nm with
 |none=>
  simp only[qF]
  cases vs with
  |none=>exact⟨_,rfl,rfl⟩|some x=>
   refine⟨_,rfl,?_⟩;simp only[wQ];unfold fo;rw[hc]
   cases nm with|nil=>rfl|cons c nm=>rfl
 |some y=>
  have l3:=zaz hc;have l4:=zbf y.2;simp only[qT];rw[zn6 _,qB,zr9 _,qB]
  cases vs with
  |none=>exact⟨_,rfl,rfl⟩|some x=>
   simp only[qT,wQ];unfold fo;rw[hc];simp only;cases hq:(g8 (oa y.2).1 1099511627776).2
   ·rw[qW (by simp)];exact⟨_,rfl,rfl⟩
   ·by_cases hy:y.1=[]
    ·rw[qW (by simp[hy])];refine⟨_,rfl,?_⟩;simp[hy]
    ·rw[qX ⟨hy,rfl⟩];refine⟨_,rfl,?_⟩;simp only;congr 2
     cases hy1:y.1 with|nil=>exact absurd hy1 hy|cons=>rfl
def dh(f:Bs->Bs->Option Pc):Nat->List Pc->Bs->Option (List Pc)
 |0,_,_=>none|n+1,acc,s=>match be s with
  |[]=>some acc| c::t=>if c=59 then(match p8 t with
   |none=>none|some x=>match f x.1.1 x.1.2 with
    |none=>none| some p=>dh f n (acc++[p]) x.2) else none
def cv(l:List Pc):Nat:=(l.map fun p=>p.1.length+p.2.2.2.length+1).sum
def zgl(l:List Pc)(p:Pc):cv (l++[p])=cv l+(p.1.length+p.2.2.2.length+1):=by unfold cv;simp
def nq(l:List Pc):l.length<=cv l:=by
 unfold cv
 induction l with|nil=>simp|cons p l ih=>simp only[List.map_cons,List.sum_cons,qL];omega
def qaj(R:qi7):Prop:=match R with | .inl x=>x.2.2=false | .inr x=>x.2.2.1=false
def nb(p:Pc):Prop := -1<=p.2.1/\p.2.1<=1099511627776
def ztc(fu:Nat)(hfu:90000000<=fu)(Qp:List Pc->Bool×List bt)(hQ:∀l,cv l<=300000->(∀x∈l,nb x)->qcp fu l=some (Qp l))(a b T S:Bs):∀(n:Nat)(s:Bs)(acc:List Pc),cv acc+s.length<=300000->s.length<n->(∀x∈acc,nb x) ->
  ∃R,qh5 fu n a b s T S acc=some R/\match dh fo n acc s with
   |none=>qaj R|some l=>if(Qp l).1=true then R = .inr (T,(S,(true,(Qp l).2))) else qaj R:=by
 have hrm:=gh;intro n
 induction n with
 |zero=>intro s acc _ h;omega|succ n ih=>
  intro s acc hz h hnb;have hl:=kh s;have hal:=nq acc;rw[qh5,qwl,qre fu hfu 59 s,qB,dh]
  unfold dd
  cases ht:be s with
  |nil=>
   simp only[qF];rw[qdg fu hfu [] (by simp),qB,hQ acc (by omega) hnb,qB]
   cases hq:(Qp acc).1
   ·refine⟨_,rfl,?_⟩;rw[qW (by simp)];rfl
   ·refine⟨_,rfl,?_⟩;rw[qX rfl];rfl
  |cons c t=>
   rw[ht]at hl;simp only[qL]at hl;by_cases hc:c=59
   ·simp only[qX hc,qT];obtain⟨R,h1,h2⟩:=zrq fu hfu t
    rw[h1,qB]
    cases hx:p8 t with
    |none=>
     rw[hx]at h2;simp only at h2;rw[h2,cr];exact⟨_,rfl,rfl⟩
    |some x=>
     rw[hx]at h2;simp only at h2 ⊢;have hxl:=(q1q (n:=x.1.1) (v:=x.1.2) (t:=x.2) hx).1
     cases hp:fo x.1.1 x.1.2 with
     |none=>
      rw[hp]at h2;simp only at h2;rw[h2,cr];exact⟨_,rfl,rfl⟩
     |some p=>
      rw[hp]at h2;simp only at h2 ⊢;obtain⟨g1,g2,g3,g4,_⟩:=zeb hp;subst h2;have hz2:cv (acc++[p])+x.2.length<=300000:=by rw[zgl,g2];omega
      rw[bn,ag (by simp;omega)]
      exact ih x.2 (acc++[p]) hz2 (by omega) (fun y hy=>(List.mem_append.1 hy).elim (hnb y) (fun e=>by rw[List.mem_singleton.1 e];exact⟨g3,g4⟩))
   ·simp only[qW hc,qF];rw[qdg fu hfu (c::t) (by simp only[qL];omega),qB,show be (c::t)=c::t by rw[← ht,qed],hQ acc (by omega) hnb,qB]
    cases hq:(Qp acc).1
    ·exact⟨_,rfl,rfl⟩
    ·exact⟨_,rfl,rfl⟩
def oo(f:Bs->Bs->Option Pc)(s:Bs):Option (Bs×Bs×List Pc):=
 let a:=bz tk s;let b:=dd 47 a.2;let c:=bz tk b.2
 if a.1=[]\/b.1=false\/c.1=[] then none else(dh f (s.length+1) [] c.2).map fun l=>(a.1,c.1,l)
def qkq(f:Bs->Bs->Option Pc):∀(n:Nat)(acc:List Pc)(s:Bs),s.length<n->dh f n acc s=dh f (s.length+1) acc s:=by
 intro n
 induction n using Nat.strongRecOn with
 |ind n ih=>
  intro acc s h;obtain⟨n,rfl⟩:∃m,n=m+1:=⟨n-1,by omega⟩
  have hl:=kh s;rw[dh,dh]
  cases ht:be s with
  |nil=>rfl|cons c t=>
   rw[ht]at hl;simp only[qL]at hl;simp only;by_cases hc:c=59
   ·rw[qX hc,qX hc]
    cases hx:p8 t with
    |none=>rfl|some x=>
     have hxl:=(q1q (n:=x.1.1) (v:=x.1.2) (t:=x.2) hx).1;simp only
     cases f x.1.1 x.1.2 with
     |none=>rfl|some p=>
      simp only;rw[ih n (by omega) _ _ (by omega)]
      by_cases he:s.length=n
      ·rw[he];exact(ih n (by omega) _ _ (by omega)).symm
      ·rw[ih s.length (by omega) _ _ (by omega)]
   ·rw[qW hc,qW hc]
def zro(fu:Nat)(hfu:90000000<=fu)(Qp:List Pc->Bool×List bt)(hQ:∀l,cv l<=300000->(∀x∈l,nb x)->qcp fu l=some (Qp l))(s:Bs)(h:s.length<=300000:=by omega) :
  ∃R,qnr fu s=some R/\match oo fo s with
   |none=>qaj R|some m=>if(Qp m.2.2).1=true then R = .inr (m.1,(m.2.1,(true,(Qp m.2.2).2))) else qaj R:=by
 have l1:=qa9 tk s;have l2:=qeq 47 (bz tk s).2;have l3:=qa9 tk (dd 47 (bz tk s).2).2;unfold qnr oo;rw[zgn fu hfu s,qB,qre fu hfu 47 _,qB,zgn fu hfu _,qB]
 simp only[];generalize ha:bz tk s=A at *;generalize hb:dd 47 A.2=B at *;generalize hc:bz tk B.2=C at *
 cases h1:A.1 with
 |nil=>rw[au,vq,au rfl,qX (.inl rfl)];exact⟨_,rfl,rfl⟩|cons x1 y1=>
  rw[ax (by rfl)]
  cases h2:B.1 with
  |false=>rw[cr,vq,au rfl,qX (.inr (.inl rfl))];exact⟨_,rfl,rfl⟩|true=>
   rw[bn]
   cases h3:C.1 with
   |nil=>rw[vq,au,qX (.inr (.inr rfl))];exact⟨_,rfl,rfl⟩|cons x3 y3=>
    rw[vq,ax (by rfl),qW (by simp),qwm]
    obtain⟨R,g1,g2⟩:=ztc fu hfu Qp hQ [] [] (x1::y1) (x3::y3) fu C.2 [] (by simp[cv];omega) (by omega) (by simp)
    refine⟨R,g1,?_⟩;rw[qkq _ fu _ _ (by omega)]at g2
    rw[qkq _ (s.length+1) _ _ (by omega)]
    cases hp:dh fo (C.2.length+1) [] C.2 with|none=>rw[hp]at g2;exact g2|some l=>rw[hp]at g2;exact g2
def zp7(c k:UInt8)(t:Bs):Lib.indexByte (c::t) k=if c=k then 0 else if Lib.indexByte t k<0 then -1 else Lib.indexByte t k+1:=by
 rw[Lib.indexByte];by_cases h:c=k
 ·rw[qX (by simpa using h),qX h]
 ·rw[qW (by simpa using h),qW h]
  rcases mb k t with⟨a,r,rfl,ha⟩|hn
  ·rw[wt k a r ha,qW (by simp),qW (by omega)]
  ·rw[wu k t hn];rfl
def zpe(fu n:Nat)(k:UInt8):∀(ab aa:Bs),aa.length<n->ab.length+aa.length<100000000 ->
  yh fu n (ab++aa) [k] (ab.length:Int)=some (if Lib.indexByte aa k<0 then -1 else(ab.length:Int)+Lib.indexByte aa k):=by
 induction n with
 |zero=>intro ab aa h;omega|succ n ih=>
  intro ab aa h hb;rw[yh,ql8,show(([k]:Bs).length:Int)=1 from rfl]
  cases aa with
  |nil=>rw[aw _ (by simp only[qZ]at hb;omega),ap];rfl|cons c t=>
   simp only[qL]at h hb;rw[aw _,ag (by rw[cd];omega),ag (by rw[cd];omega),r7,zp7]
   have e:List.take (((ab.length+1:Nat):Int).toNat-((ab.length:Nat):Int).toNat) (c::t)=[c]:=by
    rw[show((ab.length+1:Nat):Int).toNat-((ab.length:Nat):Int).toNat=1 by omega];rfl
   rw[e];by_cases hc:c=k
   ·rw[au (by simpa using hc),qX hc,qW (by omega)];simp
   ·rw[ax (by simpa using hc),qW hc]
    have:=ih (ab++[c]) t (by omega) (by simp;omega)
    simp only[qM,qL,qZ,qS,wM,wO]at this;rw[this];by_cases h0:Lib.indexByte t k<0
    ·rw[qX h0,qX h0,qX (by omega)]
    ·rw[qW h0,qW h0,qW (by omega)];congr 1;omega
def zpd(fu:Nat)(hfu:90000000<=fu)(k:UInt8)(s:Bs)(h:s.length<=4000000):vd fu s [k] 0=some (Lib.indexByte s k):=by
 have:=zpe fu fu k [] s (by omega) (by simp;omega)
 simp only[List.nil_append,qZ,Int.natCast_zero,Int.zero_add]at this;unfold vd;refine this.trans ?_;rcases mb k s with⟨a,r,rfl,ha⟩|hn
 ·rw[wt k a r ha,qW (by omega)]
 ·rw[wu k s hn];rfl
abbrev Pd:Type:=Bs×Bs×Int×Bool
def cf(p:Pc):Pd:=(p.1,p.2.2.2,p.2.1,p.2.2.1)
def zs7(fu:Nat)(hfu:90000000<=fu)(b v s:Bs)(st:Bool)(z:Pd)(h:s.length<=4000000:=by omega):∃R,qb5 fu s z (b,(v,((-1:Int),st)))=some R /\
  match(if b≠[] then qay s else none) with
  |some k=>R=((b,v,k,st),true)|none=>R.2=false:=by
 unfold qb5;obtain⟨x,h1,h2⟩:=zr6 fu (by omega) s
 rw[h1,qB]
 cases b with
 |nil=>exact⟨_,rfl,rfl⟩|cons c b=>
  rw[qX (by simp)]
  rw[au]
  rcases h2 with⟨g1,g2,g3⟩|⟨g1,g2⟩
  ·rw[ag g2,g3,qB,g1];exact⟨_,rfl,by simp⟩
  ·rw[g1];rcases g2 with g2|⟨g2,t,g3,g4⟩
   ·rw[ap];exact⟨_,rfl,rfl⟩
   ·rw[ag g2,g3,qB];exact⟨_,rfl,by simpa using g4⟩
def zs8(fu:Nat)(hfu:90000000<=fu)(nm v:Bs)(h:nm.length<=4000000):∃R,qmw fu nm v=some R/\match g9 nm v with
  |some p=>R=(cf p,true)|none=>R.2=false:=by
 unfold qmw;rw[zpd fu hfu 42 nm h,qB];rcases mb 42 nm with⟨t,r,rfl,ht⟩|hn
 ·simp only[qM,qL]at h;rw[wt 42 t r ht,ap,aw _,ag (by rw[cd];omega),ag (by rw[cd];omega),qdz,qm]
  have key:∀(s:Bs)(st:Bool),oa r=(s,st)->(∃R,qb5 fu s ([],([],((0:Int),false))) (t,(v,((-1:Int),st)))=some R/\match g9 (t++42::r) v with
    |some p=>R=(cf p,true)| none=>R.2=false):=by
   intro s st he;have hsl:=zbf r;rw[he]at hsl;simp only at hsl;obtain⟨R,h1,h2⟩:=zs7 fu hfu t v s st ([],([],((0:Int),false)))
   refine⟨R,h1,?_⟩;unfold g9 fo;rw[q0g 42 t r ht];simp only[he];by_cases hb:t=[]
   ·rw[qW (by simp[hb])]
    rw[qW (by simp[hb])]at h2
    exact h2
   ·rw[qX hb]at h2;unfold qay at h2;cases hq:(g8 s 1099511627776).2
    ·rw[qW (by simp[hq])]at h2
     rw[qW (by simp)]
     exact h2
    ·rw[qX ⟨hb,rfl⟩];simp only;by_cases hlt:(g8 s 1099511627776).1<1000000000
     ·rw[qX ⟨hq,hlt⟩]at h2;rw[qX hlt];exact h2
     ·rw[qW (by simp[hlt])]at h2;rw[qW hlt];exact h2
  rcases List.eq_nil_or_concat r with rfl|⟨u,c,rfl⟩
  ·rw[ap,qgq,ax rfl]
   exact key [] false rfl
  ·rw[List.concat_eq_append]at *;simp only[qM,qL,qZ]at h;rw[ag (by simp only[qM,qL,qZ];omega),ji,jp _,qap,qB,qgq]
   by_cases hc:c=42
   ·subst hc;rw[au,ji,jp _,ag (by omega),qeu]
    exact key u true (by unfold oa;simp)
   ·rw[ax (by simpa using hc)]
    exact key (u++[c]) false (by unfold oa;rw[qW (by simpa using hc)])
 ·rw[wu 42 nm hn,ag (by omega)]
  refine⟨_,rfl,?_⟩;unfold g9 fo;rw[q0h 42 nm hn]
  cases nm with|nil=>rfl|cons c nm=>rfl
def bad:eg:=(([],([],[])),false)
def zvc(fu:Nat)(r2:kw)(s nm a b T S:Bs)(acc:List Pd)(hb:s.length<=4000000):∀(n:Nat)(r out:Bs),r <:+ s->r.length+1<n->out.length+r.length<100000000 ->
  vf fu r2 n s (pos s r) nm out a b T S acc=match qv out r with
   |some x=>yu fu r2 s (pos s x.2) nm x.1 a b T S acc|none=>some bad:=by
 intro n
 induction n using Nat.strongRecOn with
 |ind n ih=>
  intro r out hr h ho;obtain⟨n,rfl⟩:∃m,n=m+1:=⟨n-1,by omega⟩
  rw[vf,qmi]
  cases r with
  |nil=>rw[ix,ap,qbr,ax rfl,au];rfl|cons c t=>
   have ht:t <:+ s:=(List.suffix_cons _ _).trans hr;simp only[qL]at h ho;rw[ag (nj hr),xf hr,qB,qei,qbr,wj];by_cases h1:c=34
   ·rw[qW (by simp[h1]),qX h1,ax (by have:=nj hr;simp;omega),qg hr]
   rw[qX h1,qW h1,qt8,xf hr,qB,jz,qg hr]
   have p18:∀(d:UInt8)(u:Bs),(d::u) <:+ s->qfz fu r2 (vf fu r2 n) s (pos s (d::u)) nm out a b T S acc=vf fu r2 n s (pos s u) nm (out++[d]) a b T S acc:=by
    intro d u hd;have hu:=hd.length_le;have g1:=uu s (d::u);have g2:=uu s u;have g3:=q2u (s:=s) (List.suffix_cons d u);rw[qfz,qg hd,ag (by omega),q2v hd (List.suffix_cons _ _),show(d::u).take ((d::u).length-u.length)=[d] by simp,ag (by simp[ar];omega)]
   by_cases h2:c=92
   ·rw[qX h2,qX h2]
    cases t with
    |nil=>
     rw[ix,qbs,ap,p18 c [] hr]
     obtain⟨n,rfl⟩:∃m,n=m+1:=⟨n-1,by simp only[qZ]at h;omega⟩
     rw[vf,qmi,ix,ap,qbr,ax rfl,au];rfl
    |cons d u=>
     simp only[qL]at h ho;rw[qbs,ag (nj ht),qg hr,p18 d u ht]
     simp only;exact ih n (by omega) u (out++[d]) ((List.suffix_cons _ _).trans ht) (by omega) (by simp;omega)
   ·rw[qW h2,qW h2,qbs,ax rfl,p18 c t hr];exact ih n (by omega) t (out++[c]) ht (by omega) (by simp;omega)
def zw5(c:UInt8):(tk c||([42]:Bs).contains c)=dt c:=by unfold dt;rw[show([42]:Bs).contains c=(c==42) by rw[Bool.eq_iff_iff];simp]
def zgr(c:UInt8):(tk c||([37,39,42]:Bs).contains c)=kq c:=by unfold kq;rw[show([37,39,42]:Bs).contains c=(c==37||(c==39||c==42)) by rw[Bool.eq_iff_iff];simp]
def zgs(c:UInt8):(tk c||([]:Bs).contains c)=tk c:=by simp
def qky(p:UInt8->Bool){s r:Bs}(hr:r <:+ s):(0<=pos s r/\pos s r<=pos s (r.dropWhile p)/\pos s (r.dropWhile p)<=(s.length:Int))/\List.take ((pos s (r.dropWhile p)).toNat-(pos s r).toNat) (List.drop (pos s r).toNat s)=r.takeWhile p:=by
 refine⟨⟨(uu s r).1,q2u (List.dropWhile_suffix p),(uu s _).2⟩,?_⟩;rw[q2v hr (List.dropWhile_suffix p),zw2]
def zsg(fu:Nat)(hfu:90000000<=fu)(r2:kw)(s nm v a b T S:Bs)(acc:List Pc)(hb:s.length<=4000000)(hn:nm.length<=4000000)(ha:acc.length<=4000000)(r:Bs)(hr:r <:+ s) :
  yu fu r2 s (pos s r) nm v a b T S (acc.map cf)=match g9 nm v with
   |some p=>r2 s (pos s (be r)) a b T S ((acc++[p]).map cf)|none=>some bad:=by
 have hrm:=gh;obtain⟨R,h1,h2⟩:=zs8 fu hfu nm v hn;rw[yu,h1,qB]
 cases hp:g9 nm v with
 |none=>rw[hp]at h2;simp only at h2;rw[h2,cr];rfl|some p=>
  rw[hp]at h2;simp only at h2 ⊢;subst h2;rw[bn,ag (by simp;omega),xj fu hfu hb hr,qB,List.map_append];rfl
def zuu(fu:Nat)(hfu:90000000<=fu)(s a b T S:Bs)(hb:s.length<=4000000):∀(n:Nat)(r:Bs)(acc:List Pc),r <:+ s->be r=r->r.length<n->acc.length+r.length<=4000000 ->
  qbt fu n s (pos s r) a b T S (acc.map cf)=match dh g9 n acc r with
   |none=>some bad|some l=>nv fu fu 0 a b T S (l.map cf) []:=by
 intro n
 induction n with
 |zero=>intro r acc _ _ h;omega|succ n ih=>
  intro r acc hr hlt h hacc;rw[qbt,qt4,dh,hlt]
  cases r with
  |nil=>rw[ix,ap]|cons c t=>
   have ht:t <:+ s:=(List.suffix_cons _ _).trans hr;simp only[qL]at h hacc;rw[ag (nj hr),xf hr,qB,wj];simp only;by_cases hc:c=59
   ·rw[qW (by simp[hc]),qX hc,qg hr,xj fu hfu hb ht,qB]
    have h1:be t <:+ s:=(sm t).trans ht;rw[qkw fu hfu [42] (by simp) hb h1 dt zw5,qB]
    obtain⟨ok1,ok2⟩:=qky dt h1;have h2:(be t).dropWhile dt <:+ s:=(List.dropWhile_suffix dt).trans h1;have hnl:((be t).takeWhile dt).length<=4000000:=by
     have:=(List.takeWhile_prefix (l:=be t) dt).length_le;have:=kh t;omega
    rw[ag ok1,xj fu hfu hb h2,qB,ok2];unfold p8 bz dd;simp only;have h3:be ((be t).dropWhile dt) <:+ s:=(sm _).trans h2;have hl3:(be ((be t).dropWhile dt)).length<=t.length:=by
     have g1:=kh ((be t).dropWhile dt);have g2:=(List.dropWhile_suffix (l:=be t) dt).length_le;have g3:=kh t;omega
    generalize be ((be t).dropWhile dt)=u at *;generalize (be t).takeWhile dt=nm at *
    cases u with
    |nil=>rw[ix,au,qf2,au rfl];simp;rfl|cons d u=>
     have h4:u <:+ s:=(List.suffix_cons _ _).trans h3;simp only[qL]at hl3;rw[ax (by have:=nj h3;simp;omega),xf h3,qB,qf2,wj]
     by_cases hd:d=61
     ·rw[qW (by simp[hd])]
      simp only[qX hd,if_true];rw[qua,qg h3,xj fu hfu hb h4,qB]
      have h5:be u <:+ s:=(sm u).trans h4;have hl5:=kh u;have fin:∀(v w:Bs),w <:+ s->w.length<=u.length->yu fu (qbt fu n) s (pos s w) nm v a b T S (acc.map cf)=match(match g9 nm v with
        |none=>none| some p=>dh g9 n (acc++[p]) w) with
        |none=>some bad|some l=>nv fu fu 0 a b T S (l.map cf) []:=by
       intro v w hw hwl;rw[zsg fu hfu _ s nm v a b T S acc hb hnl (by omega) w hw]
       cases g9 nm v with
       |none=>rfl|some p=>
        simp only;have g1:=kh w;rw[ih (be w) (acc++[p]) ((sm w).trans hw) (qed w) (by omega) (by simp;omega)]
        have e:dh g9 n (acc++[p]) (be w)=dh g9 n (acc++[p]) w:=by
         cases n with|zero=>rfl|succ n=>rw[dh,dh,qed]
        rw[e]
      unfold xt dd
      cases hu:be u with
      |nil=>
       rw[ix,ap,qf4,ax rfl]
       have hnil:([]:Bs) <:+ s:=List.nil_suffix;have r1:=qkw fu hfu [37,39,42] (by simp) hb hnil kq zgr
       obtain⟨q1,q2⟩:=qky kq hnil;rw[ix]at r1 q1 q2;rw[r1,qB,ag q1,q2];simp only[wJ,if_false,wQ];exact fin [] [] hnil (by simp)
      |cons e w=>
       rw[hu]at h5 hl5;simp only[qL]at hl5;have h6:w <:+ s:=(List.suffix_cons _ _).trans h5;rw[ag (nj h5),xf h5,qB,qf4];by_cases he:e=34
       ·rw[au (by simpa using he),qg h5]
        simp only[qX he,if_true];rw[zvc fu _ s nm a b T S _ hb fu w [] h6 (by omega) (by simp;omega)]
        cases hq:qv [] w with
        |none=>rfl|some x=>
         have:=zej [] w x.1 x.2 hq;simp only[wQ];exact fin x.1 x.2 (this.2.trans h6) (by have:=this.2.length_le;omega)
       ·rw[ax (by simpa using he)]
        simp only[qW he,wJ,if_false,wQ];rw[qkw fu hfu [37,39,42] (by simp) hb h5 kq zgr,qB]
        obtain⟨q1,q2⟩:=qky kq h5;rw[ag q1,q2];unfold bz;have hle:be (e::w)=e::w:=by rw[← hu,qed]
        rw[hle];have hdl:=(List.dropWhile_suffix (l:=e::w) kq).length_le;simp only[qL]at hdl;exact fin _ _ ((List.dropWhile_suffix kq).trans h5) (by omega)
     ·rw[qX hd];simp only[qW hd,wJ,if_false];rfl
   ·rw[qX hc,qW hc];rfl
def zvg(fu:Nat)(hfu:90000000<=fu)(s:Bs)(h:s.length<=300000):qfw fu s=match oo g9 s with
  |none=>some bad|some m=>nv fu fu 0 [] [] m.1 m.2.1 (m.2.2.map cf) []:=by
 have hb:s.length<=4000000:=by omega
 have h0:s <:+ s:=List.suffix_refl s;have h1:be s <:+ s:=sm s;unfold qfw oo;have sk:=xj fu hfu hb h0;rw[q2t]at sk;rw[sk,qB,qkw fu hfu [] (by simp) hb h1 tk zgs,qB]
 obtain⟨ok1,ok2⟩:=qky tk h1;have h2:(be s).dropWhile tk <:+ s:=(List.dropWhile_suffix tk).trans h1;rw[ag ok1,xj fu hfu hb h2,qB,ok2];unfold bz dd;simp only;have h3:be ((be s).dropWhile tk) <:+ s:=(sm _).trans h2;generalize be ((be s).dropWhile tk)=u at *
 cases hT:(be s).takeWhile tk with
 |nil=>rw[au,yt,au rfl,qX (.inl rfl)];rfl|cons x y=>
  rw[ax (by rfl)]
  cases u with
  |nil=>rw[ix,au,yt,au rfl,qX (.inr (.inl rfl))];rfl|cons d u=>
   have h4:u <:+ s:=(List.suffix_cons _ _).trans h3;rw[ax (by have:=nj h3;simp;omega),xf h3,qB,yt,wj]
   by_cases hd:d=47
   ·rw[qW (by simp[hd]),qt7,qg h3,xj fu hfu hb h4,qB]
    simp only[qX hd];have h5:be u <:+ s:=(sm u).trans h4;rw[qkw fu hfu [] (by simp) hb h5 tk zgs,qB]
    obtain⟨q1,q2⟩:=qky tk h5;rw[ag q1,q2];have h6:(be u).dropWhile tk <:+ s:=(List.dropWhile_suffix tk).trans h5
    cases hS:(be u).takeWhile tk with
    |nil=>rw[au,qX (.inr (.inr rfl))];rfl|cons x3 y3=>
     rw[ax (by rfl),qW (by simp),xj fu hfu hb h6,qB]
     have hl6:=h6.length_le;have hl7:=kh ((be u).dropWhile tk);have:=zuu fu hfu s [] [] (x::y) (x3::y3) hb fu (be ((be u).dropWhile tk)) [] ((sm _).trans h6) (qed _) (by omega) (by simp;omega)
     refine(this:_=_).trans ?_;rw[qkq _ fu _ _ (by omega),qkq _ (s.length+1) _ _ (by omega)]
     have e:dh g9 ((be ((be u).dropWhile tk)).length+1) [] (be ((be u).dropWhile tk))=dh g9 (((be u).dropWhile tk).length+1) [] ((be u).dropWhile tk):=by
      rw[← qkq _ (((be u).dropWhile tk).length+1) _ _ (by omega),dh,dh,qed]
     rw[e];cases dh g9 (((be u).dropWhile tk).length+1) [] ((be u).dropWhile tk)<;>rfl
   ·rw[qX hd];simp only[qW hd];rw[qX (.inr (.inl trivial))];rfl
open Go.Sort (SWO PermIn SortedIn pdq_sorts)
open Go.Proofs (ltOf)
def ltQ(x y:Pq):ltOf jf x y=decide (x.1.2.1<y.1.2.1):=by
 have:=x.2;have:=y.2;unfold ltOf jf;have h:af (x.1.2.1-y.1.2.1)=x.1.2.1-y.1.2.1:=by unfold af;simp[IntKind.wrap,IntKind.bits,IntKind.signed];omega
 rw[h];by_cases q:x.1.2.1<y.1.2.1<;>simp[q]<;>omega
def zws:SWO (ltOf jf):=⟨fun x=>by rw[ltQ];simp,fun x y z h1 h2=>by rw[ltQ]at *;simp at *;omega,fun x y z h1 h2=>by rw[ltQ]at *;simp at *;omega⟩
def zga(l:List Pq):(il l).Perm l/\(il l).Pairwise (fun x y=>x.1.2.1<=y.1.2.1):=by
 obtain⟨⟨h1,_,h2⟩,h3⟩:=pdq_sorts (ltOf jf) zws l.toArray 0 l.length (Lib.bitLen l.length) true true (Nat.zero_le _) (by simp) (.inl rfl)
 have hsort:il l=(Go.Sort.pdq (ltOf jf) l.toArray 0 l.length (Lib.bitLen l.length) true true).toList:=rfl;generalize Go.Sort.pdq (ltOf jf) l.toArray 0 l.length (Lib.bitLen l.length) true true=D at h1 h2 h3 hsort;have hs:D.size=l.length:=by rw[h1];simp
 rw[hsort];constructor
 ·have e:∀d:Array Pq,d.size=l.length->(d.extract 0 l.length).toList=d.toList:=fun d hd=>by rw[← hd];simp
  rw[e _ hs,e _ (by simp)]at h2
  simpa using h2
 ·rw[List.pairwise_iff_getElem];intro i j hi hj hij;rw[Array.length_toList]at hi hj;have:=h3 i j (Nat.zero_le _) hij (by omega)
  rw[ltQ,getElem!_pos D j hj,getElem!_pos D i hi]at this;have:=of_decide_eq_false this;simp only[Array.getElem_toList];omega
def zgv:∀l:List Pc,(∀p∈l,nb p)->∃q,qn l=some q/\q.map (·.1)=l
 |[],_=>⟨[],rfl,rfl⟩|p::l,h=>by
  obtain⟨q,h1,h2⟩:=zgv l (fun x hx=>h x (qE _ hx))
  have hp:=h p qH;unfold nb at hp;refine⟨⟨p,by omega⟩::q,?_,by simp[h2]⟩
  rw[qn,dif_pos (by omega),h1]
def ic(l:List Pc):List Pc:=match qn l with|some q=>(il q).map (·.1)|none=>[]
def q3o(l:List Pc)(h:∀p∈l,nb p)(hl:l.length<=4000000:=by omega):zq l=some (ic l)/\(ic l).Perm l/\(ic l).Pairwise (fun x y=>x.2.1<=y.2.1):=by
 have hrm:=gh;obtain⟨q,h1,h2⟩:=zgv l h;have h3:=zga q;unfold zq ic;rw[h1,ag (by omega)]
 refine⟨rfl,?_,?_⟩
 ·have:=h3.1.map (·.1);rw[h2]at this;exact this
 ·exact List.pairwise_map.2 h3.2
def lx:List Pc->Int->Bs->Option Bs|[],_,out=>some out|p::q,k,out=>if p.2.1=k then lx q (k+1) (out++nt p) else none
def nh:List Pc->Int->Prop|[],_=>True|p::q,k=>p.2.1=k/\nh q (k+1)
def q1z:∀(q:List Pc)(k:Int)(out:Bs),nh q k->lx q k out=some (out++q.flatMap nt)|[],_,out,_=>by simp[lx]|p::q,k,out,h=>by rw[lx,qX h.1,q1z q _ _ h.2];simp
def q1y:∀(q:List Pc)(k:Int)(out v:Bs),lx q k out=some v->nh q k
 |[],_,_,_,_=>trivial|p::q,k,out,v,h=>by
  rw[lx]at h;by_cases hp:p.2.1=k
  ·rw[qX hp]at h;exact⟨hp,q1y q _ _ _ h⟩
  ·rw[qW hp]at h;cases h
def zcx(q:List Pc)(k:Int)(out:Bs)(h:¬nh q k):lx q k out=none:=by
 cases hl:lx q k out with|none=>rfl|some v=>exact absurd (q1y q k out v hl) h
def Cov(q:List Pc)(k:Int):Prop:=∀j:Nat,j<q.length->∃p∈q,p.2.1=k+j
def pig(m:Nat):∀(l:List Pc)(k:Int),(∀j:Nat,j<m->∃p∈l,p.2.1=k+j)->m<=l.length:=by
 induction m with
 |zero=>intro l k _;omega|succ m ih=>
  intro l k h;obtain⟨p,hp,hk⟩:=h m (by omega)
  obtain⟨a,b,rfl⟩:=List.append_of_mem hp;have:=ih (a++b) k (fun j hj=>by
   obtain⟨x,hx,hxk⟩:=h j (by omega)
   refine⟨x,?_,hxk⟩;rcases List.mem_append.1 hx with g|g
   ·exact List.mem_append_left _ g
   ·rcases List.mem_cons.1 g with g|g
    ·subst g;omega
    ·exact List.mem_append_right _ g)
  rw[qM]at this;rw[qM,qL];omega
def zay:∀(q:List Pc)(k:Int),q.Pairwise (fun x y=>x.2.1<=y.2.1)->Cov q k->nh q k
 |[],_,_,_=>trivial|p::r,k,hs,hc=>by
  rw[List.pairwise_cons]at hs;have ac:(p::r).length=r.length+1:=rfl;have h1:k<=p.2.1/\p.2.1<k+(r.length+1:Nat):=by
   by_cases g:k<=p.2.1/\p.2.1<k+(r.length+1:Nat)
   ·exact g
   ·exfalso;have:=pig (r.length+1) r k (fun j hj=>by
     obtain⟨x,hx,hxk⟩:=hc j (by omega)
     rcases List.mem_cons.1 hx with e|e
     ·subst e;exact absurd ⟨by omega,by omega⟩ g
     ·exact⟨x,e,hxk⟩)
    omega
  have h2:p.2.1=k:=by
   obtain⟨x,hx,hxk⟩:=hc 0 (by omega)
   rcases List.mem_cons.1 hx with e|e
   ·subst e;omega
   ·have:=hs.1 x e;omega
  refine⟨h2,zay r (k+1) hs.2 fun j hj => ?_⟩
  obtain⟨x,hx,hxk⟩:=hc (j+1) (by omega)
  rcases List.mem_cons.1 hx with e|e
  ·subst e;omega
  ·exact⟨x,e,by omega⟩
def zdo:∀(q:List Pc)(k:Int),nh q k->∀x∈q,k<=x.2.1
 |[],_,_,_,h=>by cases h
 |p::r,k,h,x,hx=>by
  rcases List.mem_cons.1 hx with e|e
  ·subst e;exact Int.le_of_eq h.1.symm
  ·have:=zdo r _ h.2 x e;omega
def Cov.perm{q q':List Pc}{k:Int}(h:Cov q k)(hp:q.Perm q'):Cov q' k:=fun j hj=>by
 obtain⟨x,hx,e⟩:=h j (by rw[hp.length_eq];exact hj)
 exact⟨x,hp.mem_iff.1 hx,e⟩
def sf:List Pc->Option Bs|[]=>none|p::l=>if p.2.1<0 then(if l=[] then some p.2.2.2 else none) else(lx (ic (p::l)) 0 []).map fun v=>vu [239,191,189] v.length false v
def qq4(p:Pc)(l:List Pc):sf (p::l)=if p.2.1<0 then(if l=[] then some p.2.2.2 else none) else(lx (ic (p::l)) 0 []).map fun v=>vu [239,191,189] v.length false v:=rfl
def qa8(p:Pc)(l:List Pc):cv (p::l)=(p.1.length+p.2.2.2.length+1)+cv l:=by unfold cv;simp
def q3u{l l':List Pc}(h:l.Perm l'):cv l=cv l':=by unfold cv;exact(h.map _).sum_nat
def qet{l:List Pc}{p:Pc}(h:p∈l):p.1.length+p.2.2.2.length+1<=cv l:=by
 obtain⟨a,b,rfl⟩:=List.append_of_mem h;unfold cv;simp;omega
def zqw(fu n:Nat)(hfu:90000000<=fu)(z:Bs×Bs)(nm:Bs):∀(ab aa:List Pc)(out:Bs),aa.length<n->ab.length+aa.length<100000000->out.length+cv aa<=300000 ->
  ∃R,qhz fu n ((ab.length+aa.length:Nat):Int) (ab.length:Int) z (nm,out) (ab++aa)=some R/\match lx aa (ab.length:Int) out with
   |some v=>R=((nm,vu [239,191,189] v.length false v),true)|none=>R.2=false:=by
 induction n with
 |zero=>intro ab aa out h;omega|succ n ih=>
  intro ab aa out h hb hz;rw[qhz,qwg]
  cases aa with
  |nil=>
   rw[ap,zxa out (by simp[cv]at hz;omega)]
   exact⟨_,rfl,rfl⟩
  |cons p t=>
   rw[qa8]at hz;simp only[qL]at h hb;have hl:0<=(ab.length:Int)/\(ab.length:Int).toNat<(ab++p::t).length:=by simp
   have htl:=qk4 p;rw[ag (by simp only[qL];omega),ag hl,ii,qB,fh,lx]
   by_cases hp:p.2.1=(ab.length:Int)
   ·rw[qW (by simpa using hp),qX hp,zw3 fu hfu p,qB,ag (by simp[ar];omega),aw _]
    have:=ih (ab++[p]) t (out++nt p) (by omega) (by simp;omega) (by rw[qM];omega)
    simp only[qM,qL,qZ,qS,wM,wO]at this;rw[show(ab.length+(p::t).length:Nat)=ab.length+1+t.length by simp only[qL];omega,show(ab.length:Int)+1=((ab.length+1:Nat):Int) by omega]
    exact this
   ·rw[qX hp,qW hp];exact⟨_,rfl,rfl⟩
def zqy(fu:Nat)(hfu:90000000<=fu)(p:Pc)(l:List Pc)(hz:cv (p::l)<=300000)(hn:∀x∈p::l,nb x):∃R,qhy fu (p::l)=some R/\match sf (p::l) with
  |some v=>R=((p.1,v),true)|none=>R.2=false:=by
 have hl:decide (0<=(0:Int)/\(0:Int).toNat<List.length (p::l))=true:=by simp
 have ac:=nq (p::l);unfold qhy;rw[qq4,au hl,show(p::l)[(0:Int).toNat]? = some p from rfl,qB,au hl,qB,au hl,qB]
 by_cases h0:p.2.1<0
 ·rw[ag h0,qX h0];refine⟨_,rfl,?_⟩
  cases l with|nil=>rfl|cons y l=>rw[qW (by simp)];simp;omega
 ·rw[ap h0,qW h0];obtain⟨h1,h2,h3⟩:=q3o (p::l) hn
  rw[h1,qB];obtain⟨R,g1,g2⟩:=zqw fu fu hfu ([],[]) p.1 [] (ic (p::l)) [] (by rw[h2.length_eq];omega) (by rw[h2.length_eq];simp only[qZ];omega) (by rw[q3u h2];simpa using hz)
  simp only[List.nil_append,qZ,wO]at g1 g2;refine⟨R,g1,?_⟩;rw[show((0:Nat):Int)=0 from rfl]at g2
  cases hq:lx (ic (p::l)) 0 [] with|none=>rw[hq]at g2;exact g2|some v=>rw[hq]at g2;exact g2
def cn(nm:Bs)(l:List Pc):List Pc:=l.filter fun x=>lk x.1 nm
def fm:List Pc->List Pc->List bt->Bool×List bt
 |_,[],out=>(true,out)|ab,p::aa,out=>if ab.any (fun x=>lk x.1 p.1)=true then fm (ab++[p]) aa out else match sf (cn p.1 (ab++p::aa)) with|none=>(false,[])|some v=>fm (ab++[p]) aa (out++[(p.1,v)])
def zqv(fu n:Nat)(hfu:90000000<=fu)(p:Pc)(hp:p.1.length<=4000000):∀(ab aa:List Pc),aa.length<n->ab.length+aa.length<100000000->(∀x∈aa,x.1.length<=4000000) ->
  ∃i:Int,qio fu n (ab++aa) ((ab.length+aa.length:Nat):Int) (ab.length:Int) p=some (i,p)/\decide (0<=i)=aa.any (fun x=>lk x.1 p.1):=by
 induction n with
 |zero=>intro ab aa h;omega|succ n ih=>
  intro ab aa h hb hs;rw[qio,qxp]
  cases aa with
  |nil=>rw[ap];exact⟨_,rfl,rfl⟩|cons d aa=>
   simp only[qL]at h hb;rw[ag (by simp only[qL];omega),bf,qB,qh2,qj fu hfu _ _ (hs d qH) hp,qB,qB,aw _]
   obtain⟨i,h1,h2⟩:=ih (ab++[d]) aa (by omega) (by simp;omega) (fun x hx=>hs x (qE _ hx))
   simp only[qM,qL,qZ,qS,wM,wO]at h1;cases e:lk d.1 p.1
   ·simp only[qF,List.any_cons,e,Bool.false_or];rw[show(ab.length+(d::aa).length:Nat)=ab.length+1+aa.length by simp only[qL];omega]
    exact⟨i,h1,h2⟩
   ·simp only[qT,List.any_cons,e,Bool.true_or];exact⟨_,rfl,decide_eq_true (by omega)⟩
def znq(fu:Nat)(hfu:90000000<=fu)(l:List Pc)(p:Pc)(hp:p.1.length<=4000000)(hl:l.length<=4000000)(hs:∀x∈l,x.1.length<=4000000):qof fu l p=some (l.any (fun x=>lk x.1 p.1),p):=by
 obtain⟨i,h1,h2⟩:=zqv fu fu hfu p hp [] l (by omega) (by simp;omega) hs
 simp only[List.nil_append,qZ,wO]at h1;unfold qof qxo;rw[← h2];exact(congrArg (fun q=>Option.bind q fun x1=>some (decide ((0:Int)<=x1.1),x1.2)) h1).trans rfl
def q0e(r0:yf)(s0 s13:List Pc)(s14 s15:Int)(p:Pc)(out:List bt)(x3:(Bs×Bs)×Bool):Option qi6:=bif !x3.2 then some (false,[]) else bif decide (List.length (out++([(p.1,x3.1.2)]:List bt))<=a8) then r0 s0 s13 s14 (af (s15+(1:Int))) (out++([(p.1,x3.1.2)]:List bt)) else none
def zs5(fu:Nat)(hfu:90000000<=fu)(r0:yf)(s0 s13:List Pc)(s14 s15:Int)(p:Pc)(hp:p.1.length<=4000000)(out:List bt)(n:Nat):∀(ab aa acc:List Pc),aa.length<n->ab.length+aa.length<100000000->acc.length<=ab.length->(∀x∈aa,x.1.length<=4000000) ->
  qh3 fu r0 n s0 s13 s14 s15 (ab++aa) ((ab.length+aa.length:Nat):Int) (ab.length:Int) p out acc =
   (qhy fu (acc++cn p.1 aa)).bind (q0e r0 s0 s13 s14 s15 p out):=by
 have hrm:=gh
 induction n with
 |zero=>intro ab aa acc h;omega|succ n ih=>
  intro ab aa acc h hb ha hs;rw[qh3,qwk]
  cases aa with
  |nil=>rw[ap,show cn p.1 []=[] from rfl,List.append_nil];rfl|cons d aa=>
   simp only[qL]at h hb;rw[ag (by simp only[qL];omega),bf,qB,qh2,qj fu hfu _ _ (hs d qH) hp,qB,qB]
   have h1:=fun acc'(ha':acc'.length<=ab.length+1)=>ih (ab++[d]) aa acc' (by omega) (by simp;omega) (by simpa using ha') (fun x hx=>hs x (qE _ hx))
   simp only[qM,qL,qZ,qS,wM,wO]at h1;rw[show cn p.1 (d::aa)=if lk d.1 p.1=true then d::cn p.1 aa else cn p.1 aa by unfold cn;rw[List.filter_cons]]
   cases e:lk d.1 p.1
   ·simp only[qF,wJ,if_false];rw[qh4,aw _,show(ab.length+(d::aa).length:Nat)=ab.length+1+aa.length by simp only[qL];omega]
    exact h1 acc (by omega)
   ·simp only[qT,if_true];rw[ag (by simp;omega),qh4,aw _,show(ab.length+(d::aa).length:Nat)=ab.length+1+aa.length by simp only[qL];omega]
    refine(h1 (acc++[d]) (by simp;omega)).trans ?_
    rw[qS];rfl
def q3t(f:Pc->Bool)(l:List Pc):cv (l.filter f)<=cv l:=by
 induction l with
 |nil=>simp|cons p l ih=>
  rw[List.filter_cons];split
  ·rw[qa8,qa8];omega
  ·rw[qa8];omega
def zsp(fu:Nat)(hfu:90000000<=fu)(l:List Pc)(hz:cv l<=300000)(hn:∀x∈l,nb x)(n:Nat):∀(ab aa:List Pc)(out:List bt),l=ab++aa->aa.length<n->out.length<=ab.length ->
  qcq fu n l (ab++aa) ((ab.length+aa.length:Nat):Int) (ab.length:Int) out=some (fm ab aa out):=by
 have hrm:=gh;have hll:=nq l;have hnm:∀x∈l,x.1.length<=4000000:=fun x hx=>by have:=qet hx;omega
 induction n with
 |zero=>intro ab aa out _ h;omega|succ n ih=>
  intro ab aa out hl h ho;rw[qcq,qwj]
  cases aa with
  |nil=>rw[ap];rfl|cons p aa=>
   simp only[qL]at h;have ac:l.length=ab.length+aa.length+1:=by rw[hl];simp;omega
   have hp:=hnm p (by rw[hl];simp)
   rw[ag (by simp only[qL];omega),bf,qB,ag (by omega)]
   have e:List.take ((ab.length:Nat):Int).toNat l=ab:=by rw[hl];exact qm _ _
   rw[e,znq fu hfu ab p hp (by omega) (fun x hx=>hnm x (by rw[hl];simp[hx])),qB,fm]
   have step:=fun o(ho:List.length o<=ab.length+1)=>ih (ab++[p]) aa o (by rw[hl];simp) (by omega) (by simpa using ho)
   simp only[qM,qL,qZ,qS,wM,wO]at step;simp only;cases hany:ab.any (fun x=>lk x.1 p.1)
   ·rw[ax rfl,qW (by simp)]
    have h1:=zs5 fu hfu (qcq fu n) l (ab++p::aa) ((ab.length+(p::aa).length:Nat):Int) (ab.length:Int) p hp out fu [] l [] (by omega) (by simp;omega) (by simp) hnm
    simp only[List.nil_append,qZ,wO]at h1;rw[show((0:Nat):Int)=0 from rfl]at h1
    rw[h1];have hmem:p∈cn p.1 l:=by unfold cn;rw[List.mem_filter];exact⟨by rw[hl];simp,q1s _⟩
    have hzz:=q3t (fun x=>lk x.1 p.1) l
    cases hN:cn p.1 l with
    |nil=>rw[hN]at hmem;cases hmem
    |cons y w=>
     obtain⟨R,g1,g2⟩:=zqy fu hfu y w (by rw[← hN];unfold cn;omega) (fun x hx=>hn x (by rw[← hN]at hx;exact(List.mem_filter.1 hx).1))
     rw[g1,qB];rw[← hl,hN]
     cases hj:sf (y::w) with
     |none=>rw[hj]at g2;simp only at g2;rw[q0e,g2];rfl|some v=>
      rw[hj]at g2;simp only at g2;subst g2;rw[q0e,bn,ag (by simp;omega),aw _]
      simp only;rw[show(ab.length+(p::aa).length:Nat)=ab.length+1+aa.length by simp only[qL];omega]
      have st:=step (out++[(p.1,v)]) (by simp;omega)
      rw[← hl]at st;exact st
   ·rw[au rfl,qX rfl,aw _,show(ab.length+(p::aa).length:Nat)=ab.length+1+aa.length by simp only[qL];omega]
    exact step out (by omega)
def zso(fu:Nat)(hfu:90000000<=fu)(l:List Pc)(hz:cv l<=300000)(hn:∀x∈l,nb x):qcp fu l=some (fm [] l []):=by
 have hll:=nq l;have:=zsp fu hfu l hz hn fu [] l [] rfl (by omega) (by simp)
 simpa [qcp] using this
end Go.Sym
namespace Go.Sym
def zdq:∀(q:List Pc)(k:Int),nh q k->∀x∈q,∀y∈q,x.2.1=y.2.1->x=y
 |[],_,_,x,hx,_,_,_=>by cases hx
 |p::r,k,h,x,hx,y,hy,e=>by
  have hg:=zdo r _ h.2;have h1:=h.1;rcases List.mem_cons.1 hx with ex|ex
  ·rcases List.mem_cons.1 hy with ey|ey
   ·rw[ex,ey]
   ·subst ex;have:=hg y ey;omega
  ·rcases List.mem_cons.1 hy with ey|ey
   ·subst ey;have:=hg x ex;omega
   ·exact zdq r _ h.2 x ex y ey e
def og{l u w:List Pc}{x:Pc}(h:l=u++x::w):am (l.map cf) (u.length:Int)=some (cf x):=by
 subst h;have:=bf (u.map cf) (cf x) (w.map cf);rw[wC]at this;rw[List.map_append,List.map_cons];exact this
section ref
variable(fu:Nat)(hfu:90000000<=fu)(l ab aa:List Pc)(p:Pc)(hl:l=ab++p::aa)(hz:cv l<=300000)(b0 b1 T S:Bs)(ps:List bt)(r4:ig)
include hfu hl hz
def q3d:∀x∈l,x.1.length<=4000000:=fun x hx=>by have _:=hfu;have _:=hl;have:=qet hx;omega
def rp6(n:Nat):∀(u w:List Pc)(seen:Bool),ab=u++w->w.length<n ->
  qf3 fu r4 n (ab.length:Int) seen (u.length:Int) b0 b1 T S (l.map cf) ps=qw fu r4 fu (ab.length:Int) (seen||w.any (fun x=>lk p.1 x.1)) (0:Int) (0:Int) b0 b1 T S (l.map cf) ps:=by
 have hnm:=q3d fu hfu l ab aa p hl hz;have hll:=nq l;have ac:l.length=ab.length+aa.length+1:=by rw[hl];simp;omega
 induction n with
 |zero=>intro u w seen _ h;omega|succ n ih=>
  intro u w seen hp h;rw[qf3,qt6];have hpl:ab.length=u.length+w.length:=by rw[hp];simp
  cases w with
  |nil=>rw[ap (by simp only[qZ]at hpl;omega)];simp|cons x w=>
   simp only[qL]at h hpl;have st:=fun sn=>ih (u++[x]) w sn (by rw[hp];simp) (by omega)
   simp only[qM,qL,qZ,wO]at st;rw[ag (by omega),List.any_cons]
   have hx:x∈l:=by rw[hl,hp];simp
   cases seen
   ·rw[ax rfl,jo,og hl,qB,jo,og (show l=u++x::(w++p::aa) by rw[hl,hp];simp),qB]
    show(jc fu p.1 x.1).bind _=_;rw[ub fu hfu _ _ (hnm p (by rw[hl];simp)) (hnm x hx),qB,qfy,aw _,st]
    simp
   ·rw[au rfl,qfy,aw _,st]
    simp
def rp8(n:Nat):∀(u w:List Pc)(seen:Bool)(c:Nat),l=u++w->w.length<n->c<=u.length ->
  qw fu r4 n (ab.length:Int) seen (c:Int) (u.length:Int) b0 b1 T S (l.map cf) ps=qw fu r4 1 (ab.length:Int) seen ((c+(w.filter (fun x=>lk p.1 x.1)).length:Nat):Int) (l.length:Int) b0 b1 T S (l.map cf) ps:=by
 have hnm:=q3d fu hfu l ab aa p hl hz;have hll:=nq l
 induction n with
 |zero=>intro u w seen c _ h;omega|succ n ih=>
  intro u w seen c hp h hc;have hpl:l.length=u.length+w.length:=by rw[hp];simp
  cases w with
  |nil=>
   rw[List.append_nil]at hp;subst hp;rw[qw,qw];simp only[List.filter_nil,qZ,Nat.add_zero];have hend:¬((l.length:Int)<(List.length (l.map cf):Int)):=by rw[wC];omega
   rw[qbq,qbq,ap hend,ap hend]
  |cons x w=>
   simp only[qL]at h hpl;rw[qw,qbq];have st:=fun c'(hc':c'<=u.length+1)=>ih (u++[x]) w seen c' (by rw[hp];simp) (by omega) (by simpa using hc')
   simp only[qM,qL,qZ,wO]at st;have hx:x∈l:=by rw[hp];simp
   rw[ag (by rw[wC];omega),jo,og hl,qB,jo,og hp,qB]
   show(jc fu p.1 x.1).bind _=_;rw[ub fu hfu _ _ (hnm p (by rw[hl];simp)) (hnm x hx),qB,List.filter_cons]
   cases hk:lk p.1 x.1
   ·rw[ax rfl,qfx,aw _,st c (by omega)];rfl
   ·rw[au rfl,qfx,aw _,aw _,st (c+1) (by omega)]
    simp only[if_true,qL];rw[show c+1+(w.filter (fun x=>lk p.1 x.1)).length=c+((w.filter (fun x=>lk p.1 x.1)).length+1) by omega]
def zfj(r13:me)(c:Int)(v:Bs)(nn:Int)(n:Nat):∀(u w:List Pc)(j:Int),l=u++w->w.length<n ->
  ∃j',lb fu r4 r13 n (ab.length:Int) c v nn j (u.length:Int) b0 b1 T S (l.map cf) ps=lb fu r4 r13 1 (ab.length:Int) c v nn j' (l.length:Int) b0 b1 T S (l.map cf) ps /\
   ((j'=j/\∀x∈w,¬(lk p.1 x.1=true/\x.2.1=nn))\/∃x∈w,lk p.1 x.1=true/\x.2.1=nn/\am (l.map cf) j'=some (cf x)):=by
 have hnm:=q3d fu hfu l ab aa p hl hz;have hll:=nq l
 induction n with
 |zero=>intro u w j _ h;omega|succ n ih=>
  intro u w j hp h;have hpl:l.length=u.length+w.length:=by rw[hp];simp
  cases w with
  |nil=>
   rw[List.append_nil]at hp;subst hp;refine⟨j,?_,.inl ⟨rfl,by simp⟩⟩
   have hend:¬((l.length:Int)<(List.length (l.map cf):Int)):=by rw[wC];omega
   rw[lb,lb,yq,yq,ap hend,ap hend]
  |cons x w=>
   simp only[qL]at h hpl;rw[lb,yq];have st:=fun j'=>ih (u++[x]) w j' (by rw[hp];simp) (by omega)
   simp only[qM,qL,qZ,wO]at st;have hx:x∈l:=by rw[hp];simp
   rw[ag (by rw[wC];omega),jo,og hl,qB,jo,og hp,qB]
   have hsk:¬(lk p.1 x.1=true/\x.2.1=nn)->∃j',lb fu r4 r13 n (ab.length:Int) c v nn j ((u.length+1:Nat):Int) b0 b1 T S (l.map cf) ps=lb fu r4 r13 1 (ab.length:Int) c v nn j' (l.length:Int) b0 b1 T S (l.map cf) ps /\
     ((j'=j/\∀y∈x::w,¬(lk p.1 y.1=true/\y.2.1=nn))\/∃y∈x::w,lk p.1 y.1=true/\y.2.1=nn/\am (l.map cf) j'=some (cf y)):=fun hno=>by
    obtain⟨j',g1,g2⟩:=st j;refine⟨j',g1,?_⟩;rcases g2 with⟨g2,g3⟩|⟨y,g2,g3⟩
    ·exact .inl ⟨g2,fun y hy=>(List.mem_cons.1 hy).elim (fun e=>e▸hno) (g3 y)⟩
    ·exact .inr ⟨y,qE _ g2,g3⟩
   show ∃j',(jc fu p.1 x.1).bind _=_/\_;rw[ub fu hfu _ _ (hnm p (by rw[hl];simp)) (hnm x hx),qB]
   cases hk:lk p.1 x.1
   ·rw[ax rfl,qf0,ax rfl,qbu,aw _]
    exact hsk (by simp[hk])
   ·rw[au rfl,jo,og hp,qB,qf0];show ∃j',(bif x.2.1==nn then _ else _)=_/\_
    rw[gv];by_cases hn:x.2.1=nn
    ·rw[qX hn,qbu,aw _]
     obtain⟨j',g1,g2⟩:=st (u.length:Int);refine⟨j',g1,.inr ?_⟩;rcases g2 with⟨g2,g3⟩|⟨y,g2,g3⟩
     ·exact⟨x,qH,hk,hn,by rw[g2];exact og hp⟩
     ·exact⟨y,qE _ g2,g3⟩
    ·rw[qW hn,qbu,aw _]
     exact hsk (by simp[hn])
omit hl in
def zbe(r13:me)(a c:Int)(v:Bs)(nn:Nat)(j:Int)(x:Pc)(hx:x∈l)(hn:x.2.1=(nn:Int))(hj:am (l.map cf) j=some (cf x))(hv:v.length<=100000000000)(hnn:nn<=4000000) :
  lb fu r4 r13 1 a c v (nn:Int) j (l.length:Int) b0 b1 T S (l.map cf) ps=r13 a c (v++nt x) ((nn+1:Nat):Int) b0 b1 T S (l.map cf) ps:=by
 have hxl:=qet hx;have h0:0<=j:=by
  by_cases h:0<=j
  ·exact h
  ·unfold am at hj;rw[qW h]at hj;cases hj
 rw[lb,yq,ap (by rw[wC];omega),ap,jo,hj,qB,jo,hj,qB]
 have p22:∀t:Bs,t.length<=4000000->qbv fu r4 r13 a c v (nn:Int) t b0 b1 T S (l.map cf) ps=r13 a c (v++t) ((nn+1:Nat):Int) b0 b1 T S (l.map cf) ps:=fun t ht=>by
  rw[qbv,ag (by simp only[ar];omega),qt9,aw _]
 have p23:∀t:Bs,t.length<=4000000->qf1 fu r4 r13 a c v (nn:Int) t b0 b1 T S (l.map cf) ps=r13 a c (v++er t) ((nn+1:Nat):Int) b0 b1 T S (l.map cf) ps:=fun t ht=>by
  rw[qf1,zxp fu hfu t ht,qB,p22 _ (by have:=zea _ t (wF _);omega)]
 unfold nt qr6;show(bif x.2.2.1 then(bif(nn:Int)==0 then(bif decide ((6:Int)<=(x.2.2.2.length:Int)) then(bif decide (0<=(6:Int)/\(6:Int)<=(List.length x.2.2.2:Int)) then(ve fu (List.take (6:Int).toNat x.2.2.2)).bind fun x7=>qu fu r4 r13 a c v (nn:Int) x.2.2.2 (x7==([117,116,102,56,39,39]:Bs)) b0 b1 T S (l.map cf) ps else none) else qu fu r4 r13 a c v (nn:Int) x.2.2.2 false b0 b1 T S (l.map cf) ps) else qu fu r4 r13 a c v (nn:Int) x.2.2.2 false b0 b1 T S (l.map cf) ps) else qbv fu r4 r13 a c v (nn:Int) x.2.2.2 b0 b1 T S (l.map cf) ps)=_
 cases hs:x.2.2.1
 ·rw[ax rfl,p22 _ (by omega),qW (by simp)]
 rw[au rfl,qX rfl,gv,hn];by_cases hz0:(nn:Int)=0
 ·rw[qX hz0];by_cases h6:6<=x.2.2.2.length
  ·have h6':(List.take (6:Int).toNat x.2.2.2).length=6:=by show(List.take 6 _).length=6;rw[List.length_take];omega
   rw[ag (by omega),ag (by omega),qrq fu _ (by omega) (by rw[h6'];simp[maxLen]),qB,qu]
   show(bif lk (x.2.2.2.take 6) [117,116,102,56,39,39] then _ else _)=_
   cases hk:lk (x.2.2.2.take 6) [117,116,102,56,39,39]
   ·rw[ax rfl,p23 _ (by omega),qW (by simp)]
   ·rw[au rfl,ag (by omega),qX ⟨hz0,h6,rfl⟩]
    exact p23 (x.2.2.2.drop 6) (by simp;omega)
  ·rw[ap,qu,ax rfl,p23 _ (by omega),qW (by omega)]
 ·rw[qW hz0,qu,ax rfl,p23 _ (by omega),qW (by omega)]
def zo3(r13:me)(c:Int)(v:Bs)(nn:Int):lb fu r4 r13 1 (ab.length:Int) c v nn (-1) (l.length:Int) b0 b1 T S (l.map cf) ps=some bad:=by
 have _:=hfu;have _:=hl;have _:=hz;rw[lb,yq,ap (by rw[wC];omega),ag (by omega)];rfl
def zu3(q:List Pc)(hq:nh q 0)(hqm:∀x,x∈q↔(x∈l/\lk p.1 x.1=true))(n:Nat):∀(done rest:List Pc)(v:Bs),q=done++rest->rest.length<n->v.length+cv rest<=300000->nh rest (done.length:Int)->q.length<=300000 ->
  mh fu r4 n (ab.length:Int) (q.length:Int) v (done.length:Int) b0 b1 T S (l.map cf) ps=mh fu r4 1 (ab.length:Int) (q.length:Int) (v++rest.flatMap nt) (q.length:Int) b0 b1 T S (l.map cf) ps:=by
 have hll:=nq l
 induction n with
 |zero=>intro done rest v _ h;omega|succ n ih=>
  intro done rest v hd h hv hnum hqb;have hql:q.length=done.length+rest.length:=by rw[hd];simp
  cases rest with
  |nil=>
   rw[List.append_nil]at hd;subst hd;have hend:¬((q.length:Int)<(q.length:Int)):=by omega
   rw[mh,mh,yp,yp,ap hend,ap hend];simp
  |cons x t=>
   simp only[qL]at h hql;rw[qa8]at hv;have hxq:x∈q:=by rw[hd];simp
   have hxl:=(hqm x).1 hxq;have hxn:x.2.1=(done.length:Int):=hnum.1;rw[mh,yp,ag (by omega)]
   obtain⟨j',g1,g2⟩:=zfj fu hfu l ab aa p hl hz b0 b1 T S ps r4 (mh fu r4 n) (q.length:Int) v (done.length:Int) fu [] l (-1) rfl (by omega)
   rw[show(([]:List Pc).length:Int)=0 from rfl]at g1
   rw[g1];rcases g2 with⟨_,g3⟩|⟨y,g2,g3,g4,g5⟩
   ·exact absurd ⟨hxl.2,hxn⟩ (g3 x hxl.1)
   ·have hyq:y∈q:=(hqm y).2 ⟨g2,g3⟩;have hyx:y=x:=zdq q 0 hq y hyq x hxq (by rw[g4,hxn])
    subst hyx;rw[zbe fu hfu l hz b0 b1 T S ps r4 _ _ _ v done.length j' y g2 g4 g5 (by omega) (by omega)]
    have htl:=qk4 y;have st:=ih (done++[y]) t (v++nt y) (by rw[hd];simp) (by omega) (by rw[qM];omega) (by rw[qM,wD];have:=hnum.2;rw[show((done.length+1:Nat):Int)=(done.length:Int)+1 by omega];exact this) hqb
    simp only[qM,qL,qZ,wO]at st;refine st.trans ?_;rw[List.flatMap_cons,qS]
def zu4(cnt k:Nat)(hk:k<cnt)(hno:∀x∈l,¬(lk p.1 x.1=true/\x.2.1=(k:Int)))(hc:cnt<=300000)(n:Nat):∀(nn:Nat)(v:Bs),nn<=k->cnt-nn<n->v.length<=nn*300000 ->
  mh fu r4 n (ab.length:Int) (cnt:Int) v (nn:Int) b0 b1 T S (l.map cf) ps=some bad:=by
 have hll:=nq l
 induction n with
 |zero=>intro nn v _ h;omega|succ n ih=>
  intro nn v hnk h hv;rw[mh,yp,ag (by omega)]
  obtain⟨j',g1,g2⟩:=zfj fu hfu l ab aa p hl hz b0 b1 T S ps r4 (mh fu r4 n) (cnt:Int) v (nn:Int) fu [] l (-1) rfl (by omega)
  rw[show(([]:List Pc).length:Int)=0 from rfl]at g1
  rw[g1];rcases g2 with⟨e,_⟩|⟨y,g2,g3,g4,g5⟩
  ·rw[e];exact zo3 fu hfu l ab aa p hl hz b0 b1 T S ps r4 _ _ v _
  ·have hne:nn≠k:=fun e=>by subst e;exact hno y g2 ⟨g3,g4⟩
   have hyl:=qet g2;have htl:=qk4 y;rw[zbe fu hfu l hz b0 b1 T S ps r4 _ _ _ v nn j' y g2 g4 g5 (by omega) (by omega)]
   exact ih (nn+1) (v++nt y) (by omega) (by omega) (by rw[qM];omega)
end ref
def zrx{l ab aa:List Pc}{p:Pc}(hl:l=ab++p::aa)(h:ab.any (fun x=>lk x.1 p.1)=false):cn p.1 l=p::cn p.1 aa:=by
 subst hl;unfold cn;rw[List.filter_append,List.filter_cons,qX (q1s p.1)];rw[List.filter_eq_nil_iff.2]
 ·rfl
 ·intro x hx;rw[List.any_eq_false]at h;exact h x hx
def zu9(fu:Nat)(hfu:90000000<=fu)(l:List Pc)(hz:cv l<=300000)(hn:∀x∈l,nb x)(b0 b1 T S:Bs)(n:Nat):∀(ab aa:List Pc)(ps:List bt),l=ab++aa->aa.length<n->ps.length<=ab.length ->
  nv fu n (ab.length:Int) b0 b1 T S (l.map cf) ps=some (if(fm ab aa ps).1=true then((T,(S,(fm ab aa ps).2)),true) else bad):=by
 have hrm:=gh;have hll:=nq l
 induction n with
 |zero=>intro ab aa ps _ h;omega|succ n ih=>
  intro ab aa ps hl h hps;have ac:l.length=ab.length+aa.length:=by rw[hl];simp
  rw[nv,qt5]
  cases aa with
  |nil=>rw[ap (by rw[wC];simp only[qZ]at ac;omega)];rfl|cons p aa=>
   simp only[qL]at h ac;have st:=fun o(ho:List.length o<=ab.length+1)=>ih (ab++[p]) aa o (by rw[hl];simp) (by omega) (by simpa using ho)
   simp only[qM,qL,qZ,wO]at st;rw[ag (by rw[wC];omega)]
   have h6:=rp6 fu hfu l ab aa p hl hz b0 b1 T S ps (nv fu n) fu [] ab false rfl (by omega)
   rw[show(([]:List Pc).length:Int)=0 from rfl]at h6
   have h8:=rp8 fu hfu l ab aa p hl hz b0 b1 T S ps (nv fu n) fu [] l (false||ab.any (fun x=>lk p.1 x.1)) 0 rfl (by omega) (by simp)
   rw[show(([]:List Pc).length:Int)=0 from rfl,show((0:Nat):Int)=0 from rfl]at h8
   rw[h6,h8];have hcm:(fun x:Pc=>lk p.1 x.1)=(fun x:Pc=>lk x.1 p.1):=funext fun x=>q1r _ _
   rw[hcm,Bool.false_or,wO,qw,qbq,ap (by rw[wC];omega)]
   have hP:fm ab (p::aa) ps=(if ab.any (fun x=>lk x.1 p.1)=true then fm (ab++[p]) aa ps else match sf (cn p.1 l) with
    |none=>(false,[])| some v=>fm (ab++[p]) aa (ps++[(p.1,v)])):=by subst hl;rfl
   rw[hP];cases hany:ab.any (fun x=>lk x.1 p.1)
   ·rw[ax rfl,qW (c:=(false=true)) (by simp),jo,og hl,qB]
    have hnf:=zrx hl hany;have hA:(l.filter fun x=>lk x.1 p.1)=p::cn p.1 aa:=hnf
    rw[hA,hnf,qq4];have hAz:cv (p::cn p.1 aa)<=300000:=by have:=q3t (fun x=>lk x.1 p.1) l;rw[hA]at this;omega
    have hAl:=nq (p::cn p.1 aa);have hAm:∀x,x∈p::cn p.1 aa↔(x∈l/\lk p.1 x.1=true):=fun x=>by
     rw[← hA,List.mem_filter,q1r]
    show(bif decide (p.2.1<0) then _ else _)=_
    by_cases h0:p.2.1<0
    ·rw[ag h0,qX h0,fh];by_cases h1:cn p.1 aa=[]
     ·rw[qW (by rw[h1];simp),qX h1,jo,og hl,qB,jo,og hl,qB,ag (by simp;omega),aw _]
      exact st (ps++[(p.1,p.2.2.2)]) (by simp;omega)
     ·rw[qX (by
       cases hh:cn p.1 aa with
       |nil=>exact absurd hh h1| cons=>simp only[qL];omega),qW h1];rfl
    ·rw[ap h0,qW h0];obtain⟨_,h2,h3⟩:=q3o (p::cn p.1 aa) (fun x hx=>hn x ((hAm x).1 hx).1)
     by_cases hnum:nh (ic (p::cn p.1 aa)) 0
     ·rw[q1z _ _ _ hnum,wQ];have hm:∀x,x∈ic (p::cn p.1 aa)↔(x∈l/\lk p.1 x.1=true):=fun x=>by rw[h2.mem_iff];exact hAm x
      have hsz:=q3u h2;have:=zu3 fu hfu l ab aa p hl hz b0 b1 T S ps (nv fu n) (ic (p::cn p.1 aa)) hnum hm fu [] (ic (p::cn p.1 aa)) [] rfl (by rw[h2.length_eq];omega) (by rw[hsz];simpa using hAz) hnum (by rw[h2.length_eq];omega)
      rw[show(([]:List Pc).length:Int)=0 from rfl,h2.length_eq]at this
      rw[this,mh,yp,ap,jo,og hl,qB]
      have hvl:∀q:List Pc,(q.flatMap nt).length<=cv q:=by
       intro q
       induction q with
       |nil=>simp|cons y q ih2=>
        have:=qk4 y;rw[List.flatMap_cons,qM,qa8];omega
      have hv:=hvl (ic (p::cn p.1 aa));simp only[List.nil_append];rw[zue fu (by omega) _,qB,ag (by simp;omega),aw _]
      exact st (ps++[(p.1,_)]) (by simp;omega)
     ·rw[zcx _ _ _ hnum,Option.map_none];have hncov:¬Cov (p::cn p.1 aa) 0:=fun hc=>hnum (zay _ 0 h3 (hc.perm h2.symm))
      obtain⟨k,hk1,hk2⟩:∃k:Nat,k<(p::cn p.1 aa).length/\∀x∈p::cn p.1 aa,x.2.1≠(0:Int)+k:=by
       apply Classical.byContradiction;intro hq;apply hncov;intro j hj;apply Classical.byContradiction;intro hq2;exact hq ⟨j,hj,fun x hx e=>hq2 ⟨x,hx,e⟩⟩
      have:=zu4 fu hfu l ab aa p hl hz b0 b1 T S ps (nv fu n) (p::cn p.1 aa).length k hk1 (fun x hx hc=>hk2 x ((hAm x).2 ⟨hx,hc.1⟩) (by rw[hc.2];omega)) (by omega) fu 0 [] (by omega) (by omega) (by simp)
      rw[show((0:Nat):Int)=0 from rfl]at this
      rw[this];rfl
   ·rw[au rfl,qX (c:=(true=true)) rfl,aw _]
    exact st ps (by omega)
def jv(s:List UInt8)(i:Nat):Bool:=bl (s.getD i 0) && !bl (s.getD (i-1) 0)
def cb(s:List UInt8):Nat->Nat->Nat->Nat|0,_,b=>b|m+1,i,b=>cb s m (i+1) (if jv s i && !(decide (0<b)&&decide (78<i)) then i else b)
def zap(s:List UInt8):∀m i b,0<b->78<i->cb s m i b=b
 |0,_,_,_,_=>rfl|m+1,i,b,h1,h2=>by
  rw[cb,decide_eq_true h1,decide_eq_true h2];simp only[Bool.and_self,Bool.not_true,Bool.and_false,wJ,if_false];exact zap s m (i+1) b h1 (by omega)
def qz8(s:List UInt8):∀m i b,cb s m i b=b\/(i<=cb s m i b/\cb s m i b<i+m/\jv s (cb s m i b)=true)
 |0,_,_ => .inl rfl|m+1,i,b=>by
  rw[cb];split
  ·rename_i h;simp only[qA]at h;rcases qz8 s m (i+1) i with e|⟨h1,h2,h3⟩
   ·rw[e];exact .inr ⟨wF _,by omega,h.1⟩
   ·exact .inr ⟨by omega,by omega,h3⟩
  ·rcases qz8 s m (i+1) b with e|⟨h1,h2,h3⟩
   ·exact .inl e
   ·exact .inr ⟨by omega,by omega,h3⟩
def qqr(s:List UInt8)(i:Nat)(h:i<s.length):s.getD i 0=s[i]:=by simp[List.getD_eq_getElem?_getD,h]
def ztf(fu n:Nat):∀(s:List UInt8)(m i b:Nat),i+m=s.length->1<=i->m<n->s.length<1000000000->qhm fu n s (b:Int) (i:Int)=some ((cb s m i b:Nat):Int):=by
 induction n with
 |zero=>intro s m i b _ _ h;omega|succ n ih=>
  intro s m i b hi h1 hm hb;rw[qhm,qv6]
  cases m with
  |zero=>rw[ap];rfl|succ m=>
   have hlt:i<s.length:=by omega
   have hlt':i-1<s.length:=by omega
   rw[ag (by omega),wv _ _ hlt,qB,qjo,qB,cb]
   unfold jv;rw[qqr _ _ hlt,qqr _ _ hlt'];unfold qnj;cases bl s[i]
   ·rw[cr,au,aw _]
    exact ih s m (i+1) b (by omega) (by omega) (by omega) hb
   ·rw[bn,show af ((i:Int)-1)=((i-1:Nat):Int) by rw[d7];omega,wv _ _ hlt',qB,qjo,qB]
    cases bl s[i-1]
    ·rw[ax (by rfl),aw _,bu,bu]
     by_cases q1:0<b
     ·rw[qX (by omega),decide_eq_true q1]
      by_cases q2:78<i
      ·rw[qX (by omega),decide_eq_true q2]
       simp only[Bool.and_self,Bool.not_true,Bool.and_false,wJ,if_false];rw[zap s m (i+1) b q1 (by omega)]
      ·rw[qW (by omega),decide_eq_false q2]
       exact ih s m (i+1) i (by omega) (by omega) (by omega) hb
     ·rw[qW (by omega),decide_eq_false q1]
      exact ih s m (i+1) i (by omega) (by omega) (by omega) hb
    ·rw[au,aw _]
     exact ih s m (i+1) b (by omega) (by omega) (by omega) hb
def ge(s:List UInt8)(k:Nat):Nat:=cb s (s.length-k) k 0
def zte(fu:Nat)(s:List UInt8)(k:Nat)(h:s.length<fu)(hb:s.length<1000000000)(hk:k<=s.length)(h0:1<=s.length):qni fu s (k:Int)=some ((ge s (max k 1):Nat):Int):=by
 unfold qni ge;have e:(if(1:Int)>(k:Int) then(1:Int) else(k:Int))=((max k 1:Nat):Int):=by
  split
  ·rename_i h;have:k=0:=by omega
   subst this;rfl
  ·rename_i h;rw[Nat.max_eq_left (by omega)]
 rw[e];exact ztf fu fu s (s.length-max k 1) (max k 1) 0 (by omega) (by omega) (by omega) hb
def f5:Nat->List UInt8->Nat->List (List UInt8)|0,s,_=>[s]|n+1,s,k=>if 78<s.length then(if ge s k=0 then[s] else s.take (ge s k)::f5 n (s.drop (ge s k)) 1) else[s]
def qz5(s:List UInt8)(k:Nat)(_h1:1<=k)(h:ge s k≠0):k<=ge s k/\ge s k<s.length/\jv s (ge s k)=true:=by
 unfold ge at *;rcases qz8 s (s.length-k) k 0 with e|⟨h2,h3,h4⟩
 ·exact absurd e h
 ·exact⟨h2,by omega,h4⟩
def si:Nat->List (List UInt8)->Option Nat|_,[]=>none|i,l::ls=>if 998<l.length then some i else si (i+1) ls
def w6(ls:List (List UInt8)):(Int×Int)×List (List UInt8):=match si 0 ls with|some i=>((1,(i:Int)),[])|none=>((0,0),ls)
def zns(fu n:Nat)(m16:Int×Int):∀(ab aa:List (List UInt8)),aa.length<n->ab.length+aa.length<1000000000 ->
  qhl fu n ((ab.length+aa.length:Nat):Int) (ab.length:Int) m16 (ab++aa)=some (match si ab.length aa with|some i=>((1,(i:Int)),[])|none=>((0,0),ab++aa)):=by
 induction n with
 |zero=>intro ab aa h;omega|succ n ih=>
  intro ab aa h hb;rw[qhl,qv4]
  cases aa with
  |nil=>rw[ap];rfl|cons c aa=>
   simp only[qL]at h hb ⊢;rw[ag (by omega),jo,bf,qB,bu,si]
   by_cases hc:998<c.length
   ·rw[qX (by omega),qX hc];rfl
   ·rw[qW (by omega),qW hc,aw _]
    have:=ih (ab++[c]) aa (by omega) (by simp;omega)
    simp only[qS,wM,qM,qL,qZ]at this;rw[show ab.length+(0+1)+aa.length=ab.length+(aa.length+1) by omega]at this
    exact this
def zb4(fu:Nat)(m16:Int×Int)(s:List UInt8)(out:List (List UInt8))(h:out.length+1<fu:=by omega)(hb:out.length<900000000:=by omega):qhk fu s m16 out=some (w6 (out++[s])):=by
 unfold qhk;rw[ag (by simp[a8];omega)]
 have:=zns fu fu m16 [] (out++[s]) (by simpa using h) (by simp;omega)
 simp only[List.nil_append,qZ,wO]at this;exact this
def zpn(fu n:Nat)(m16:Int×Int):∀(m:Nat)(s:List UInt8)(k k':Nat)(out:List (List UInt8)),s.length<=m->s.length<n->max k 1=k'->(78<s.length->k<=s.length)->s.length+out.length+1<fu->s.length+out.length<500000000 ->
  qhj fu n s (k:Int) m16 out=some (w6 (out++f5 m s k')):=by
 induction n with
 |zero=>intro m s k k' out _ h;omega|succ n ih=>
  intro m s k k' out hm h hk hk2 hf hb;rw[qhj,qv3,bu];by_cases hl:78<s.length
  ·obtain⟨m,rfl⟩:∃j,m=j+1:=⟨m-1,by omega⟩
   rw[qX (by omega),zte fu s k (by omega) (by omega) (hk2 hl) (by omega),hk,qB,gv,f5,qX hl]
   by_cases h0:ge s k'=0
   ·rw[qX (by omega),qX h0]
    exact zb4 fu m16 s out
   ·obtain⟨h1,h2,_⟩:=qz5 s k' (by omega) h0
    rw[qW (by omega),qW h0,ag (by omega),ag (by simp[a8];omega),ag (by omega)]
    have:=ih m (s.drop (ge s k')) 0 1 (out++[s.take (ge s k')]) (by rw[List.length_drop];omega) (by rw[List.length_drop];omega) rfl (by intro;omega) (by rw[List.length_drop,qM,wD];omega) (by rw[List.length_drop,qM,wD];omega)
    simpa using this
  ·rw[qW (by omega)]
   have e:f5 m s k'=[s]:=by cases m with|zero=>rfl|succ m=>rw[f5,qW hl]
   rw[e];exact zb4 fu m16 s out
def bq(n v:List UInt8):List UInt8:=n++[58,32]++v
def ee(n v:List UInt8):List (List UInt8):=f5 (bq n v).length (bq n v) (n.length+2)
def ne(n v:List UInt8):(Int×Int)×List (List UInt8):=if oc n v=0 then w6 (ee n v) else((oc n v,-1),[])
def qqn{s:List UInt8}(h:iv s=true):s.length<=60:=by
 unfold iv at h;simp only[qA,decide_eq_true_eq]at h;exact h.1.2
def q0z{n v:List UInt8}(h:oc n v=0):iv n=true/\v.length<=4000/\qao v=true:=by
 unfold oc at h;split at h
 ·rename_i h1;split at h
  ·exact absurd h (by decide)
  ·rename_i h2;split at h
   ·rename_i h3;exact⟨h1,by omega,h3⟩
   ·exact absurd h (by decide)
 ·exact absurd h (by decide)
def q09(fu:Nat)(n v:List UInt8)(hfu:10000<=fu:=by omega)(hv:v.length<fu:=by omega)(hvb:v.length<1000000000:=by omega):zb fu n v=some (ne n v):=by
 unfold zb ne;rw[zpk fu n,qB]
 by_cases h0:oc n v=0
 ·obtain⟨h1,h2,h3⟩:=q0z h0;have hn:=qqn h1;rw[qX h0,h1,bn,ap,zb9 fu v (by omega) hv hvb,qB,h3,bn,ag (by simp[ar];omega),ag (by simp[ar];omega)]
  have:=zpn fu fu (0,0) (bq n v).length (bq n v) (n.length+2) (n.length+2) [] (wF _) (by simp[bq]<;>omega) (by omega) (by intro;simp[bq]<;>omega) (by simp[bq]<;>omega) (by simp[bq]<;>omega)
  rw[show af ((n.length:Int)+2)=((n.length+2:Nat):Int) by rw[d7];omega]
  exact this
 ·rw[qW h0];unfold oc at h0 ⊢;cases hn:iv n
  ·rfl
  ·rw[hn]at h0;simp only[if_true]at h0 ⊢;rw[bn,bu];by_cases hl:4000<v.length
   ·rw[qX (by omega),qX hl];rfl
   ·rw[qW hl]at h0;rw[qW (by omega),qW hl,zb9 fu v (by omega) hv hvb,qB]
    cases hv3:qao v
    ·rfl
    ·rw[hv3]at h0;exact absurd rfl h0
def pts(s:List UInt8)(i m:Nat):List Nat:=(List.range' i m).filter (jv s)
def q20(s:List UInt8)(i m:Nat):pts s i (m+1)=(if jv s i then[i] else[])++pts s (i+1) m:=by
 unfold pts;rw[List.range'_succ,List.filter_cons];split<;>rfl
def ztn(s:List UInt8)(i m k:Nat):pts s i (m+k)=pts s i m++pts s (i+m) k:=by
 unfold pts;rw[← List.filter_append];congr 1;rw[List.range'_append_1]
def ztp(s:List UInt8)(i m:Nat):(pts s i m).length<=m:=by
 unfold pts;have:=List.length_filter_le (jv s) (List.range' i m);simpa using this
def ib(at_ b p:Nat):Nat:=if at_<p/\(p-at_<=78\/b=0) then p-at_ else b
def zqo(s:List UInt8)(a i:Nat)(h:a<i):jv (s.drop a) (i-a)=jv s i:=by
 unfold jv;simp only[List.getD_eq_getElem?_getD,List.getElem?_drop];rw[show a+(i-a)=i by omega,show a+(i-a-1)=i-1 by omega]
def q3f(s:List UInt8)(a:Nat):∀m i b,a<i->(pts s i m).foldl (ib a) b=cb (s.drop a) m (i-a) b
 |0,_,_,_=>rfl|m+1,i,b,h=>by
  rw[q20,List.foldl_append,cb,zqo s a i h,show i-a+1=i+1-a by omega,← q3f s a m (i+1) _ (by omega)]
  congr 1;cases jv s i
  ·rfl
  ·simp only[if_true,List.foldl_cons,List.foldl_nil,ib,Bool.true_and];by_cases q1:0<b
   ·by_cases q2:78<i-a
    ·rw[qW (by omega),qW (by simp[q1,q2])]
    ·rw[qX (by omega),qX (by simp;omega)]
   ·rw[qX (by omega),qX (by simp;omega)]
def zfl(s:List UInt8)(a:Nat):∀m i b,i+m<=a+1->(pts s i m).foldl (ib a) b=b
 |0,_,_,_=>rfl|m+1,i,b,h=>by
  rw[q20,List.foldl_append];have e:(if jv s i=true then[i] else[]).foldl (ib a) b=b:=by
   split
   ·simp only[List.foldl_cons,List.foldl_nil,ib];rw[qW (by omega)]
   ·rfl
  rw[e];exact zfl s a m (i+1) b (by omega)
def zvh(s:List UInt8)(a k0:Nat)(h1:1<=k0)(h:a=0\/k0<=a)(ha:a<s.length)(hk:k0<=s.length):(pts s k0 (s.length-k0)).foldl (ib a) 0=ge (s.drop a) (if a=0 then k0 else 1):=by
 unfold ge;by_cases h0:a=0
 ·subst h0;rw[qX rfl,q3f s 0 _ k0 0 (by omega)]
  simp
 ·rw[qW h0,show s.length-k0=(a+1-k0)+(s.length-a-1) by omega,ztn,List.foldl_append,zfl s a (a+1-k0) k0 0 (by omega),show k0+(a+1-k0)=a+1 by omega,q3f s a _ _ _ (by omega),List.length_drop]
  rw[show a+1-a=1 by omega]
def plc(a b:Nat):Int:=if b=0 then -1 else((a+b:Nat):Int)
def zqe(fu:Nat)(r2:List UInt8->Int->List Int->List (List UInt8)->Option (List (List UInt8)))(n:Nat):∀(s:List UInt8)(a b:Nat)(ab:List Int)(aa:List Nat)(out:List (List UInt8)),aa.length<n->ab.length+aa.length<1000000000->(∀p∈aa,p<s.length)->a<=s.length->s.length<1000000000->a+b<=s.length->out.length<1000000000 ->
  yi fu r2 n s (a:Int) (plc a b) (ab.length:Int) (ab++aa.map Nat.cast) out=(if aa.foldl (ib a) b=0 then some (out++[s.drop a]) else r2 s ((a+aa.foldl (ib a) b:Nat):Int) (ab++aa.map Nat.cast) (out++[(s.drop a).take (aa.foldl (ib a) b)])):=by
 induction n with
 |zero=>intro s a b ab aa out h;omega|succ n ih=>
  intro s a b ab aa out h hb hp ha hs hab ho;rw[yi,qtw]
  cases aa with
  |nil=>
   rw[ap,List.foldl_nil,bu]
   unfold plc;by_cases h0:b=0
   ·rw[qX h0,qX (by omega),qX h0,ag (by omega),ag (by simp[a8];omega)]
    simp
   ·rw[qW h0,qW (by omega),qW h0,ag (by omega),ag (by simp[a8];omega)]
    rw[show((a+b:Nat):Int).toNat-(a:Int).toNat=b by omega]
    simp
  |cons p aa=>
   simp only[qL]at h hb;have hp0:=hp p qH;rw[List.map_cons];have hl:((ab++(p:Int)::aa.map Nat.cast).length:Int)=((ab.length+aa.length+1:Nat):Int):=by simp;omega
   rw[hl,ag (by omega)]
   have hlt:(0<=(ab.length:Int)/\(ab.length:Int).toNat<(ab++(p:Int)::aa.map Nat.cast).length):=by simp
   rw[ag hlt,ii,qB,List.foldl_cons];have fin:∀b',a+b'<=s.length->yi fu r2 n s (a:Int) (plc a b') (af ((ab.length:Int)+1)) (ab++(p:Int)::aa.map Nat.cast) out=(if aa.foldl (ib a) b'=0 then some (out++[s.drop a]) else r2 s ((a+aa.foldl (ib a) b':Nat):Int) (ab++(p:Int)::aa.map Nat.cast) (out++[(s.drop a).take (aa.foldl (ib a) b')])):=by
    intro b' hb';have:=ih s a b' (ab++[(p:Int)]) aa out (by omega) (by simp;omega) (fun q hq=>hp q (qE _ hq)) ha hs hb' ho
    rw[aw _]
    simpa using this
   unfold qfu qme;rw[bu];by_cases q1:a<p
   ·have e1:af ((p:Int)-(a:Int))=((p-a:Nat):Int):=by rw[d7];omega
    have e2:(p:Int)=plc a (p-a):=by unfold plc;rw[qW (by omega)];omega
    rw[qX (by omega),e1,bu]
    by_cases q2:p-a<=78
    ·rw[qX (by omega),au,show ib a b p=p-a by unfold ib;rw[qX ⟨q1,.inl q2⟩],← fin (p-a) (by omega),← e2]
    ·rw[qW (by omega)]
     by_cases q3:b=0
     ·rw[au (by unfold plc;rw[qX q3];rfl),show ib a b p=p-a by unfold ib;rw[qX ⟨q1,.inr q3⟩],← fin (p-a) (by omega),← e2]
     ·rw[ax (by unfold plc;rw[qW q3];exact decide_eq_false (by omega)),show ib a b p=b by unfold ib;rw[qW (by omega)],fin b hab]
   ·rw[qW (by omega),ax (by rfl),show ib a b p=b by unfold ib;rw[qW (by omega)],fin b hab]
def zd2(fu n:Nat)(s:List UInt8)(k0:Nat)(hk1:1<=k0)(hk:k0<=s.length)(hs:s.length<500000000)(hfu:s.length<fu):∀(m a:Nat)(out:List (List UInt8)),s.length-a<=m->s.length-a<n->(a=0\/k0<=a)->a<s.length->out.length+(s.length-a)<500000000 ->
  tl fu n s (a:Int) ((pts s k0 (s.length-k0)).map Nat.cast) out=some (out++f5 m (s.drop a) (if a=0 then k0 else 1)):=by
 induction n with
 |zero=>intro m a out _ h;omega|succ n ih=>
  intro m a out hm h hz ha ho;rw[tl,qmb,show af ((s.length:Int)-(a:Int))=((s.length-a:Nat):Int) by rw[d7];omega,bu]
  have ac:(s.drop a).length=s.length-a:=List.length_drop;by_cases hl:78<s.length-a
  ·obtain⟨m,rfl⟩:∃j,m=j+1:=⟨m-1,by omega⟩
   have hpl:=ztp s k0 (s.length-k0);have hin:=zqe fu (tl fu n) fu s a 0 [] (pts s k0 (s.length-k0)) out (by omega) (by simp;omega) (fun p hp=>by
    unfold pts at hp;rw[List.mem_filter,List.mem_range'_1]at hp;omega) (by omega) (by omega) (by omega) (by omega)
   rw[zvh s a k0 hk1 hz ha hk]at hin;simp only[List.nil_append,qZ]at hin;rw[qX (by omega),f5,ac,qX hl]
   have hin:yi fu (tl fu n) fu s (a:Int) (-1) 0 ((pts s k0 (s.length-k0)).map Nat.cast) out=_:=hin;rw[hin];by_cases h0:ge (s.drop a) (if a=0 then k0 else 1)=0
   ·rw[qX h0,qX h0]
   ·obtain⟨h1,h2,_⟩:=qz5 (s.drop a) (if a=0 then k0 else 1) (by split<;>omega) h0
    rw[qW h0,qW h0];generalize hB:ge (s.drop a) (if a=0 then k0 else 1)=B at *
    have:=ih m (a+B) (out++[(s.drop a).take B]) (by omega) (by omega) (.inr (by
     split at h1
     ·omega
     ·rcases hz with hz|hz<;>omega)) (by omega) (by rw[qM,wD];split at h1<;>omega)
    rw[qW (by split at h1<;>omega)]at this
    rw[this];simp[List.drop_drop]
  ·rw[qW (by omega),ag (by omega),ag (by simp[a8];omega)]
   have e:f5 m (s.drop a) (if a=0 then k0 else 1)=[s.drop a]:=by cases m with|zero=>rfl|succ m=>rw[f5,ac,qW hl]
   rw[e];simp
def zto(fu n:Nat):∀(s:List UInt8)(m i:Nat)(acc:List Int),i+m=s.length->1<=i->m<n->s.length<1000000000->acc.length+m<1000000000 ->
  qbl fu n s (i:Int) acc=tl fu fu s 0 (acc++(pts s i m).map Nat.cast) []:=by
 induction n with
 |zero=>intro s m i acc _ _ h;omega|succ n ih=>
  intro s m i acc hi h1 hm hb ha;rw[qbl,qma]
  cases m with
  |zero=>rw[ap];simp[pts]|succ m=>
   have hlt:i<s.length:=by omega
   have hlt':i-1<s.length:=by omega
   rw[ag (by omega),wv _ _ hlt,qB,xg,qB,q20]
   unfold qmc qmd;rw[show jv s i=(bl s[i] && !bl s[i-1]) by unfold jv;rw[qqr _ _ hlt,qqr _ _ hlt']]
   cases bl s[i]
   ·rw[ax (by rfl),ax (by rfl),aw _]
    exact ih s m (i+1) acc (by omega) (by omega) (by omega) hb (by omega)
   ·rw[au,show af ((i:Int)-1)=((i-1:Nat):Int) by rw[d7];omega,wv _ _ hlt',qB,xg,qB]
    cases bl s[i-1]
    ·rw[cr,ag (by simp[a8];omega),aw _]
     have:=ih s m (i+1) (acc++[(i:Int)]) (by omega) (by omega) (by omega) hb (by simp;omega)
     simpa using this
    ·rw[bn,aw _]
     exact ih s m (i+1) acc (by omega) (by omega) (by omega) hb (by omega)
def znh(n v:List UInt8):ge (bq n v) (n.length+2)=ge (bq n v) (n.length+3):=by
 unfold ge
 cases v with
 |nil=>rw[show(bq n []).length=n.length+2 by simp[bq]];simp[cb]|cons c v=>
  have hl:(bq n (c::v)).length=n.length+3+v.length:=by simp[bq];omega
  rw[hl,show n.length+3+v.length-(n.length+2)=v.length+1 by omega,show n.length+3+v.length-(n.length+3)=v.length by omega,cb]
  have:jv (bq n (c::v)) (n.length+2)=false:=by
   unfold jv;have e:(bq n (c::v)).getD (n.length+2-1) 0=32:=by
    rw[show bq n (c::v)=(n++[58])++32::c::v by simp[bq],show n.length+2-1=(n++[58]).length by simp]
    simp[List.getD_eq_getElem?_getD]
   rw[e];cases bl ((bq n (c::v)).getD (n.length+2) 0)<;>rfl
  rw[this];rfl
def zpj(n v:List UInt8):f5 (bq n v).length (bq n v) (n.length+3)=ee n v:=by
 unfold ee
 cases h:(bq n v).length with|zero=>rfl|succ m=>rw[f5,f5,znh]
def zb3(fu:Nat)(n v:List UInt8)(h:n.length+v.length+3<fu:=by omega)(hb:n.length+v.length<400000000:=by omega):qft fu n v=some (ee n v):=by
 unfold qft;have hl:(bq n v).length=n.length+2+v.length:=by simp[bq];omega
 rw[ag (by simp[ar];omega),ag (by simp[ar];omega)]
 rw[show n++([58,32]:List UInt8)++v=bq n v from rfl,show af ((n.length:Int)+3)=((n.length+3:Nat):Int) by rw[d7];omega]
 cases v with
 |nil=>
  obtain⟨k,rfl⟩:∃k,fu=k+1:=⟨fu-1,by omega⟩
  simp only[qZ]at h hl;rw[qbl,qma,ap]
  -- too short for points
  by_cases hn:78<n.length+2
  ·have:=zd2 (k+1) (k+1) (bq n []) (n.length+2) (by omega) (by omega) (by omega) (by omega) (bq n []).length 0 [] (by omega) (by omega) (.inl rfl) (by omega) (by simp;omega)
   rw[show(bq n []).length-(n.length+2)=0 by omega]at this
   exact this
  ·rw[tl,qmb,show af (((bq n []).length:Int)-0)=((bq n []).length:Int) by rw[d7];omega,ap,ag (by omega),ag (by simp[a8])]
   unfold ee;rw[show f5 (bq n []).length (bq n []) (n.length+2)=[bq n []] by
    rw[hl,show n.length+2+0=n.length+1+1 by omega,f5,qW (by omega)]]
   rfl
 |cons c v=>
  simp only[qL]at h hb hl;have:=zto fu fu (bq n (c::v)) v.length (n.length+3) [] (by omega) (by omega) (by omega) (by omega) (by simp;omega)
  rw[this,List.nil_append,← zpj];have:=zd2 fu fu (bq n (c::v)) (n.length+3) (by omega) (by omega) (by omega) (by omega) (bq n (c::v)).length 0 [] (by omega) (by omega) (.inl rfl) (by omega) (by simp;omega)
  rw[show(bq n (c::v)).length-(n.length+3)=v.length by omega]at this
  exact this
def zt2(fu n:Nat)(m16:Int×Int):∀(ab aa:List (List UInt8)),aa.length<n->ab.length+aa.length<1000000000 ->
  qfs fu n (ab.length:Int) m16 (ab++aa)=some (match si ab.length aa with|some i=>(1,(i:Int))|none=>(0,0)):=by
 induction n with
 |zero=>intro ab aa h;omega|succ n ih=>
  intro ab aa h hb;rw[qfs,qtv]
  cases aa with
  |nil=>rw[ap];rfl|cons c aa=>
   simp only[qL]at h hb;rw[cd,ag (by omega),jo,bf,qB,bu,si]
   by_cases hc:998<c.length
   ·rw[qX (by omega),qX hc];rfl
   ·rw[qW (by omega),qW hc,aw _]
    have:=ih (ab++[c]) aa (by omega) (by simp;omega)
    simpa using this
def q08:∀(m:Nat)(s:List UInt8)(k:Nat),s.length<=m->1<=k->(f5 m s k).length<=s.length+1
 |0,s,_,_,_=>by simp[f5]|m+1,s,k,h,hk=>by
  rw[f5];split
  ·split
   ·simp
   ·rename_i h0;obtain⟨h1,h2,_⟩:=qz5 s k hk h0;have:=q08 m (s.drop (ge s k)) 1 (by rw[List.length_drop];omega) (by omega)
    rw[List.length_drop]at this;rw[qL];omega
  ·simp
def zrc(ls:List (List UInt8)):(w6 ls).1=(match si 0 ls with|some i=>(1,(i:Int))|none=>(0,0)):=by
 unfold w6;split<;>simp_all
def zpl(fu:Nat)(n v:List UInt8)(hfu:10000<=fu:=by omega)(hn:n.length<fu:=by omega)(hv:v.length<fu:=by omega)(hnb:n.length<1000000000:=by omega)(hvb:v.length<1000000000:=by omega):ql9 fu n v=some (ne n v).1:=by
 unfold ql9 ne;rw[zt3 fu n v (by omega) hn hv hnb hvb,qB,fh]
 by_cases h0:oc n v=0
 ·obtain⟨h1,h2,_⟩:=q0z h0;have hl:=qqn h1;rw[qW (by omega),qX h0,zb3 fu n v,qB,zrc]
  have:=q08 (bq n v).length (bq n v) (n.length+2) (wF _) (by omega)
  have hle:(bq n v).length=n.length+2+v.length:=by simp[bq];omega
  have:=zt2 fu fu (0,0) [] (ee n v) (by unfold ee;omega) (by unfold ee;simp;omega)
  exact this
 ·rw[qX h0,qW h0];rfl
def zci{α:Type}(ab:List α)(c d:α)(aa:List α):am (ab++c::d::aa) ((ab.length+1:Nat):Int)=some d:=by
 have:=bf (ab++[c]) d aa;simpa using this
def gy(c:UInt8)(r:List UInt8):Bool:=c==13&&r.head? == some 10
def qq0{c:UInt8}{r:List UInt8}(h:gy c r=true):c=13/\∃r',r=10::r':=by
 unfold gy at h;simp only[qA,beq_iff_eq]at h;refine⟨h.1,?_⟩
 cases r with|nil=>simp at h|cons d r=>simp at h;exact⟨r,by rw[h.2]⟩
def eo:List UInt8->List UInt8|[]=>[]|c::r=>if gy c r then 13::10::eo r.tail else if c=13\/c=10 then 13::10::eo r else c::eo r
termination_by l=>l.length
decreasing_by all_goals (simp only[qL,List.length_tail];omega)
def zeo(ab:List UInt8)(c:UInt8)(r:List UInt8)(hb:ab.length<100000000:=by omega):qbj (ab++c::r) (ab.length:Int)=some (gy c r):=by
 unfold qbj gy;rw[aw _]
 cases r with
 |nil=>rw[ap];cases c==13<;>rfl
 |cons d r=>
  rw[ag (by simp<;>omega),bf,qB]
  cases c==13
  ·rfl
  ·rw[au,zci,qB]
   cases h:d==10<;>simp_all
def bs(col:Nat):List UInt8->Int|[]=>0|c::r=>if gy c r then bs 0 r.tail else if c=13\/c=10 then 11 else if 998<=col then 1 else bs (col+1) r
termination_by l=>l.length
decreasing_by all_goals (simp only[qL,List.length_tail];omega)
def qpq(col:Nat):bs col []=0:=by rw[bs]
def qz6(col:Nat)(c:UInt8)(r:List UInt8):bs col (c::r)=if gy c r then bs 0 r.tail else if c=13\/c=10 then 11 else if 998<=col then 1 else bs (col+1) r:=by rw[bs]
def qdi(x:Int):Int×Int:=if x=11 then(11,-5) else if x=1 then(1,-6) else(0,0)
def zac(fu n:Nat):∀(ab aa:List UInt8)(col:Nat),aa.length<n->ab.length+aa.length<100000000->col<=2000 ->
  y9 fu n (ab++aa) (col:Int) (ab.length:Int)=some (bs col aa):=by
 induction n with
 |zero=>intro ab aa col h;omega|succ n ih=>
  intro ab aa col h hb hcol;rw[y9,qvv]
  cases aa with
  |nil=>rw[ap,qpq]|cons c r=>
   simp only[qL]at h hb;have fin:∀f,f=gy c r->qcg fu (y9 fu n) (ab++c::r) (col:Int) (ab.length:Int) c f=some (bs col (c::r)):=by
    intro f hf;unfold qcg;rw[qz6,hf];cases hc:gy c r
    ·rw[ax (by rfl),qW (by decide)]
     unfold qvw;rw[jz,jz];by_cases h13:c=13
     ·rw[qX h13,qX (.inl h13)]
     ·rw[qW h13];by_cases h10:c=10
      ·rw[qX h10,qX (.inr h10)]
      ·rw[qW h10,qW (by simp[h13,h10]),aw _,bu]
       by_cases hq:998<=col
       ·rw[qX (by omega),qX hq]
       ·rw[qW (by omega),qW hq,aw _]
        have:=ih (ab++[c]) r (col+1) (by omega) (by simp;omega) (by omega)
        simpa using this
    ·obtain⟨rfl,r',rfl⟩:=qq0 hc;simp only[qL]at h hb;rw[au,qX rfl,aw _,aw _,show ab.length+1+1=ab.length+2 from rfl]
     have:=ih (ab++[13,10]) r' 0 (by omega) (by simp;omega) (by omega)
     simpa using this
   rw[cd,ag (by omega),bf,qB,jz]
   by_cases h13:c=13
   ·subst h13;rw[qX rfl,aw _]
    cases r with
    |nil=>rw[ap];exact fin false rfl|cons d r=>
     rw[ag (by simp only[qL];omega),zci,qB]
     exact fin _ (by unfold gy;cases h:d==10<;>simp_all)
   ·rw[qW h13];exact fin false (by unfold gy;rw[beq_false_of_ne h13];rfl)
def znb(fu:Nat)(s:List UInt8)(h:s.length<fu:=by omega)(hb:s.length<100000000:=by omega):qny fu s=some (qdi (bs 0 s)):=by
 unfold qny qcf qdi;have:=zac fu fu [] s 0 h (by simpa using hb) (by omega)
 have this:y9 fu fu s 0 0=some (bs 0 s):=this;rw[this,qB,gv,gv];split
 ·rfl
 ·split<;>rfl
def zaf(n:Nat):∀(s:List UInt8)(col:Nat),s.length<=n->bs col s=0\/bs col s=1\/bs col s=11:=by
 induction n with
 |zero=>intro s col h;have:=List.length_eq_zero_iff.1 (Nat.le_zero.1 h);subst this;rw[qpq];exact .inl rfl|succ n ih=>
  intro s col h
  cases s with
  |nil=>rw[qpq];exact .inl rfl|cons c r=>
   simp only[qL]at h;rw[qz6];split
   ·exact ih _ _ (by rw[List.length_tail];omega)
   ·split
    ·exact .inr (.inr rfl)
    ·split
     ·exact .inr (.inl rfl)
     ·exact ih _ _ (by omega)
def zt0(fu n:Nat)(m16:Int×Int):∀(ab aa:List UInt8)(col b:Nat),aa.length<n->ab.length+aa.length<100000000->b+col=ab.length ->
  qgx fu n (ab++aa) (b:Int) (ab.length:Int) m16=some (qdi (bs col aa)):=by
 induction n with
 |zero=>intro ab aa col b h;omega|succ n ih=>
  intro ab aa col b h hb hcol;rw[qgx,qu7]
  cases aa with
  |nil=>rw[ap,qpq];rfl|cons c r=>
   simp only[qL]at h hb;rw[cd,ag (by omega),zeo ab c r,qB,qz6]
   cases hc:gy c r
   ·rw[ax (by rfl),qW (by decide),bf,qB,qB,jz]
    unfold qm0;by_cases h13:c=13
    ·rw[qX h13,qX (.inl h13)];rfl
    ·rw[qW h13,jz];by_cases h10:c=10
     ·rw[qX h10,qX (.inr h10)];rfl
     ·rw[qW h10,qW (by simp[h13,h10]),show af ((ab.length:Int)-(b:Int))=(col:Int) by rw[d7];omega,bu]
      by_cases hq:998<=col
      ·rw[qX (by omega),qX hq];rfl
      ·rw[qW (by omega),qW hq,aw _]
       have:=ih (ab++[c]) r (col+1) b (by omega) (by simp;omega) (by simp;omega)
       simpa using this
   ·obtain⟨rfl,r',rfl⟩:=qq0 hc;simp only[qL]at h hb;rw[au,qX rfl,aw _,aw _,show ab.length+1+1=ab.length+2 from rfl]
    have:=ih (ab++[13,10]) r' 0 (ab.length+2) (by omega) (by simp;omega) (by simp)
    simpa using this
def zem(fu:Nat)(s:List UInt8)(h:s.length<fu:=by omega)(hb:s.length<100000000:=by omega):qmz fu s=some (qdi (bs 0 s)):=by
 have:=zt0 fu fu (0,0) [] s 0 0 h (by simpa using hb) rfl
 exact this
abbrev aq:Type:=List UInt8×List UInt8
def mj(l:List aq):Prop:=l.length<=10000000/\∀x∈l,x.1.length<=10000000/\x.2.length<=10000000
def mj.tail{x:aq}{l:List aq}(h:mj (x::l)):mj l:=⟨by have:=h.1;simp only[qL]at this;omega,fun y hy=>h.2 y (qE _ hy)⟩
def ff:Nat->List aq->Int×Int|_,[]=>(0,0)|i,x::l=>if(ne x.1 x.2).1.1≠0 then((ne x.1 x.2).1.1,(i:Int)) else ff (i+1) l
def mz(l:List aq):Int×Int:=if 60<l.length then(2,-1) else ff 0 l
def zp6(fu n:Nat)(hfu:90000000<=fu)(m16:Int×Int):∀(ab aa:List aq),aa.length<n->ab.length+aa.length<100000000->mj aa ->
  qhq fu n (ab++aa) ((ab.length+aa.length:Nat):Int) (ab.length:Int) m16=some (ff ab.length aa):=by
 induction n with
 |zero=>intro ab aa h;omega|succ n ih=>
  intro ab aa h hb hs;rw[qhq,qv9]
  cases aa with
  |nil=>rw[ap];rfl|cons x aa=>
   simp only[qL]at h hb ⊢;obtain⟨q1,q2⟩:=hs.2 x qH;rw[ag (by omega),bf,qB,q09 fu x.1 x.2,qB,mw,qB,fh,ff]
   split
   ·rfl
   ·rw[aw _]
    have:=ih (ab++[x]) aa (by omega) (by simp;omega) hs.tail
    simp only[qS,wM,qM,qL,qZ]at this;rw[show ab.length+(0+1)+aa.length=ab.length+(aa.length+1) by omega]at this
    exact this
def zcg(fu:Nat)(hfu:90000000<=fu)(l:List aq)(hs:mj l):qhp fu l=some (mz l):=by
 unfold qhp mz;rw[bu];split
 ·rw[qX (by omega)];rfl
 ·rw[qW (by omega)]
  have:=zp6 fu fu hfu (0,0) [] l (by have:=hs.1;omega) (by have:=hs.1;simp;omega) hs
  simp only[List.nil_append,qZ,wO]at this;exact this
def zus(fu n:Nat)(hfu:90000000<=fu)(m16:Int×Int):∀(ab aa:List aq),aa.length<n->ab.length+aa.length<100000000->mj aa ->
  qfr fu n (ab++aa) (ab.length:Int) m16=some (ff ab.length aa):=by
 induction n with
 |zero=>intro ab aa h;omega|succ n ih=>
  intro ab aa h hb hs;rw[qfr,qtu]
  cases aa with
  |nil=>rw[ap];rfl|cons x aa=>
   simp only[qL]at h hb ⊢;obtain⟨q1,q2⟩:=hs.2 x qH;rw[um,qL,ag (by omega),bf,qB,qB,zpl fu x.1 x.2,qB,fh,ff]
   split
   ·rfl
   ·rw[aw _]
    have:=ih (ab++[x]) aa (by omega) (by simp;omega) hs.tail
    simpa using this
def zfd(fu:Nat)(hfu:90000000<=fu)(l:List aq)(hs:mj l):qfq fu l=some (mz l):=by
 unfold qfq mz;rw[bu];split
 ·rw[qX (by omega)];rfl
 ·rw[qW (by omega)]
  have:=zus fu fu hfu (0,0) [] l (by have:=hs.1;omega) (by have:=hs.1;simp;omega) hs
  exact this
def ni(x:aq):Prop:=oc x.1 x.2=0/\si 0 (ee x.1 x.2)=none
def zdu{x:aq}(h:ni x):ne x.1 x.2=((0,0),ee x.1 x.2):=by
 unfold ne w6;rw[qX h.1,h.2]
def zpo{x:aq}(h:(ne x.1 x.2).1.1=0:=by omega):ni x:=by
 unfold ne w6 at h;by_cases h0:oc x.1 x.2=0
 ·refine⟨h0,?_⟩;rw[qX h0]at h;split at h
  ·exact absurd h (by simp)
  ·rename_i h1;exact h1
 ·rw[qW h0]at h;exact absurd h h0
def zbm:∀(i:Nat)(l:List aq),(ff i l).1=0->∀x∈l,ni x
 |_,[],_,_,h=>by cases h
 |i,y::l,h,x,hx=>by
  rw[ff]at h;split at h
  ·rename_i h1;exact absurd h h1
  ·rename_i h1;rcases List.mem_cons.1 hx with rfl|hx
   ·exact zpo
   ·exact zbm (i+1) l h x hx
def zdw:∀(i:Nat)(l:List aq),(∀x∈l,ni x)->ff i l=(0,0)
 |_,[],_=>rfl|i,y::l,h=>by
  rw[ff,zdu (h y qH),qW (by simp)]
  exact zdw (i+1) l fun x hx=>h x (qE _ hx)
def q00{l:List aq}(h:(mz l).1=0):mz l=(0,0)/\l.length<=60/\∀x∈l,ni x:=by
 unfold mz at h ⊢;split at h
 ·exact absurd h (by decide)
 ·rename_i hl;have:=zbm 0 l h;rw[qW hl];exact⟨zdw 0 l this,by omega,this⟩
def gz(ls:List (List UInt8)):List UInt8:=ls.flatMap fun s=>s++[13,10]
def qak(l:List aq):List UInt8:=l.flatMap fun x=>gz (ee x.1 x.2)
def hbytes(l:List aq):List UInt8:=qak l++[13,10]
def zb1:∀(m:Nat)(s:List UInt8)(k:Nat),(f5 m s k).flatten=s
 |0,s,_=>by simp[f5]|m+1,s,k=>by
  rw[f5];split
  ·split
   ·simp
   ·rw[List.flatten_cons,zb1 m,List.take_append_drop]
  ·simp
def zcv:∀ls:List (List UInt8),(gz ls).length=ls.flatten.length+2*ls.length
 |[]=>rfl|s::ls=>by
  have:=zcv ls;unfold gz at this ⊢;rw[List.flatMap_cons,List.flatten_cons,qM,qM,this];simp only[qM,qL,qZ];omega
def qri{x:aq}(h:ni x):x.1.length<=60/\x.2.length<=4000/\(ee x.1 x.2).length<=5000/\(gz (ee x.1 x.2)).length<=20000:=by
 obtain⟨h1,h2,_⟩:=q0z h.1;have hl:=qqn h1;have hle:(bq x.1 x.2).length=x.1.length+2+x.2.length:=by simp[bq];omega
 have h3:=q08 (bq x.1 x.2).length (bq x.1 x.2) (x.1.length+2) (wF _) (by omega)
 have h4:(ee x.1 x.2).flatten.length=(bq x.1 x.2).length:=by unfold ee;rw[zb1]
 have h5:(ee x.1 x.2).length<=5000:=by unfold ee;omega
 exact⟨hl,h2,h5,by rw[zcv];omega⟩
def zbl:∀l:List aq,(∀x∈l,ni x)->(qak l).length<=20000*l.length
 |[],_=>wF _|x::l,h=>by
  have:=zbl l fun y hy=>h y (qE _ hy)
  obtain⟨_,_,_,h4⟩:=qri (h x qH);unfold qak at this ⊢;rw[List.flatMap_cons,qM,qL];omega
def zx8(fu:Nat)(r0:List aq->Int->Int->(List aq×List UInt8)->List UInt8->Option (List UInt8))(s11:List aq)(s12 s13:Int)(m16:List aq×List UInt8)(n:Nat):∀(ab aa:List (List UInt8))(out:List UInt8),aa.length<n->ab.length+aa.length<100000000->out.length+(gz aa).length<1000000000 ->
  qct fu r0 n s11 s12 s13 ((ab.length+aa.length:Nat):Int) (ab.length:Int) m16 (ab++aa) out=r0 s11 s12 (af (s13+1)) m16 (out++gz aa):=by
 induction n with
 |zero=>intro ab aa out h;omega|succ n ih=>
  intro ab aa out h hb ho;rw[qct,qwv]
  cases aa with
  |nil=>rw[ap];simp[gz]|cons x aa=>
   have hc:gz (x::aa)=x++[13,10]++gz aa:=by simp[gz]
   rw[hc]at ho ⊢;simp only[qL,qM,qZ]at h hb ho;rw[show(x::aa).length=aa.length+1 from rfl,ag (by omega),jo,bf,qB,ag (by simp[a8];omega),ag (by simp[a8];omega),aw _]
   have:=ih (ab++[x]) aa (out++x++[13,10]) (by omega) (by simp;omega) (by simp;omega)
   simp only[qS,wM,qM,qL,qZ]at this;rw[show ab.length+(0+1)+aa.length=ab.length+(aa.length+1) by omega]at this
   simpa using this
def zyd(fu n:Nat)(hfu:90000000<=fu)(m16:List aq×List UInt8)(hm:m16.2.length<=100000000):∀(ab aa:List aq)(out:List UInt8),aa.length<n->ab.length+aa.length<1000->(∀x∈aa,ni x)->out.length<=20000*ab.length ->
  zi fu n (ab++aa) ((ab.length+aa.length:Nat):Int) (ab.length:Int) m16 out=some (out++hbytes aa++m16.2):=by
 induction n with
 |zero=>intro ab aa out h;omega|succ n ih=>
  intro ab aa out h hb hok ho;rw[zi,qwu]
  cases aa with
  |nil=>
   rw[ap,ag (by simp[a8];omega),ag (by simp[a8];omega)];simp[hbytes,qak]
  |cons x aa=>
   have hx:=hok x qH;obtain⟨l1,l2,l3,l4⟩:=qri hx;have hc:hbytes (x::aa)=gz (ee x.1 x.2)++hbytes aa:=by simp[hbytes,qak]
   rw[hc];simp only[qL]at h hb ⊢;rw[ag (by omega),bf,qB,q09 fu x.1 x.2,qB,zdu hx]
   have:=zx8 fu (zi fu n) (ab++x::aa) ((ab.length+(aa.length+1):Nat):Int) (ab.length:Int) m16 fu [] (ee x.1 x.2) out (by omega) (by simp;omega) (by omega)
   simp only[List.nil_append,qZ,wO]at this;have this:qct fu (zi fu n) fu (ab++x::aa) ((ab.length+(aa.length+1):Nat):Int) (ab.length:Int) ((ee x.1 x.2).length:Int) 0 m16 (ee x.1 x.2) out=_:=this;rw[this,aw _]
   have:=ih (ab++[x]) aa (out++gz (ee x.1 x.2)) (by omega) (by simp;omega) (fun y hy=>hok y (qE _ hy)) (by simp;omega)
   simp only[qS,wM,qM,qL,qZ]at this;rw[show ab.length+(0+1)+aa.length=ab.length+(aa.length+1) by omega]at this
   simpa using this
def zyc(fu:Nat)(hfu:90000000<=fu)(l:List aq)(b:List UInt8)(hl:l.length<=60)(hok:∀x∈l,ni x)(hb:b.length<=100000000:=by omega):qwt fu (l,b)=some (hbytes l++b):=by
 have:=zyd fu fu hfu (l,b) hb [] l [] (by omega) (by simp;omega) hok (by simp)
 simp only[List.nil_append,qZ,wO]at this;exact this
def zp1(fu:Nat)(r0:List aq->List UInt8->Int->Option (List UInt8))(s0:List aq)(s4:Int)(n:Nat):∀(ab aa:List (List UInt8))(out:List UInt8),aa.length<n->ab.length+aa.length<100000000->out.length+(gz aa).length<1000000000 ->
  qbm fu r0 n s0 out s4 (ab.length:Int) (ab++aa)=r0 s0 (out++gz aa) (af (s4+1)):=by
 induction n with
 |zero=>intro ab aa out h;omega|succ n ih=>
  intro ab aa out h hb ho;rw[qbm,qtz]
  cases aa with
  |nil=>rw[ap];simp[gz]|cons x aa=>
   have hc:gz (x::aa)=x++[13,10]++gz aa:=by simp[gz]
   rw[hc]at ho ⊢;simp only[qL,qM,qZ]at h hb ho;rw[cd,ag (by omega),jo,bf,qB,ag (by simp[ar];omega),ag (by simp[ar];omega),aw _]
   have:=ih (ab++[x]) aa (out++x++[13,10]) (by omega) (by simp;omega) (by simp;omega)
   simpa using this
def zpw(fu n:Nat)(hfu:90000000<=fu):∀(ab aa:List aq)(out:List UInt8),aa.length<n->ab.length+aa.length<1000->(∀x∈aa,ni x)->out.length<=20000*ab.length ->
  yj fu n (ab++aa) out (ab.length:Int)=some (out++hbytes aa):=by
 induction n with
 |zero=>intro ab aa out h;omega|succ n ih=>
  intro ab aa out h hb hok ho;rw[yj,qty]
  cases aa with
  |nil=>
   rw[ap,ag (by simp[ar];omega),ag (by simp[maxLen];omega)];simp[hbytes,qak]
  |cons x aa=>
   have hx:=hok x qH;obtain⟨l1,l2,l3,l4⟩:=qri hx;have hc:hbytes (x::aa)=gz (ee x.1 x.2)++hbytes aa:=by simp[hbytes,qak]
   rw[hc];simp only[qL]at h hb ⊢;rw[um,qL,ag (by omega),bf,qB,qB,zb3 fu x.1 x.2,qB]
   have:=zp1 fu (yj fu n) (ab++x::aa) (ab.length:Int) fu [] (ee x.1 x.2) out (by omega) (by simp;omega) (by omega)
   have this:qbm fu (yj fu n) fu (ab++x::aa) out (ab.length:Int) 0 (ee x.1 x.2)=_:=this;rw[this,aw _]
   have:=ih (ab++[x]) aa (out++gz (ee x.1 x.2)) (by omega) (by simp;omega) (fun y hy=>hok y (qE _ hy)) (by simp;omega)
   simpa using this
def zpv(fu:Nat)(hfu:90000000<=fu)(l:List aq)(hl:l.length<=60)(hok:∀x∈l,ni x):qtx fu l=some (hbytes l):=by
 have:=zpw fu fu hfu [] l [] (by omega) (by simp;omega) hok (by simp)
 exact this
def zpx{l:List aq}(hl:l.length<=60)(hok:∀x∈l,ni x):(hbytes l).length<=2000000:=by
 have:=zbl l hok;unfold hbytes;rw[qM];simp only[qL,qZ];omega
def ol(m:List aq×List UInt8):Int×Int:=if(mz m.1).1≠0 then mz m.1 else if 12000<(hbytes m.1).length+m.2.length then(1,-4) else qdi (bs 0 m.2)
def wd(m:List aq×List UInt8):Prop:=mj m.1/\m.2.length<=80000000
def zxv(fu:Nat)(hfu:90000000<=fu)(m:List aq×List UInt8)(hs:wd m):qif fu m=some (ol m):=by
 obtain⟨l,b⟩:=m;obtain⟨h1,h2⟩:=hs;simp only at h1 h2;unfold qif ol;rw[zcg fu hfu l h1,qB,mw,qB,fh];simp only;split
 ·rfl
 ·rename_i h0;obtain⟨_,k1,k2⟩:=q00 (l:=l) (by omega)
  rw[zyc fu hfu l b k1 k2,qB,bu,qM]
  split
  ·rw[qX (by omega)];rfl
  ·rw[qW (by omega),znb fu b];rfl
def zo9(fu:Nat)(hfu:90000000<=fu)(m:List aq×List UInt8)(hs:wd m):qm3 fu m=some (ol m):=by
 obtain⟨l,b⟩:=m;obtain⟨h1,h2⟩:=hs;simp only at h1 h2;unfold qm3 ol;rw[zfd fu hfu l h1,qB,fh];simp only;split
 ·rfl
 ·rename_i h0;obtain⟨_,k1,k2⟩:=q00 (l:=l) (by omega)
  have hl:=zpx k1 k2;rw[bu];split
  ·rw[qX (by omega)];rfl
  ·rw[zpv fu hfu l k1 k2,qB,d7,bu]
   split
   ·rw[qX (by omega)];rfl
   ·rw[qW (by omega),zem fu b];rfl
def zrs{m:List aq×List UInt8}(h:(ol m).1=0):ol m=(0,0)/\m.1.length<=60/\(∀x∈m.1,ni x)/\(hbytes m.1).length+m.2.length<=12000/\bs 0 m.2=0:=by
 unfold ol at h ⊢;split at h
 ·rename_i h1;exact absurd h h1
 ·rename_i h1;obtain⟨_,k1,k2⟩:=q00 (l:=m.1) (by omega)
  split at h
  ·exact absurd h (by decide)
  ·rename_i h2;have h3:bs 0 m.2=0:=by
    rcases zaf m.2.length m.2 0 (wF _) with e|e|e
    ·exact e
    ·rw[e]at h;exact absurd h (by decide)
    ·rw[e]at h;exact absurd h (by decide)
   rw[qW h1,qW h2,h3];exact⟨rfl,k1,k2,by omega,rfl⟩
def pm(t:List UInt8):List UInt8:=if t.getLast? = some 13 then t.dropLast else t
def znt(t:List UInt8):(pm t).length<=t.length:=by unfold pm;split<;>simp
def ln(r:List UInt8):List UInt8×Nat:=if(10:UInt8)∈r then(pm (r.takeWhile (· != 10)),(r.takeWhile (· != 10)).length+1) else(r,r.length)
def zgp(k:UInt8)(t r:List UInt8)(h:∀x∈t,x≠k):(t++k::r).takeWhile (· != k)=t:=by
 induction t with
 |nil=>simp|cons c t ih=>
  rw[wK,List.takeWhile_cons,show(c != k)=true by simpa using h c qH,qX rfl,ih fun x hx=>h x (qE _ hx)]
def zow(k:UInt8)(t r:List UInt8)(h:∀x∈t,x≠k):(t++k::r).dropWhile (· != k)=k::r:=by
 induction t with
 |nil=>simp|cons c t ih=>
  rw[wK,List.dropWhile_cons,show(c != k)=true by simpa using h c qH,qX rfl,ih fun x hx=>h x (qE _ hx)]
def qq5(t r:List UInt8)(h:∀x∈t,x≠10):ln (t++10::r)=(pm t,t.length+1):=by
 unfold ln;rw[qX (by simp),zgp 10 t r h]
def qq6(r:List UInt8)(h:∀x∈r,x≠10):ln r=(r,r.length):=by
 unfold ln;rw[qW (fun hm=>h 10 hm rfl)]
def q1t(r:List UInt8):(ln r).2<=r.length/\(ln r).1.length<=(ln r).2:=by
 rcases mb 10 r with⟨t,q,rfl,h⟩|h
 ·rw[qq5 t q h];have:=znt t;simp only[qM,qL];omega
 ·rw[qq6 r h];exact⟨wF _,wF _⟩
def q1u(r:List UInt8)(h0:r≠[]):1<=(ln r).2:=by
 rcases mb 10 r with⟨t,q,rfl,h⟩|h
 ·rw[qq5 t q h];simp
 ·rw[qq6 r h];cases r with|nil=>exact absurd rfl h0|cons c r=>simp
def zxe(t:List UInt8)(hb:t.length<1000000000:=by omega):qnf t [13]=some (pm t):=by
 unfold qnf qv2 qv1 pm;rcases List.eq_nil_or_concat t with rfl|⟨u,c,rfl⟩
 ·rfl
 ·rw[List.concat_eq_append]at *;simp only[qM,qL,qZ]at hb;rw[ji,show(([13]:List UInt8).length:Int)=1 from rfl,jp _,ag (by omega),ag (by omega),qB,qB]
  have e:List.drop ((u.length:Nat):Int).toNat (u++[c])=[c]:=r7 u [c];rw[e,List.getLast?_concat,List.dropLast_concat,qeu];by_cases h:c=13
  ·subst h;rw[au,ag (by omega),qX rfl]
  ·rw[ax (by simpa using h),qW (by simpa using h)]
def zra(r:List UInt8)(hb:r.length<1000000000:=by omega):qno r=some ((ln r).1,((ln r).2:Int)):=by
 unfold qno;rcases mb 10 r with⟨t,q,rfl,h⟩|h
 ·rw[show qne (t++10::q) 10=some (Lib.indexByte (t++10::q) 10) from rfl,wt 10 t q h,qB,qq5 t q h]
  simp only[qM,qL]at hb;rw[ap,ag (by rw[cd];omega),ag (by decide),qm,zxe t,qB,aw _]
 ·rw[show qne r 10=some (Lib.indexByte r 10) from rfl,wu 10 r h,qB,qq6 r h]
  rfl
def lu(s:List UInt8):Option aq:=if(58:UInt8)∈s/\iv (et (s.takeWhile (· != 58)))=true then some (et (s.takeWhile (· != 58)),(s.dropWhile (· != 58)).tail) else none
def q06(t r:List UInt8)(h:∀x∈t,x≠58):lu (t++58::r)=if iv (et t)=true then some (et t,r) else none:=by
 unfold lu;rw[zgp 58 t r h,zow 58 t r h];simp
def q07(s:List UInt8)(h:∀x∈s,x≠58):lu s=none:=by
 unfold lu;rw[qW (fun hm=>h 58 hm.1 rfl)]
def zn7(t r:List UInt8)(h:∀x∈t,x≠58)(hb:t.length+r.length<100000000:=by omega):tx (t++58::r) [58]=some (t,r,true):=by
 unfold tx qhr qck;rw[ax (by rfl)]
 unfold qcl;have hl:=cd t 58 r;by_cases he:([58]:List UInt8)=t++58::r
 ·have ht:t=[]:=by
   cases t with|nil=>rfl|cons c t=>injection he with h1 h2;exact absurd h1.symm (h c qH)
  subst ht;have hr:r=[]:=by injection he with _ h2;exact h2.symm
  subst hr;rfl
 ·rw[ax (by simpa using he),au,show am [(58:UInt8)] (0:Int)=some 58 from rfl,qB,show qht (t++58::r) 58=some (Lib.indexByte (t++58::r) 58) from rfl,wt 58 t r h,qB,qB]
  rw[ag (by omega),ag (by omega),show(([58]:List UInt8).length:Int)=1 from rfl,aw _,ag (by omega),qm,qdz]
  rfl
def zn8(s:List UInt8)(h:∀x∈s,x≠58):tx s [58]=some (s,[],false):=by
 unfold tx qhr qck;rw[ax (by rfl)]
 unfold qcl;by_cases he:([58]:List UInt8)=s
 ·subst he;exact absurd rfl (h 58 (by simp))
 ·rw[ax (by simpa using he),au,show am [(58:UInt8)] (0:Int)=some 58 from rfl,qB,show qht s 58=some (Lib.indexByte s 58) from rfl,wu 58 s h,qB]
  rfl
def zpm(n:List UInt8):((ne n []).1.1=0)↔iv n=true:=by
 unfold ne oc;cases h:iv n
 ·simp
 ·have hl:=qqn h;have e:ee n []=[bq n []]:=by
   unfold ee;have h2:(bq n []).length=n.length+2:=by simp[bq]
   rw[h2,f5,qW (by omega)]
  rw[e];unfold w6 si;have h2:(bq n []).length=n.length+2:=by simp[bq]
  rw[qW (show ¬998<(bq n []).length by omega)]
  simp[si,qao,wn]
def zp2(fu:Nat)(hfu:10000<=fu)(n:List UInt8):qnp fu n=some (iv n):=by
 unfold qnp;rw[q09 fu n [] hfu (by simp;omega) (by simp),qB,mw,qB]
 congr 1;have:=zpm n;cases h:iv n
 ·rw[h]at this;have:(ne n []).1.1≠0:=fun e=>by simpa using this.1 e
  simp[this]
 ·rw[this.2 h];rfl
def zm3(fu:Nat)(hfu:10000<=fu)(s:List UInt8)(h:s.length<fu:=by omega)(hb:s.length<100000000:=by omega) :
  ∃x ok,qnn fu s=some (x,ok)/\lu s=if ok then some x else none:=by
 unfold qnn;rcases mb 58 s with⟨t,q,rfl,hn⟩|hn
 ·simp only[qM,qL]at h hb;rw[zn7 t q hn,qB]
  simp only;rw[q30 fu t,qB,au,zp2 fu hfu,qB,q06 t q hn]
  exact⟨_,_,rfl,rfl⟩
 ·rw[zn8 s hn,qB];simp only;rw[q30 fu s (by omega) h,qB,ax (by rfl),q07 s hn]
  exact⟨_,_,rfl,rfl⟩
def c8(c:UInt8):UInt8:=if c=0\/c=13 then 32 else c
def l8:List UInt8:=(List.range 256).map fun i=>c8 (UInt8.ofNat i)
def zww:∀n:_root_.Fin 256,l8[(UInt8.ofNat n.val).toNat]? = some (c8 (UInt8.ofNat n.val)):=by decide +kernel
def qsa(c:UInt8):l8[c.toNat]? = some (c8 c):=pl (fun c=>l8[c.toNat]? = some (c8 c)) zww c
def zr1:qiu [[0],[32],[13],[32]]=some (0,0,0,[[0],[32],[13],[32]]):=by rfl
def znk(n:Nat):qop (n+300) 0 1 0 [[0],[32],[13],[32]]=some (0,1,0,l8,[]):=by kernel_rfl
def zug(fu n:Nat):∀(ab aa:List UInt8),aa.length<n->ab.length+aa.length<1000000000->0<ab.length+aa.length ->
  qi0 fu n (ab++aa) (ab.length:Int) l8 (ab.map c8++aa)=some ((ab++aa).map c8,l8):=by
 induction n with
 |zero=>intro ab aa h;omega|succ n ih=>
  intro ab aa h hb h0;rw[qi0,qya]
  cases aa with
  |nil=>rw[ap,ag (by simpa using h0)];simp|cons c aa=>
   simp only[qL]at h hb;rw[cd,ag (by omega),bf,qB,qsa,qB,wj]
   have next:=ih (ab++[c]) aa (by omega) (by simp;omega) (by simp;omega)
   by_cases hc:c8 c≠c
   ·rw[qX hc,ag (by simp<;>omega)]
    unfold qiz;have g:=ii (ab.map c8) c aa;have s:=qk (ab.map c8) c (c8 c) aa;rw[wC]at g s;have hg:(0<=(ab.length:Int)/\(ab.length:Int).toNat<(ab.map c8++c::aa).length):=by simp
    rw[qsa,qB,ag hg,g,qB,s,aw _]
    simpa using next
   ·rw[qW hc,aw _]
    have hc:c8 c=c:=Decidable.not_not.1 hc;simp only[List.map_append,List.map_cons,List.map_nil,hc,qS,wM,qM,qL,qZ]at next
    simpa [hc] using next
def zuf(fu n:Nat):∀(ab aa:List UInt8),aa.length<n->ab.length+aa.length<fu->ab.length+aa.length<1000000000->(∀x∈ab,c8 x=x) ->
  qiy fu n (ab++aa) (ab.length:Int) l8=some ((ab++aa).map c8,l8):=by
 induction n with
 |zero=>intro ab aa h;omega|succ n ih=>
  intro ab aa h hf hb hp;have hpm:ab.map c8=ab:=by
   have:ab.map c8=ab.map id:=List.map_congr_left fun x hx=>hp x hx
   rw[this,List.map_id]
  rw[qiy,qx9]
  cases aa with
  |nil=>rw[ap];simp[hpm]|cons c aa=>
   simp only[qL]at h hf hb;rw[cd,ag (by omega),bf,qB,qsa,qB,wj]
   by_cases hc:c8 c≠c
   ·rw[qX hc,ag (by simp[maxLen];omega)]
    unfold qiz;have hg:(0<=(ab.length:Int)/\(ab.length:Int).toNat<(ab++c::aa).length):=by simp
    rw[qsa,qB,ag hg,ii,qB,qk,aw _]
    have:=zug fu fu (ab++[c]) aa (by omega) (by simp;omega) (by simp;omega)
    simpa [hpm] using this
   ·rw[qW hc,aw _]
    have hc:c8 c=c:=Decidable.not_not.1 hc;have:=ih (ab++[c]) aa (by omega) (by simp;omega) (by simp;omega) (fun x hx=>by
     rcases List.mem_append.1 hx with hx|hx
     ·exact hp x hx
     ·rw[List.mem_singleton.1 hx,hc])
    simpa using this
def ze1(fu:Nat)(s:List UInt8)(h:s.length<fu)(hb:s.length<1000000000):qix fu s l8=some (s.map c8,l8):=by
 have:=zuf fu fu [] s h (by simpa using h) (by simpa using hb) (fun x hx=>by cases hx)
 exact this
def zpf(fu:Nat)(hfu:300<=fu)(s:List UInt8)(h:s.length<fu)(hb:s.length<1000000000):zo fu s 0 0 0 [[0],[32],[13],[32]]=some (s.map c8,1,0,0,l8):=by
 obtain⟨n,rfl⟩:∃n,fu=n+300:=⟨fu-300,by omega⟩
 unfold zo;rw[au,znk,qB,au,ze1 _ s h hb];rfl
def zq3(fu:Nat)(s:List UInt8)(h:s.length<fu)(hb:s.length<1000000000):zp fu s 1 0 0 l8=some (s.map c8,1,0,0,l8):=by
 unfold zp;rw[au,ze1 _ s h hb];rfl
def lm(v:List UInt8):List UInt8:=fp (v.map c8)
def qpu(x:aq):aq:=(x.1,lm x.2)
def za1(v:List UInt8):(lm v).length<=v.length:=by unfold lm;have:=zxg (v.map c8);simpa using this
def u5:Nat->List aq->Option Nat|_,[]=>none|i,x::l=>if 4000<(lm x.2).length then some i else u5 (i+1) l
def nd(a:Nat)(ab aa:List aq):Int×(Int×Int)×List aq:=match u5 ab.length aa with|some i=>(0,(1,(i:Int)),[])|none=>((a:Int),(0,0),ab++aa.map qpu)
def jt(a:Nat)(out:List aq):Int×(Int×Int)×List aq:=if 60<out.length then(0,(2,-2),[]) else nd a [] out
def rl(out:List aq)(s:List UInt8):List aq:=match out.getLast? with|some x=>out.dropLast++[(x.1,x.2++s)]|none=>out
def qzp(out:List aq)(x:aq)(s:List UInt8):rl (out++[x]) s=out++[(x.1,x.2++s)]:=by
 unfold rl;rw[List.getLast?_concat,List.dropLast_concat]
def hd:Nat->List UInt8->Nat->List aq->Nat×List aq
 |0,_,a,out=>(a,out)|n+1,r,a,out=>
  if r=[] then(a,out) else
  if(ln r).1=[] then(a+(ln r).2,out) else
  if bl ((ln r).1.headD 0)=true/\out≠[] then hd n (r.drop (ln r).2) (a+(ln r).2) (rl out (ln r).1) else
  match lu (ln r).1 with|none=>(a,out)|some x=>hd n (r.drop (ln r).2) (a+(ln r).2) (out++[x])
def dm(b:List UInt8):Int×(Int×Int)×List aq:=if 12000<b.length then(0,(1,-1),[]) else jt (hd b.length b 0 []).1 (hd b.length b 0 []).2
def jr(a:Nat)(l:List aq):Prop:=l.length<=a/\∀x∈l,x.1.length<=a/\x.2.length<=a
def zsk(fu n:Nat)(hfu:300<=fu)(s6:Nat)(m16:Int×Int):∀(ab aa:List aq),aa.length<n->ab.length+aa.length<100000000->(∀x∈aa,x.2.length<fu/\x.2.length<100000000) ->
  qho fu n (s6:Int) ((ab.length+aa.length:Nat):Int) (ab.length:Int) m16 (ab++aa) 1 0 0 l8=some (nd s6 ab aa):=by
 induction n with
 |zero=>intro ab aa h;omega|succ n ih=>
  intro ab aa h hb hs;rw[qho,qv8]
  cases aa with
  |nil=>rw[ap];simp[gq,nd,u5]|cons x aa=>
   simp only[qL]at h hb;obtain⟨q1,q2⟩:=hs x qH;have hg:(0<=(ab.length:Int)/\(ab.length:Int).toNat<(ab++x::aa).length):=by simp
   rw[show(x::aa).length=aa.length+1 from rfl,ag (by omega),ag hg,ii,qB,zq3 fu x.2 q1 (by omega),qB]
   simp only;rw[zf1 fu (x.2.map c8) (by omega) (by simpa using q1) (by simp;omega),qB,bu,nd,u5]
   by_cases hc:4000<(lm x.2).length
   ·have hc':(4000:Int)<((fp (x.2.map c8)).length:Int):=by unfold lm at hc;omega
    rw[qX hc',qX hc];rfl
   ·have hc':¬(4000:Int)<((fp (x.2.map c8)).length:Int):=by unfold lm at hc;omega
    rw[qW hc',qW hc,ag hg,qB,qk,aw _]
    have:=ih (ab++[qpu x]) aa (by omega) (by simp;omega) (fun y hy=>hs y (qE _ hy))
    simp only[qS,wM,qM,qL,qZ]at this;rw[show ab.length+(0+1)+aa.length=ab.length+(aa.length+1) by omega]at this
    refine Eq.trans this ?_;simp[nd]
def q2k(fu:Nat)(hfu:300<=fu)(s6:Nat)(m16:Int×Int)(out:List aq)(hs:∀x∈out,x.2.length<fu/\x.2.length<100000000):qcj fu (s6:Int) m16 out=some (jt s6 out):=by
 unfold qcj jt;rw[bu];split
 ·rw[qX (by omega)];rfl
 ·rename_i hl;rw[qW (by omega),zr1,qB]
  simp only;obtain⟨n,hn⟩:∃n,fu=n+1:=⟨fu-1,by omega⟩
  have e:vo fu fu (s6:Int) (out.length:Int) m16 0 0 0 [[0],[32],[13],[32]] out=qhn fu (vo fu n) (s6:Int) (out.length:Int) m16 0 0 0 [[0],[32],[13],[32]] out:=by
   have:∀k,k=n+1->vo fu k (s6:Int) (out.length:Int) m16 0 0 0 [[0],[32],[13],[32]] out=qhn fu (vo fu n) (s6:Int) (out.length:Int) m16 0 0 0 [[0],[32],[13],[32]] out:=by
    rintro k rfl;rw[vo]
   exact this fu hn
  rw[e,qhn]
  cases out with
  |nil=>rw[ap];rfl|cons x aa=>
   obtain⟨q1,q2⟩:=hs x qH;simp only[qL]at hl;have hg:(0<=(0:Int)/\(0:Int).toNat<(x::aa).length):=by simp
   rw[ag (by simp only[qL];omega),ag hg,show(x::aa)[(0:Int).toNat]? = some x from rfl,qB,zpf fu hfu x.2 q1 (by omega),qB]
   simp only;rw[zf1 fu (x.2.map c8) (by omega) (by simpa using q1) (by simp;omega),qB,bu,nd,qZ,u5]
   by_cases hc:4000<(lm x.2).length
   ·have hc':(4000:Int)<((fp (x.2.map c8)).length:Int):=by unfold lm at hc;omega
    rw[qX hc',qX hc];rfl
   ·have hc':¬(4000:Int)<((fp (x.2.map c8)).length:Int):=by unfold lm at hc;omega
    rw[qW hc',qW hc,ag hg,qB];have:=zsk fu fu hfu s6 m16 [qpu x] aa (by omega) (by simp only[qL,qZ];omega) (fun y hy=>hs y (qE _ hy))
    simp only[qL,qZ,wM]at this;rw[show 0+1+aa.length=aa.length+1 by omega]at this
    exact this
def q9r(out:List aq)(x:aq)(_s:List UInt8)(h:out.length<1000000000:=by omega) :
  (af (((out++[x]).length:Int)-1)).toNat=out.length:=by
 rw[ji,jp _ h];omega
def jr.mono{a b:Nat}{l:List aq}(h:jr a l)(hab:a<=b):jr b l:=⟨Nat.le_trans h.1 hab,fun x hx=>⟨Nat.le_trans (h.2 x hx).1 hab,Nat.le_trans (h.2 x hx).2 hab⟩⟩
def jr.app{a k:Nat}{l:List aq}(h:jr a l)(hne:l≠[])(s:List UInt8)(hs:s.length<=k):jr (a+k) (rl l s):=by
 rcases List.eq_nil_or_concat l with rfl|⟨t,x,rfl⟩
 ·exact absurd rfl hne
 ·rw[List.concat_eq_append]at *;rw[qzp];refine⟨by have:=h.1;simp only[qM,qL,qZ]at this ⊢;omega,fun y hy => ?_⟩
  rcases List.mem_append.1 hy with hy|hy
  ·have:=h.2 y (List.mem_append_left _ hy);omega
  ·have:=h.2 x (by simp)
   rw[List.mem_singleton.1 hy];simp only[qM];omega
def zbz{s:List UInt8}{x:aq}(h:lu s=some x):x.1.length<=s.length/\x.2.length<=s.length/\iv x.1=true:=by
 rcases mb 58 s with⟨t,q,rfl,hn⟩|hn
 ·rw[q06 t q hn]at h;split at h
  ·rename_i hf;cases h
   have:=qel t;simp only[qM,qL];exact⟨by omega,by omega,hf⟩
  ·cases h
 ·rw[q07 s hn]at h;cases h
def jr.snoc{a k:Nat}{l:List aq}(h:jr a l){x:aq}(hk:1<=k)(h1:x.1.length<=k)(h2:x.2.length<=k):jr (a+k) (l++[x]):=by
 refine⟨by have:=h.1;simp only[qM,qL,qZ];omega,fun y hy => ?_⟩
 rcases List.mem_append.1 hy with hy|hy
 ·have:=h.2 y hy;omega
 ·rw[List.mem_singleton.1 hy];omega
def zt9(fu n:Nat)(hfu:90000000<=fu)(m16:Int×Int)(s0:List UInt8)(hs:s0.length<=12000):∀(m a:Nat)(out:List aq),(s0.drop a).length<=m->(s0.drop a).length<n->a<=s0.length->jr a out ->
  zd fu n s0 (a:Int) m16 out=some (jt (hd m (s0.drop a) a out).1 (hd m (s0.drop a) a out).2):=by
 induction n with
 |zero=>intro m a out _ h;omega|succ n ih=>
  intro m a out hm h ha hA;have small:∀(b:Nat)(l:List aq),b<=30000->jr b l->∀x∈l,x.2.length<fu/\x.2.length<100000000:=fun b l hb hl x hx=>by have:=(hl.2 x hx).2;omega
  rw[zd,qv7];by_cases h0:s0.drop a=[]
  ·have hl:(s0.drop a).length=0:=by rw[h0];rfl
   rw[List.length_drop]at hl;rw[ap,q2k fu (by omega) a m16 out (small a out (by omega) hA),h0]
   cases m with|zero=>rfl|succ m=>rw[hd,qX rfl]
  ·have hl:1<=(s0.drop a).length:=by
    cases hq:s0.drop a with|nil=>exact absurd hq h0|cons _ _=>simp
   obtain⟨m,rfl⟩:∃j,m=j+1:=⟨m-1,by omega⟩
   have ac:(s0.drop a).length=s0.length-a:=List.length_drop;have k0:=q1u (s0.drop a) h0;obtain⟨k1,k2⟩:=q1t (s0.drop a);have ea:(s0.drop a).drop (ln (s0.drop a)).2=s0.drop (a+(ln (s0.drop a)).2):=by rw[List.drop_drop]
   rw[ag (by omega),ag (by omega),show((a:Nat):Int).toNat=a by omega,zra (s0.drop a),qB,hd,qW h0,ea]
   simp only;generalize hln:ln (s0.drop a)=p at *;obtain⟨t,k⟩:=p;simp only at k0 k1 k2 ea ⊢;have ek:af ((a:Int)+(k:Int))=((a+k:Nat):Int):=by rw[d7];omega
   by_cases ht:t=[]
   ·rw[qX ht,ht,au,ek]
    exact q2k fu (by omega) (a+k) m16 out (small a out (by omega) hA)
   ·rw[qW ht,ax (by simpa using ht)]
    have hidx:am t (0:Int)=some (t.headD 0):=by
     cases t with|nil=>exact absurd rfl ht|cons c t=>rfl
    rw[hidx,qB,qjo,qB];have begin:(match lu t with|none=>some (jt a out)|some x=>some (jt (hd m (s0.drop (a+k)) (a+k) (out++[x])).1 (hd m (s0.drop (a+k)) (a+k) (out++[x])).2))=qnm fu (zd fu n) s0 (a:Int) t (k:Int) m16 out:=by
     unfold qnm;obtain⟨x,ok,e1,e2⟩:=zm3 fu (by omega) t
     rw[e1,qB,e2];cases ok
     ·rw[cr];exact(q2k fu (by omega) a m16 out (small a out (by omega) hA)).symm
     ·have hx:lu t=some x:=e2;obtain⟨x1,x2,_⟩:=zbz hx;have ho:=hA.1;rw[bn,ag (by simp[a8];omega),ek]
      have:=ih m (a+k) (out++[x]) (by rw[List.length_drop];omega) (by rw[List.length_drop];omega) (by omega) (hA.snoc k0 (by omega) (by omega))
      exact this.symm
    have more:out≠[]->ze fu (zd fu n) s0 (a:Int) t (k:Int) true m16 out=some (jt (hd m (s0.drop (a+k)) (a+k) (rl out t)).1 (hd m (s0.drop (a+k)) (a+k) (rl out t)).2):=by
     intro hne;have hA2:=hA.app hne t k2;unfold ze;have ho:=hA.1;rcases List.eq_nil_or_concat out with rfl|⟨u,x,rfl⟩
     ·exact absurd rfl hne
     ·rw[List.concat_eq_append]at *;simp only[qM,qL,qZ]at ho;have hx:=(hA.2 x (by simp)).2
      have hw:=q9r u x t
      have hw2:af (((u++[x]).length:Int)-1)=(u.length:Int):=by rw[ji,jp _]
      have hg:(0<=af (((u++[x]).length:Int)-1)/\(af (((u++[x]).length:Int)-1)).toNat<(u++[x]).length):=by rw[hw2];simp
      rw[au,ag hg,hw,show(u++[x])[u.length]? = some x by simp,qB,ag (by simp only[ar];omega),ag (by rw[hw]at hg;exact hg),qB,ek]
      rw[show List.set (u++[x]) u.length (x.1,x.2++t)=rl (u++[x]) t by rw[qzp];simp]
      exact ih m (a+k) (rl (u++[x]) t) (by rw[List.length_drop];omega) (by rw[List.length_drop];omega) (by omega) hA2
    cases hb:bl (t.headD 0)
    ·rw[ax (by rfl),qW (by simp)]
     unfold ze;rw[ax (by rfl),← begin]
     cases lu t<;>rfl
    ·rw[au]
     by_cases hne:out=[]
     ·subst hne;rw[qW (by simp)]
      unfold ze;rw[ap,← begin]
      cases lu t<;>rfl
     ·rw[qX ⟨rfl,hne⟩,show(decide ((0:Int)<(out.length:Int)))=true by
       cases out with
       |nil=>exact absurd rfl hne| cons _ _=>exact decide_eq_true (by simp only[qL];omega)]
      exact more hne
def zt8(fu:Nat)(hfu:90000000<=fu)(b:List UInt8):qnl fu b=some (dm b):=by
 unfold qnl dm;rw[bu];split
 ·rw[qX (by omega)];rfl
 ·rw[qW (by omega)]
  have:=zt9 fu fu hfu (0,0) b (by omega) b.length 0 [] (by simp) (by simp;omega) (by omega) ⟨wF _,fun x hx=>by cases hx⟩
  simpa using this
def zbr(fu n:Nat):∀(ab t aa:List UInt8),(∀x∈t,x≠58)->(aa=[]\/∃r,aa=58::r)->t.length<n->ab.length+t.length+aa.length<100000000 ->
  yh fu n (ab++(t++aa)) [58] (ab.length:Int)=some (if aa=[] then -1 else((ab.length+t.length:Nat):Int)):=by
 induction n with
 |zero=>intro ab t aa _ _ h;omega|succ n ih=>
  intro ab t aa ht hs h hb;rw[yh,ql8,show((([58]:List UInt8).length:Nat):Int)=1 from rfl,aw _]
  have one:∀(c:UInt8)(r:List UInt8),(List.take (((ab.length+1:Nat):Int).toNat-((ab.length:Nat):Int).toNat) (List.drop ((ab.length:Nat):Int).toNat (ab++c::r)))=[c]:=by
   intro c r;rw[r7,show((ab.length+1:Nat):Int).toNat-((ab.length:Nat):Int).toNat=1 by omega];rfl
  cases t with
  |nil=>
   rcases hs with rfl|⟨r,rfl⟩
   ·rw[ap (by simp<;>omega)];rfl
   ·have hl:((ab++([]++58::r)).length:Int)=((ab.length+r.length+1:Nat):Int):=by simp;omega
    rw[hl,ag (by omega),ag (by omega)]
    rw[show ab++([]++58::r)=ab++58::r from rfl,one 58 r,au]
    rfl
  |cons c t=>
   have hc:=ht c qH;simp only[qL]at h hb;have hl:((ab++(c::t++aa)).length:Int)=((ab.length+t.length+aa.length+1:Nat):Int):=by simp;omega
   rw[hl,ag (by omega),ag (by omega)]
   rw[show ab++(c::t++aa)=ab++c::(t++aa) from rfl,one c (t++aa),ax (by simpa using hc)]
   have:=ih (ab++[c]) t aa (fun x hx=>ht x (qE _ hx)) hs (by omega) (by simp;omega)
   simp only[qS,wM,qM,qL,qZ]at this;rw[this,show ab.length+(0+1)+t.length=ab.length+(t.length+1) by omega];rfl
def zpb(fu:Nat)(t r:List UInt8)(h:∀x∈t,x≠58)(hf:t.length<fu:=by omega)(hb:t.length+r.length<10000000:=by omega):vd fu (t++58::r) [58] 0=some (t.length:Int):=by
 have:=zbr fu fu [] t (58::r) h (.inr ⟨r,rfl⟩) hf (by simp;omega)
 rw[qW (by simp)]at this
 unfold vd;simpa using this
def zpc(fu:Nat)(s:List UInt8)(h:∀x∈s,x≠58)(hf:s.length<fu:=by omega)(hb:s.length<10000000:=by omega):vd fu s [58] 0=some (-1):=by
 have:=zbr fu fu [] s [] h (.inl rfl) hf (by simp;omega)
 rw[qX rfl,List.append_nil]at this;exact this
def zsh(fu:Nat)(r0:List UInt8->Int->(Int×Int)->List aq->Option ft)(s0:List UInt8)(s6 s9:Int)(s10:List UInt8)(s11:Int)(m16:Int×Int)(m17:List aq)(n:Nat):∀(s:List UInt8),s.length<n->s.length<100000000 ->
  qgc fu r0 n s0 s6 s9 s10 s11 s m16 m17=qby fu r0 (fun _ _ _ _ _ _ _ _=>none) s0 s6 s9 s10 s11 (et s) false m16 m17:=by
 induction n with
 |zero=>intro s h;omega|succ n ih=>
  intro s h hb;rw[qgc,qui];rcases List.eq_nil_or_concat s with rfl|⟨t,c,rfl⟩
  ·rw[ap];rfl
  ·rw[List.concat_eq_append]at *;simp only[qM,qL,qZ]at h hb;rw[ji,ag (by omega),jp _,qap,qB,xg,qB,qem]
   cases bl c
   ·rfl
   ·unfold qby;rw[au]
    unfold qum;rw[ji,jp _,ag (by omega),qeu,ih t (by omega) (by omega),qX rfl]
    rfl
def zsi(fu:Nat)(r4:Int->Int->(Int×Int)->List aq->Option ft)(s6:Int)(P:List aq)(x:aq)(S:List aq)(m16:Int×Int)(n:Nat):∀(ab aa:List UInt8),aa.length<n->ab.length+aa.length<fu->ab.length+aa.length<100000000 ->
  yx fu r4 n s6 (P.length:Int) (ab.length:Int) m16 (P++x::S) (ab++aa)=if 4000<(fp (ab++aa.map c8)).length then some (0,((1,(P.length:Int)),[])) else r4 s6 (af ((P.length:Int)+1)) m16 (P++(x.1,fp (ab++aa.map c8))::S):=by
 induction n with
 |zero=>intro ab aa h;omega|succ n ih=>
  intro ab aa h hf hb;rw[yx,quj];have hg:(0<=(P.length:Int)/\(P.length:Int).toNat<(P++x::S).length):=by simp
  cases aa with
  |nil=>
   rw[ap,List.append_nil,zel fu ab (by simpa using hf) (by simp at hb;omega),qB,ag hg,ii,qB,qk]
   have hg2:(0<=(P.length:Int)/\(P.length:Int).toNat<(P++(x.1,fp ab)::S).length):=by simp
   rw[ag hg2,ii,qB,bu];simp only[List.map_nil,List.append_nil];split
   ·rw[qX (by omega)];rfl
   ·rw[qW (by omega)]
  |cons c aa=>
   simp only[qL]at h hf hb;have hc:(0<=(ab.length:Int)/\(ab.length:Int).toNat<(ab++c::aa).length):=by simp
   have fin:∀d,d=c8 c->yx fu r4 n s6 (P.length:Int) (af ((ab.length:Int)+1)) m16 (P++x::S) (ab++d::aa)=if 4000<(fp (ab++(c::aa).map c8)).length then some (0,((1,(P.length:Int)),[])) else r4 s6 (af ((P.length:Int)+1)) m16 (P++(x.1,fp (ab++(c::aa).map c8))::S):=by
    intro d hd;have:=ih (ab++[d]) aa (by omega) (by simp;omega) (by simp;omega)
    rw[aw _]
    subst hd;simpa using this
   rw[cd,ag (by omega),ag hc,ii,qB,jz]
   unfold qmp qmq;by_cases h0:c=0
   ·rw[qX h0,au,ag hc,ii,qB,qk]
    exact fin 32 (by unfold c8;rw[qX (.inl h0)])
   ·rw[qW h0,ag hc,qB];by_cases h13:c=13
    ·rw[au (by simpa using h13),ag hc,ii,qB,qk]
     exact fin 32 (by unfold c8;rw[qX (.inr h13)])
    ·rw[ax (by simpa using h13)]
     exact fin c (by unfold c8;rw[qW (by simp[h0,h13])])
def zsj(fu n:Nat)(s6:Nat)(m16:Int×Int):∀(ab aa:List aq),aa.length<n->ab.length+aa.length<100000000->(∀x∈aa,x.2.length<fu/\x.2.length<100000000) ->
  y4 fu n (s6:Int) (ab.length:Int) m16 (ab++aa)=some (nd s6 ab aa):=by
 induction n with
 |zero=>intro ab aa h;omega|succ n ih=>
  intro ab aa h hb hs;rw[y4,quk]
  cases aa with
  |nil=>rw[ap];simp[nd,u5]|cons x aa=>
   simp only[qL]at h hb;obtain⟨q1,q2⟩:=hs x qH;have hg:(0<=(ab.length:Int)/\(ab.length:Int).toNat<(ab++x::aa).length):=by simp
   have e:=zsi fu (y4 fu n) (s6:Int) ab x aa m16 fu [] x.2 q1 (by simpa using q1) (by simpa using q2)
   simp only[List.nil_append,qZ]at e;have e:yx fu (y4 fu n) fu (s6:Int) (ab.length:Int) 0 m16 (ab++x::aa) x.2=_:=e;rw[um,qL,ag (by omega),ag hg,ii,qB,ag (by simp[maxLen];omega),e,nd,u5]
   rw[show(fp (x.2.map c8))=lm x.2 from rfl]
   by_cases hc:4000<(lm x.2).length
   ·rw[qX hc,qX hc]
   ·rw[qW hc,qW hc,aw _]
    have:=ih (ab++[qpu x]) aa (by omega) (by simp;omega) (fun y hy=>hs y (qE _ hy))
    simp only[qS,wM,qM,qL,qZ]at this;refine Eq.trans this ?_;simp[nd]
def qrk(fu:Nat)(hfu:100<=fu)(s6:Nat)(m16:Int×Int)(out:List aq)(hs:∀x∈out,x.2.length<fu/\x.2.length<100000000):yy fu (s6:Int) m16 out=some (jt s6 out):=by
 unfold yy jt;rw[bu];split
 ·rw[qX (by omega)];rfl
 ·rename_i hl;rw[qW (by omega)]
  have:=zsj fu fu s6 m16 [] out (by omega) (by simp;omega) hs
  exact this
def zd4(fu:Nat)(r0:List UInt8->Int->(Int×Int)->List aq->Option ft)(a:Int)(m16:Int×Int)(m17:List aq)(n:Nat):∀(ab t aa:List UInt8),(∀x∈t,x≠10)->(aa=[]\/∃r,aa=10::r)->t.length<n->ab.length+t.length+aa.length<100000000 ->
  vj fu r0 n (ab++(t++aa)) a (ab.length:Int) m16 m17=yz fu r0 (fun _ _ _ _ _=>none) (ab++(t++aa)) a ((ab.length+t.length:Nat):Int) false m16 m17:=by
 induction n with
 |zero=>intro ab t aa _ _ h;omega|succ n ih=>
  intro ab t aa ht hs h hb;rw[vj,quh]
  cases t with
  |nil=>
   rcases hs with rfl|⟨r,rfl⟩
   ·rw[ap];rfl
   ·rw[show ab++([]++10::r)=ab++10::r from rfl,cd,ag (by omega),bf,qB,show((10:UInt8) != 10)=false from rfl];rfl
  |cons c t=>
   have hc:=ht c qH;simp only[qL]at h hb;have hl:((ab++(c::t++aa)).length:Int)=((ab.length+t.length+aa.length+1:Nat):Int):=by simp;omega
   rw[hl,ag (by omega),show ab++(c::t++aa)=ab++c::(t++aa) from rfl,bf,qB,show(c != 10)=true by simpa using hc]
   have:=ih (ab++[c]) t aa (fun x hx=>ht x (qE _ hx)) hs (by omega) (by simp;omega)
   simp only[qS,wM,qM,qL,qZ]at this;have e:yz fu r0 (vj fu r0 n) (ab++c::(t++aa)) a (ab.length:Int) true m16 m17=vj fu r0 n (ab++c::(t++aa)) a (af ((ab.length:Int)+1)) m16 m17:=rfl;rw[e,aw _,show ab.length+1=ab.length+(0+1) by omega,this,show ab.length+(0+1)+t.length=ab.length+(t.length+1) by omega];rfl
def zrb(fu:Nat)(r0:List UInt8->Int->(Int×Int)->List aq->Option ft)(m16:Int×Int)(m17:List aq)(ab r:List UInt8)(hf:r.length<fu:=by omega)(hb:ab.length+r.length<10000000:=by omega) :
  vj fu r0 fu (ab++r) (ab.length:Int) (ab.length:Int) m16 m17=qb1 fu r0 (ab++r) (ab.length:Int) ((ab.length+(ln r).1.length:Nat):Int) ((ab.length+(ln r).2:Nat):Int) m16 m17/\List.take (ln r).1.length r=(ln r).1:=by
 rcases mb 10 r with⟨t,q,rfl,h⟩|h
 ·simp only[qM,qL]at hf hb;have ac:((ab++(t++10::q)).length:Int)=((ab.length+t.length+q.length+1:Nat):Int):=by simp;omega
  rw[qq5 t q h];simp only;refine⟨?_,?_⟩
  ·rw[zd4 fu r0 (ab.length:Int) m16 m17 fu ab t (10::q) h (.inr ⟨q,rfl⟩) (by omega) (by simp;omega)]
   unfold yz;rw[ax (by rfl),ac,ag (by omega)]
   have p7:∀e:Nat,qb0 fu r0 (ab++(t++10::q)) (ab.length:Int) ((ab.length+t.length:Nat):Int) (e:Int) m16 m17=qb1 fu r0 (ab++(t++10::q)) (ab.length:Int) (e:Int) ((ab.length+(t.length+1):Nat):Int) m16 m17:=by
    intro e;unfold qb0;rw[ac,gv,qW (by omega),aw _];rfl
   unfold qbz;rcases List.eq_nil_or_concat t with rfl|⟨u,c,rfl⟩
   ·rw[ap,ax (by rfl)]
    exact p7 ab.length
   ·rw[List.concat_eq_append]at *;simp only[qM,qL,qZ]at hf hb p7 ⊢;rw[ag (by omega),show af (((ab.length+(u.length+(0+1)):Nat):Int)-1)=(((ab++u).length:Nat):Int) by rw[d7];simp;omega]
    rw[show ab++(u++[c]++10::q)=(ab++u)++c::10::q by simp,bf,qB]
    rw[show(ab++u)++c::10::q=ab++(u++[c]++10::q) by simp]
    by_cases hc:c=13
    ·rw[au (by simpa using hc),show((ab++u).length:Int)=((ab.length+u.length:Nat):Int) by simp,p7 (ab.length+u.length)]
     rw[show pm (u++[c])=u by unfold pm;rw[List.getLast?_concat,hc];simp]
    ·rw[ax (by simpa using hc),p7 (ab.length+(u.length+(0+1)))]
     rw[show pm (u++[c])=u++[c] by unfold pm;rw[List.getLast?_concat,qW (by simpa using hc)]]
     simp
  ·unfold pm;split
   ·rename_i hl;rcases List.eq_nil_or_concat t with rfl|⟨u,c,rfl⟩
    ·simp at hl
    ·rw[List.concat_eq_append];simp
   ·simp
 ·rw[qq6 r h];simp only;refine⟨?_,List.take_length⟩;have:=zd4 fu r0 (ab.length:Int) m16 m17 fu ab r [] h (.inl rfl) hf (by simp;omega)
  rw[List.append_nil]at this;rw[this];unfold yz;have ac:((ab++r).length:Int)=((ab.length+r.length:Nat):Int):=by simp
  rw[ax (by rfl),ac,ap]
  unfold qbz qb0;rw[ax (by rfl),ac,gv,qX rfl]
def zvf(fu n:Nat)(hfu:90000000<=fu)(m16:Int×Int):∀(m:Nat)(ab r:List UInt8)(out:List aq),r.length<=m->r.length<n->ab.length+r.length<=12000->jr ab.length out ->
  vi fu n (ab++r) (ab.length:Int) m16 out=some (jt (hd m r ab.length out).1 (hd m r ab.length out).2):=by
 induction n with
 |zero=>intro m ab r out _ h;omega|succ n ih=>
  intro m ab r out hm h hs hA;have small:∀(b:Nat)(l:List aq),b<=30000->jr b l->∀x∈l,x.2.length<fu/\x.2.length<100000000:=fun b l hb hl x hx=>by have:=(hl.2 x hx).2;omega
  rw[vi,qug];by_cases h0:r=[]
  ·subst h0;rw[ap,qrk fu (by omega) ab.length m16 out (small _ out (by simp at hs;omega) hA)]
   cases m with|zero=>rfl|succ m=>rw[hd,qX rfl]
  ·have hl:1<=r.length:=by
    cases r with|nil=>exact absurd rfl h0|cons _ _=>simp
   obtain⟨m,rfl⟩:∃j,m=j+1:=⟨m-1,by omega⟩
   have k0:=q1u r h0;obtain⟨k1,k2⟩:=q1t r;obtain⟨l1,l2⟩:=zrb fu (vi fu n) m16 out ab r
   rw[um,ag (by omega),l1,hd,qW h0]
   unfold qb1;rw[um,ag (by omega),r7,show((ab.length+(ln r).1.length:Nat):Int).toNat-(ab.length:Int).toNat=(ln r).1.length by omega,l2]
   generalize hln:ln r=p at *;obtain⟨t,k⟩:=p;simp only at k0 k1 k2 l2 ⊢;have hsplit:ab++r=(ab++r.take k)++r.drop k:=by simp
   have hpl:(ab++r.take k).length=ab.length+k:=by simp;omega
   have next:∀out',jr (ab.length+k) out'->vi fu n (ab++r) ((ab.length+k:Nat):Int) m16 out'=some (jt (hd m (r.drop k) (ab.length+k) out').1 (hd m (r.drop k) (ab.length+k) out').2):=by
    intro out' hA';have:=ih m (ab++r.take k) (r.drop k) out' (by rw[List.length_drop];omega) (by rw[List.length_drop];omega) (by rw[hpl,List.length_drop];omega) (by rw[hpl];exact hA')
    rw[hpl,← hsplit]at this;exact this
   by_cases ht:t=[]
   ·rw[qX ht,ht,au]
    exact qrk fu (by omega) (ab.length+k) m16 out (small (ab.length+k) out (by omega) (hA.mono (by omega)))
   ·rw[qW ht,ax (by simpa using ht)]
    have hidx:am t (0:Int)=some (t.headD 0):=by
     cases t with|nil=>exact absurd rfl ht|cons c t=>rfl
    have begin:qb2 fu (vi fu n) (ab++r) (ab.length:Int) ((ab.length+k:Nat):Int) t false m16 out=(match lu t with|none=>some (jt ab.length out)|some x=>some (jt (hd m (r.drop k) (ab.length+k) (out++[x])).1 (hd m (r.drop k) (ab.length+k) (out++[x])).2)):=by
     unfold qb2 qul;rw[ax (by rfl)]
     rcases mb 58 t with⟨u,q,rfl,hn⟩|hn
     ·simp only[qM,qL]at k2;have hu:=qel u;have ho:=hA.1;rw[zpb fu u q hn,qB,ap,ag (by rw[cd];omega),qm,zsh fu _ _ _ _ _ _ _ _ fu u (by omega) (by omega),q06 u q hn]
      unfold qby;rw[ax (by rfl),zfg fu (et u),qB]
      cases hf:iv (et u)
      ·rw[cr,qW (by decide)]
       exact qrk fu (by omega) ab.length m16 out (small _ out (by omega) hA)
      ·rw[bn,qX rfl,aw _,ag (by rw[cd];omega),qdz,ag (by simp[a8];omega)]
       exact next _ (hA.snoc k0 (by show(et u).length<=k;omega) (by show q.length<=k;omega))
     ·rw[zpc fu t hn,qB,ag (by decide),q07 t hn]
      exact qrk fu (by omega) ab.length m16 out (small _ out (by omega) hA)
    by_cases hne:out=[]
    ·rw[hne,ap,qW (by simp)]
     rw[hne]at begin;rw[begin];cases lu t<;>rfl
    ·rw[ag (by
      cases out with
      |nil=>exact absurd rfl hne| cons _ _=>simp only[qL];omega),hidx,qB,xg,qB]
     cases hb:bl (t.headD 0)
     ·rw[begin,qW (by simp)]
      cases lu t<;>rfl
     ·rw[qX ⟨rfl,hne⟩];have hA2:=hA.app hne t k2;unfold qb2;have ho:=hA.1;rcases List.eq_nil_or_concat out with rfl|⟨u,x,rfl⟩
      ·exact absurd rfl hne
      ·rw[List.concat_eq_append]at *;simp only[qM,qL,qZ]at ho;have hx:=(hA.2 x (by simp)).2
       have hw:=q9r u x t
       have hw2:af (((u++[x]).length:Int)-1)=(u.length:Int):=by rw[ji,jp _]
       have hg:(0<=af (((u++[x]).length:Int)-1)/\(af (((u++[x]).length:Int)-1)).toNat<(u++[x]).length):=by rw[hw2];simp
       rw[au,ag hg,hw,show(u++[x])[u.length]? = some x by simp,qB,ag (by simp only[ar];omega),ag (by rw[hw]at hg;exact hg),qB]
       rw[show List.set (u++[x]) u.length (x.1,x.2++t)=rl (u++[x]) t by rw[qzp];simp]
       exact next _ hA2
def zve(fu:Nat)(hfu:90000000<=fu)(b:List UInt8):qmo fu b=some (dm b):=by
 unfold qmo dm;rw[bu];split
 ·rw[qX (by omega)];rfl
 ·rw[qW (by omega)]
  have:=zvf fu fu hfu (0,0) b.length [] b [] (wF _) (by omega) (by simp;omega) ⟨wF _,fun x hx=>by cases hx⟩
  exact this
def qqu:∀(m:Nat)(r:List UInt8)(a:Nat)(out:List aq),jr a out->a<=(hd m r a out).1/\(hd m r a out).1<=a+r.length/\jr (hd m r a out).1 (hd m r a out).2
 |0,r,a,out,h=>⟨wF _,by show a<=_;omega,h⟩|m+1,r,a,out,h=>by
  rw[hd];split
  ·exact⟨wF _,by simp only;omega,h⟩
  ·rename_i h0;have k0:=q1u r h0;obtain⟨k1,k2⟩:=q1t r;split
   ·exact⟨by simp only;omega,by simp only;omega,h.mono (by simp only;omega)⟩
   ·split
    ·rename_i hb;obtain⟨q1,q2,q3⟩:=qqu m (r.drop (ln r).2) (a+(ln r).2) (rl out (ln r).1) (h.app hb.2 _ k2);rw[List.length_drop]at q2;exact⟨by omega,by omega,q3⟩
    ·split
     ·exact⟨wF _,by simp only;omega,h⟩
     ·rename_i x hx;obtain⟨x1,x2,_⟩:=zbz hx;obtain⟨q1,q2,q3⟩:=qqu m (r.drop (ln r).2) (a+(ln r).2) (out++[x]) (h.snoc k0 (by omega) (by omega))
      rw[List.length_drop]at q2;exact⟨by omega,by omega,q3⟩
def zt7{b:List UInt8}(h:(dm b).2.1.1=0):b.length<=12000/\(dm b).1=((hd b.length b 0 []).1:Int)/\(hd b.length b 0 []).1<=b.length/\mj (dm b).2.2:=by
 unfold dm at h ⊢;split at h
 ·exact absurd h (by simp)
 ·rename_i hl;rw[qW hl];obtain⟨q1,q2,q3⟩:=qqu b.length b 0 [] ⟨wF _,fun x hx=>by cases hx⟩
  unfold jt at h ⊢;split at h
  ·exact absurd h (by simp)
  ·rename_i h60;rw[qW h60];unfold nd at h ⊢;split at h
   ·exact absurd h (by simp)
   ·refine⟨by omega,rfl,by omega,?_⟩
    simp only[List.nil_append];refine⟨by rw[wC];omega,fun x hx => ?_⟩
    obtain⟨y,hy,rfl⟩:=List.mem_map.1 hx;obtain⟨y1,y2⟩:=q3.2 y hy;have:=za1 y.2;exact⟨by show y.1.length<=_;omega,by show(lm y.2).length<=_;omega⟩
def zv2(fu n:Nat):∀(ab aa:List aq),aa.length<n->ab.length+aa.length<100000000->qgf fu n (ab++aa) (ab++aa) (ab.length:Int)=some true:=by
 induction n with
 |zero=>intro ab aa h;omega|succ n ih=>
  intro ab aa h hb;rw[qgf,qun]
  cases aa with
  |nil=>rw[ap]|cons x aa=>
   simp only[qL]at h hb;rw[um,qL,ag (by omega),bf,qB,qB,show((x.1==x.1)&&((x.2==x.2)&&true))=true by simp,bn,aw _]
   have:=ih (ab++[x]) aa (by omega) (by simp;omega)
   simpa using this

def du(l:List aq)(n:List UInt8):List (List UInt8):=(l.filter fun x=>x.1.map lo==n.map lo).map (·.2)
def xu(x:aq)(l:List aq)(n:List UInt8):du (x::l) n=if(x.1.map lo==n.map lo)=true then x.2::du l n else du l n:=by
 unfold du;rw[List.filter_cons];split<;>rfl
def zxz(fu n:Nat)(hfu:90000000<=fu)(nm:List UInt8)(hn:nm.length<=1000):∀(ab aa:List aq)(out:List (List UInt8)),aa.length<n->ab.length+aa.length<100000000->mj aa->out.length+aa.length<1000000000 ->
  qb4 fu n (ab++aa) nm (ab.length:Int) out=some (out++du aa nm):=by
 induction n with
 |zero=>intro ab aa out h;omega|succ n ih=>
  intro ab aa out h hb hs hk;rw[qb4,qux]
  cases aa with
  |nil=>rw[ap];simp[du]|cons x aa=>
   simp only[qL]at h hb hk;obtain⟨q1,q2⟩:=hs.2 x qH;have next:∀out':List (List UInt8),out'.length<=out.length+1->qb4 fu n (ab++x::aa) nm (af ((ab.length:Int)+1)) out'=some (out'++du aa nm):=by
    intro out' hj;have:=ih (ab++[x]) aa out' (by omega) (by simp;omega) hs.tail (by omega)
    rw[aw _]
    simpa using this
   rw[um,qL,ag (by omega),bf,qB,q9m fu _ _ (by omega) (by omega) (by simp only[maxLen];omega) (by simp only[maxLen];omega),qB,xu]
   cases hc:x.1.map lo==nm.map lo
   ·rw[ax (by rfl),qW (by decide)]
    exact next out (by omega)
   ·rw[au,qX rfl,qB,ag (by simp[a8];omega),next _ (by simp)]
    simp
def zhd(fu:Nat)(hfu:90000000<=fu)(l:List aq)(nm:List UInt8)(hn:nm.length<=1000)(hs:mj l):qmu fu l nm=some (du l nm):=by
 have h1:=hs.1;have:=zxz fu fu hfu nm hn [] l [] (by omega) (by simp;omega) hs (by simp;omega)
 exact this
def ztl(f:Bs->Bs->Option Pc):∀(n:Nat)(acc:List Pc)(s:Bs)(l:List Pc),dh f n acc s=some l->∃t,l=acc++t:=by
 intro n
 induction n with
 |zero=>intro acc s l h;cases h
 |succ n ih=>
  intro acc s l h;rw[dh]at h
  cases ht:be s with
  |nil=>rw[ht]at h;cases h;exact⟨[],by simp⟩
  |cons c t=>
   rw[ht]at h;simp only at h;by_cases hc:c=59
   ·rw[qX hc]at h
    cases hx:p8 t with
    |none=>rw[hx]at h;cases h
    |some x=>
     rw[hx]at h;simp only at h
     cases hp:f x.1.1 x.1.2 with
     |none=>rw[hp]at h;cases h
     |some p=>
      rw[hp]at h;simp only at h;obtain⟨u,e⟩:=ih _ _ _ h;exact⟨p::u,by rw[e];simp⟩
   ·rw[qW hc]at h;cases h
def small(p:Pc):Prop:=p.2.1<1000000000
def ztk:∀(n:Nat)(acc:List Pc)(s:Bs),(∀p∈acc,small p)->(∀l,dh fo n acc s=some l->(∀p∈l,small p)->dh g9 n acc s=some l) /\
  (∀l,dh fo n acc s=some l->(∃p∈l,¬small p)->dh g9 n acc s=none)/\(dh fo n acc s=none->dh g9 n acc s=none):=by
 intro n
 induction n with
 |zero=>intro acc s _;exact⟨fun l h=>(nomatch h),fun l h=>(nomatch h),fun _=>rfl⟩
 |succ n ih=>
  intro acc s ha;rw[dh,dh]
  cases ht:be s with
  |nil=>exact⟨fun l h _=>h,fun l h hb=>(by cases h;obtain⟨p,hp,hq⟩:=hb;exact absurd (ha p hp) hq),fun h=>h⟩
  |cons c t=>
   simp only;by_cases hc:c=59
   ·rw[qX hc,qX hc]
    cases hx:p8 t with
    |none=>exact⟨fun l h=>(nomatch h),fun l h=>(nomatch h),fun _=>rfl⟩
    |some x=>
     simp only;unfold g9
     cases hp:fo x.1.1 x.1.2 with
     |none=>exact⟨fun l h=>(nomatch h),fun l h=>(nomatch h),fun _=>rfl⟩
     |some p=>
      simp only;by_cases hs:p.2.1<1000000000
      ·simp only[qX hs];exact ih (acc++[p]) x.2 (fun y hy=>(List.mem_append.1 hy).elim (ha y) (fun e=>by rw[List.mem_singleton.1 e];exact hs))
      ·simp only[qW hs];refine⟨fun l h hall => ?_,fun _ _ _=>by first|rfl|trivial,fun _=>by first|rfl|trivial⟩
       obtain⟨u,e⟩:=ztl fo n _ _ _ h;exact absurd (hall p (by rw[e];simp)) hs
   ·rw[qW hc,qW hc];exact⟨fun l h=>(nomatch h),fun l h=>(nomatch h),fun _=>rfl⟩
def ztm:∀(n:Nat)(acc:List Pc)(s:Bs)(l:List Pc),dh fo n acc s=some l->cv l<=cv acc+s.length/\((∀p∈acc,nb p)->∀p∈l,nb p):=by
 intro n
 induction n with
 |zero=>intro acc s l h;cases h
 |succ n ih=>
  intro acc s l h;have hl:=kh s;rw[dh]at h
  cases ht:be s with
  |nil=>rw[ht]at h;cases h;exact⟨Nat.le_add_right _ _,fun h=>h⟩
  |cons c t=>
   rw[ht]at h hl;simp only[qL]at h hl;by_cases hc:c=59
   ·rw[qX hc]at h
    cases hx:p8 t with
    |none=>rw[hx]at h;cases h
    |some x=>
     rw[hx]at h;simp only at h;have hxl:=(q1q (n:=x.1.1) (v:=x.1.2) (t:=x.2) hx).1
     cases hp:fo x.1.1 x.1.2 with
     |none=>rw[hp]at h;cases h
     |some p=>
      rw[hp]at h;simp only at h;obtain⟨g1,g2,g3,g4,_⟩:=zeb hp;obtain⟨e1,e2⟩:=ih _ _ _ h;rw[zgl,g2]at e1;exact⟨by omega,fun hh=>e2 (fun y hy=>(List.mem_append.1 hy).elim (hh y) (fun e=>by rw[List.mem_singleton.1 e];exact⟨g3,g4⟩))⟩
   ·rw[qW hc]at h;cases h
def zdp:∀(q:List Pc)(k:Int),nh q k->∀x∈q,x.2.1<k+q.length
 |[],_,_,_,h=>by cases h
 |p::r,k,h,x,hx=>by
  simp only[qL];rcases List.mem_cons.1 hx with e|e
  ·subst e;have:=h.1;omega
  ·have:=zdp r _ h.2 x e;omega
def zcw{a b c:Bs}(h1:lk a b=true)(h2:lk b c=true):lk a c=true:=by
 unfold lk at *;simp only[beq_iff_eq]at *;rw[h1,h2]
def zry(l:List Pc){a b:Bs}(h:lk a b=true):cn a l=cn b l:=by
 unfold cn;congr 1;funext x;rw[Bool.eq_iff_iff];exact⟨fun g=>zcw g h,fun g=>zcw g (by rw[q1r];exact h)⟩
def zsq(l:List Pc):∀(aa ab:List Pc)(out:List bt),l=ab++aa->(fm ab aa out).1=true->(∀x∈ab,sf (cn x.1 l)≠none)->∀x∈l,sf (cn x.1 l)≠none:=by
 intro aa
 induction aa with
 |nil=>intro ab out hl _ hp;rw[hl,List.append_nil];rw[hl,List.append_nil]at hp;exact hp|cons p aa ih=>
  intro ab out hl h hp;rw[fm]at h;by_cases hany:ab.any (fun x=>lk x.1 p.1)=true
  ·rw[qX hany]at h;refine ih (ab++[p]) out (by rw[hl];simp) h (fun x hx => ?_)
   rcases List.mem_append.1 hx with g|g
   ·exact hp x g
   ·rw[List.mem_singleton.1 g];obtain⟨y,hy,hk⟩:=List.any_eq_true.1 hany;rw[← zry l hk];exact hp y hy
  ·rw[qW hany,← hl]at h
   cases hj:sf (cn p.1 l) with
   |none=>rw[hj]at h;cases h
   |some v=>
    rw[hj]at h;refine ih (ab++[p]) _ (by rw[hl];simp) h (fun x hx => ?_)
    rcases List.mem_append.1 hx with g|g
    ·exact hp x g
    ·rw[List.mem_singleton.1 g,hj];simp
def zqx(A:List Pc)(hn:∀x∈A,nb x)(hl:A.length<=300000)(h:sf A≠none):∀x∈A,small x:=by
 cases A with
 |nil=>intro x hx;cases hx
 |cons p l=>
  rw[qq4]at h;by_cases h0:p.2.1<0
  ·rw[qX h0]at h;by_cases h1:l=[]
   ·subst h1;intro x hx;rw[List.mem_singleton.1 hx];unfold small;omega
   ·rw[qW h1]at h;exact absurd rfl h
  ·rw[qW h0]at h;obtain⟨_,h2,_⟩:=q3o (p::l) hn
   have hnum:nh (ic (p::l)) 0:=by
    by_cases hq:nh (ic (p::l)) 0
    ·exact hq
    ·rw[zcx _ _ _ hq]at h;exact absurd rfl h
   intro x hx;have:=zdp _ 0 hnum x (h2.mem_iff.2 hx);rw[h2.length_eq]at this;unfold small;omega
def zsr(l:List Pc)(hn:∀x∈l,nb x)(hl:l.length<=300000)(hb:∃p∈l,¬small p):(fm [] l []).1=false:=by
 cases h:(fm [] l []).1
 ·rfl
 ·obtain⟨p,hp,hq⟩:=hb;have:=zsq l l [] [] rfl h (by simp) p hp
  refine absurd (zqx (cn p.1 l) (fun x hx=>hn x (List.mem_filter.1 hx).1) ?_ this p (List.mem_filter.2 ⟨hp,q1s _⟩)) hq
  have:=List.length_filter_le (fun x:Pc=>lk x.1 p.1) l
  unfold cn;omega
def up(s:Bs):Option dw:=match oo fo s with|none=>none|some m=>if(fm [] m.2.2 []).1=true then some (m.1,(m.2.1,(fm [] m.2.2 []).2)) else none
def zd7{f:Bs->Bs->Option Pc}{s:Bs}{m:Bs×Bs×List Pc}(h:oo f s=some m):∃c,dh f (s.length+1) [] c=some m.2.2/\c.length+m.1.length+m.2.1.length<=s.length:=by
 have l1:=qa9 tk s;have l2:=qeq 47 (bz tk s).2;have l3:=qa9 tk (dd 47 (bz tk s).2).2;unfold oo at h;simp only at h;split at h
 ·cases h
 ·cases hp:dh f (s.length+1) [] (bz tk (dd 47 (bz tk s).2).2).2 with
  |none=>rw[hp]at h;cases h
  |some l=>
   rw[hp]at h;cases h;exact⟨_,hp,by simp only;omega⟩
def zd8{s:Bs}{m:Bs×Bs×List Pc}(h:oo fo s=some m):cv m.2.2<=s.length/\∀p∈m.2.2,nb p:=by
 obtain⟨c,h1,h2⟩:=zd7 h;obtain⟨g1,g2⟩:=ztm _ _ _ _ h1;exact⟨by simp[cv]at g1 ⊢;omega,g2 (by simp)⟩
def zss(l:List Pc)(hz:cv l<=300000):∀(aa ab:List Pc)(out:List bt),l=ab++aa->out.length<=ab.length->(∀x∈out,x.1.length<=4000000/\x.2.length<=4000000)->ml (fm ab aa out).2:=by
 have hll:=nq l;intro aa
 induction aa with
 |nil=>intro ab out hl ho hs;rw[hl]at hll;simp at hll;exact⟨by rw[fm];simp only;rw[hl]at hz;simp at hz;omega,hs⟩|cons p aa ih=>
  intro ab out hl ho hs;rw[fm];have hpl:=qet (show p∈l by rw[hl];simp)
  split
  ·exact ih (ab++[p]) out (by rw[hl];simp) (by simp;omega) hs
  ·rw[← hl]
   cases hj:sf (cn p.1 l) with
   |none=>exact⟨by simp,by simp⟩|some v=>
    refine ih (ab++[p]) _ (by rw[hl];simp) (by simp;omega) (fun x hx => ?_)
    rcases List.mem_append.1 hx with g|g
    ·exact hs x g
    ·rw[List.mem_singleton.1 g];refine⟨by simp only;omega,?_⟩
     simp only;have hzf:=q3t (fun x=>lk x.1 p.1) l
     have hN:cn p.1 l=l.filter fun x=>lk x.1 p.1:=rfl
     rw[hN]at hj;generalize l.filter (fun x=>lk x.1 p.1)=A at hj hzf
     cases A with
     |nil=>cases hj
     |cons a A=>
      rw[qq4]at hj;split at hj
      ·split at hj
       ·cases hj
        have:=qet (qH (a:=a) (l:=A));omega
       ·cases hj
      ·cases hL:lx (ic (a::A)) 0 [] with
       |none=>rw[hL]at hj;cases hj
       |some w=>
        rw[hL]at hj;cases hj;have:=zx0 w.length false w;have hw:w.length<=cv (ic (a::A)):=by
         have hnum:=q1y _ _ _ _ hL;rw[q1z _ _ _ hnum]at hL;cases hL
         generalize ic (a::A)=q;clear hnum
         induction q with
         |nil=>simp|cons y q ih2=>
          have:=qk4 y;simp only[List.nil_append]at ih2 ⊢;rw[List.flatMap_cons,qM,qa8];omega
        have hq:cv (ic (a::A))<=cv (a::A):=by
         unfold ic
         cases ht:qn (a::A) with
         |none=>simp[cv]|some q=>
          have h1:=(zga q).1.map (·.1);simp only;rw[q3u h1]
          have e:q.map (·.1)=a::A:=by
           clear h1 hL hzf hw this;generalize a::A=B at ht
           induction B generalizing q with
           |nil=>cases ht;rfl
           |cons b B ih3=>
            rw[qn]at ht;split at ht
            ·cases hB:qn B with
             |none=>rw[hB]at ht;cases ht
             |some r=>rw[hB]at ht;cases ht;simp[ih3 r hB]
            ·cases ht
          rw[e];exact wF _
        show(vu [239,191,189] w.length false w).length<=4000000;omega
def q11{s:Bs}{m:dw}(h:up s=some m)(hs:s.length<=300000:=by omega):z8 m:=by
 unfold up at h
 cases hp:oo fo s with
 |none=>rw[hp]at h;cases h
 |some x=>
  rw[hp]at h;simp only at h;split at h
  ·cases h
   obtain⟨c,_,h2⟩:=zd7 hp;obtain⟨h3,_⟩:=zd8 hp;exact⟨by simp only;omega,by simp only;omega,zss x.2.2 (by omega) x.2.2 [] [] rfl (by simp) (by simp)⟩
  ·cases h
def zrr(fu:Nat)(hfu:90000000<=fu)(s:Bs)(h:s.length<=300000:=by omega):qfw fu s=some (match up s with|some m=>(m,true)|none=>bad):=by
 rw[zvg fu hfu s h];unfold up;have hR:=fun c=>ztk (s.length+1) [] c (by simp)
 unfold oo;simp only;by_cases hc:(bz tk s).1=[]\/(dd 47 (bz tk s).2).1=false\/(bz tk (dd 47 (bz tk s).2).2).1=[]
 ·rw[qX hc,qX hc]
 ·rw[qW hc,qW hc];obtain⟨r1,r2,r3⟩:=hR (bz tk (dd 47 (bz tk s).2).2).2
  cases hp:dh fo (s.length+1) [] (bz tk (dd 47 (bz tk s).2).2).2 with
  |none=>rw[r3 hp];rfl|some l=>
   simp only[wQ];have hsz:cv l<=s.length/\∀p∈l,nb p:=zd8 (s:=s) (m:=((bz tk s).1,(bz tk (dd 47 (bz tk s).2).2).1,l)) (by unfold oo;simp only;rw[qW hc,hp];rfl)
   have hll:=nq l;by_cases hall:∀p∈l,small p
   ·rw[r1 l hp hall];simp only[wQ];have:=zu9 fu hfu l (by omega) hsz.2 [] [] (bz tk s).1 (bz tk (dd 47 (bz tk s).2).2).1 fu [] l [] rfl (by omega) (by simp)
    rw[show(([]:List Pc).length:Int)=0 from rfl]at this
    rw[this];cases (fm [] l []).1<;>rfl
   ·have hb:∃p∈l,¬small p:=by
     apply Classical.byContradiction;intro hq;exact hall (fun p hp2=>Classical.byContradiction fun hq2=>hq ⟨p,hp2,hq2⟩)
    rw[r2 l hp hb,zsr l hsz.2 (by omega) hb];rfl
def ut(s:Bs):Option dw:=if 4000<s.length then none else match up s with|none=>none|some m=>if(f8 m).1≠0 then none else some m
def zrg(fu:Nat)(hfu:90000000<=fu)(s:Bs)(h:s.length<=4000000):∃R,qhw fu s=some R/\match ut s with
  |some m=>R = .inr (m.1,(m.2.1,(0,(0,m.2.2))))|none=>∃f:Int×Int,R = .inl ([],([],f))/\f.1≠0:=by
 unfold qhw ut;by_cases h4:4000<s.length
 ·rw[ag (by omega),qX h4];exact⟨_,rfl,_,rfl,by decide⟩
 rw[ap,qW h4]
 obtain⟨R,g1,g2⟩:=zro fu hfu (fun l=>fm [] l []) (fun l hl hn=>zso fu hfu l hl hn) s
 rw[g1,qB];have hfail:qaj R->∃R',(ck R (fun a3=>bif !a3.2.2 then(cw (11:Int) (-5:Int)).bind fun x5=>some (.inl (([]:Bs),(([]:Bs),x5))) else(tu fu (a3.1,(a3.2.1,[]))).bind fun x6=>(ew x6).bind fun x7=>bif x7 then(cw x6.1 (-6:Int)).bind fun x8=>some (.inl (([]:Bs),(([]:Bs),x8))) else(gq).bind fun x9=>some (.inl (a3.1,(a3.2.1,x9)))) (fun b4=>bif !b4.2.2.1 then(cw (11:Int) (-5:Int)).bind fun x10=>some (.inl (([]:Bs),(([]:Bs),x10))) else(tu fu (b4.1,(b4.2.1,b4.2.2.2))).bind fun x11=>(ew x11).bind fun x12=>bif x12 then(cw x11.1 (-6:Int)).bind fun x13=>some (.inl (([]:Bs),(([]:Bs),x13))) else(gq).bind fun qr=>some (.inr (b4.1,(b4.2.1,(qr.1,(qr.2,b4.2.2.2)))))):Option q8v)=some R'/\∃f:Int×Int,R' = .inl ([],([],f))/\f.1≠0:=by
  intro hf
  cases R with|inl x=>unfold qaj at hf;simp only at hf;simp only[ck,hf];exact⟨_,rfl,_,rfl,by decide⟩|inr x=>unfold qaj at hf;simp only at hf;simp only[ck,hf];exact⟨_,rfl,_,rfl,by decide⟩
 unfold up
 cases hp:oo fo s with
 |none=>rw[hp]at g2;exact hfail g2|some m=>
  rw[hp]at g2;simp only at g2 ⊢;by_cases ht:(fm [] m.2.2 []).1=true
  ·rw[qX ht]at g2;subst g2;have hsz:=q11 (s:=s) (m:=(m.1,(m.2.1,(fm [] m.2.2 []).2))) (by unfold up;rw[hp];simp only;rw[qX ht]) (by omega)
   simp only[ck,qX ht];rw[bn,q14 fu hfu _ hsz,qB,mw,qB,fh];by_cases h0:(f8 (m.1,(m.2.1,(fm [] m.2.2 []).2))).1≠0
   ·rw[qX h0,qX h0];exact⟨_,rfl,_,rfl,h0⟩
   ·rw[qW h0,qW h0];exact⟨_,rfl,rfl⟩
  ·rw[qW ht]at g2 ⊢;exact hfail g2
def ztd{s:Bs}{m:dw}(h:ut s=some m):z8 m/\(f8 m).1=0:=by
 unfold ut at h;split at h
 ·cases h
 ·rename_i h4
  cases hm:up s with
  |none=>rw[hm]at h;cases h
  |some x=>
   rw[hm]at h;simp only at h;split at h
   ·cases h
   ·rename_i h0;cases h
    exact⟨q11 hm,Classical.byContradiction h0⟩
open Go.Lib (decDigits itoa validD)
def two(c:UInt8):Bs:=(y6 c).getD []
def zg3:∀n:_root_.Fin 256,y6 (UInt8.ofNat n.val)=some (two (UInt8.ofNat n.val))/\(two (UInt8.ofNat n.val)).length=2:=by decide +kernel
def zxi(c:UInt8):y6 c=some (two c):=(pl (fun c=>y6 c=some (two c)/\(two c).length=2) zg3 c).1
def zg5(c:UInt8):(two c).length=2:=(pl (fun c=>y6 c=some (two c)/\(two c).length=2) zg3 c).2
def dgH(c:UInt8):UInt8:=(o7 (tc c (min (4:Int).toNat 8))).getD 0
def dgL(c:UInt8):UInt8:=(o7 c).getD 0
def zoj:∀n:_root_.Fin 256,o7 (tc (UInt8.ofNat n.val) (min (4:Int).toNat 8))=some (dgH (UInt8.ofNat n.val))/\o7 (UInt8.ofNat n.val)=some (dgL (UInt8.ofNat n.val))/\[dgH (UInt8.ofNat n.val),dgL (UInt8.ofNat n.val)]=two (UInt8.ofNat n.val):=by decide +kernel
def zok(c:UInt8):o7 (tc c (min (4:Int).toNat 8))=some (dgH c)/\o7 c=some (dgL c)/\[dgH c,dgL c]=two c:=
 pl (fun c=>o7 (tc c (min (4:Int).toNat 8))=some (dgH c)/\o7 c=some (dgL c)/\[dgH c,dgL c]=two c) zoj c
def ja(c:UInt8):Bs:=if tk c=true then[c] else 37::two c
def q35(c:UInt8):1<=(ja c).length/\(ja c).length<=3:=by
 unfold ja;split
 ·simp
 ·rw[qL,zg5];omega
def gf(cur:Bs):Bs->List Bs|[]=>[cur]|c::t=>if cur.length+(ja c).length<=60 then gf (cur++ja c) t else cur::gf (ja c) t
def qrl:∀(t cur:Bs),(gf cur t).length<=t.length+1/\1<=(gf cur t).length
 |[],_=>by simp[gf]|c::t,cur=>by
  rw[gf];split
  ·have:=qrl t (cur++ja c);simp only[qL];omega
  ·have:=qrl t (ja c);simp only[qL];omega
def qrm:∀(t cur:Bs),cur.length<=60->∀x∈gf cur t,x.length<=60
 |[],cur,h,x,hx=>by rw[gf,List.mem_singleton]at hx;rw[hx];exact h|c::t,cur,h,x,hx=>by
  have hu:=q35 c;rw[gf]at hx;split at hx
  ·exact qrm t _ (by rw[qM];omega) x hx
  ·rcases List.mem_cons.1 hx with e|e
   ·rw[e];exact h
   ·exact qrm t _ (by omega) x e
def lz(nm:Bs):Nat->List Bs->Bs|_,[]=>[]|n,p::ps=>(((((([59,32]:Bs)++nm)++([42]:Bs))++decDigits n)++([42,61]:Bs))++p)++lz nm (n+1) ps
def zdr(nm:Bs)(hn:nm.length<=1000):∀(ps:List Bs)(n:Nat),n+ps.length<=100000000->(∀x∈ps,x.length<=60)->(lz nm n ps).length<=ps.length*1200
 |[],_,_,_=>by simp[lz]|p::ps,n,h,hs=>by
  simp only[qL]at h;have h1:=zdr nm hn ps (n+1) (by omega) (fun x hx=>hs x (qE _ hx))
  have h2:=hs p qH;have h3:=qjw 9 n (by omega) (by omega)
  rw[lz];simp only[qM,qL,qZ];omega
def zs9(fu n:Nat):∀(ab aa cur:Bs)(done:List Bs),aa.length<n->ab.length+aa.length<1000000->done.length<=ab.length->cur.length<=60 ->
  qcs fu n (ab++aa) ((ab.length+aa.length:Nat):Int) (ab.length:Int) (done++[cur])=some (done++gf cur aa):=by
 have hrm:=gh
 induction n with
 |zero=>intro ab aa cur done h;omega|succ n ih=>
  intro ab aa cur done h hb hd hc;rw[qcs,qwo]
  cases aa with
  |nil=>rw[ap];rfl|cons c t=>
   simp only[qL]at h hb;have hu:=q35 c;have e:(ab.length+(c::t).length:Nat)=ab.length+1+t.length:=by simp only[qL];omega
   have p1:qh7 fu (qcs fu n) (ab++c::t) (ja c) ((ab.length+(c::t).length:Nat):Int) (ab.length:Int) (done++[cur])=some (done++gf cur (c::t)):=by
    have hl:(((done++[cur]).length:Nat):Int)-1=(done.length:Int):=by simp
    rw[qh7,hl,d7,ag (by simp),ii,qB,ow _ _,gf,aw _,e]
    have st:=fun cur' done'(h1:done'.length<=ab.length+1)(h2:cur'.length<=60)=>ih (ab++[c]) t cur' done' (by omega) (by simp;omega) (by simpa using h1) h2
    simp only[qM,qL,qZ,qS,wM,wO]at st;by_cases h60:cur.length+(ja c).length<=60
    ·rw[ag (by omega),qX h60,ag (by simp),qB,ag (by simp only[ar];omega),ag (by simp),qB,qk]
     exact st (cur++ja c) done (by omega) (by rw[qM];omega)
    ·rw[ap,qW h60,ag (by simp only[qM,qL,qZ];omega)]
     have:=st (ja c) (done++[cur]) (by simp;omega) (by omega)
     refine this.trans ?_;simp
   rw[ag (by simp only[qL];omega),aw _,ag (by rw[cd];omega),bf,qB,qk5,qB,qkz]
   rw[ja]at p1;obtain⟨d1,d2,d3⟩:=zok c;cases hk:tk c
   ·rw[cr,qB,d1,qB,qB,d2,qB];rw[hk,qW (by simp),← d3]at p1
    exact p1
   ·rw[bn];rw[hk,qX rfl]at p1;exact p1
def qf:Bs:=[117,116,102,56,39,39]
def zrp(fu:Nat)(hfu:90000000<=fu)(v:Bs)(h:v.length<=500000:=by omega):qnt fu v=some (gf qf v):=by
 have:=zs9 fu fu [] v qf [] (by omega) (by simp;omega) (by simp) (by decide)
 simpa [qnt,qf] using this
def gg(c:UInt8):Bool:=decide (32<=c)&&decide (c<=126)
def ztj(c:UInt8):qh0 c=some (gg c):=by unfold qh0 gg;by_cases h:(32:UInt8)<=c<;>simp[h]
def zl6(fu:Nat)(s:Bs)(h:s.length<fu:=by omega)(hb:s.length<9223372036854775807:=by omega):qnb fu s=some (s.all gg):=by
 have e:∀n,qhf fu n=qab qh0 n:=by
  intro n;induction n with|zero=>rfl|succ n ih=>rw[qhf,ih];funext a b c;rfl
 unfold qnb;rw[e];exact qzm _ _ ztj _ _ h hb
def quo(s:Bs):Bs:=eh 92 34 [92,92] [92,34] s
def q21(s:Bs):(quo s).length<=2*s.length:=by
 unfold quo;rw[qqb (by decide)]
 have h1:=List.count_le_length (a:=(92:UInt8)) (l:=s);unfold jg;have:List.count 92 s+List.count 34 s<=s.length:=by
  induction s with
  |nil=>simp|cons c s ih=>
   have h1:=List.count_le_length (a:=(92:UInt8)) (l:=s);have:=ih h1;simp only[List.count_cons,qL];by_cases e:c=92
   ·subst e;simp;omega
   ·have:(c==92)=false:=by simpa using e
    rw[this];simp only[wJ,if_false];split<;>omega
 omega
def l7(p:bt):Bs:=if eu p.2=true then((([59,32]:Bs)++p.1)++([61]:Bs))++p.2
 else if p.2.length<=60/\p.2.all gg=true then((((([59,32]:Bs)++p.1)++([61,34]:Bs))++quo p.2)++([34]:Bs))
 else lz p.1 0 (gf qf p.2)
def zsm(fu n:Nat)(z:bt)(hz:z.1.length<=1000):∀(ab aa:List Bs)(out:Bs),aa.length<n->ab.length+aa.length<1000000->out.length<=ab.length*1200->(∀x∈aa,x.length<=60) ->
  qh1 fu n out ((ab.length+aa.length:Nat):Int) (ab.length:Int) z (ab++aa)=some (out++lz z.1 ab.length aa):=by
 induction n with
 |zero=>intro ab aa out h;omega|succ n ih=>
  intro ab aa out h hb ho hs;rw[qh1,qwh]
  cases aa with
  |nil=>rw[ap];simp[lz]|cons p t=>
   simp only[qL]at h hb;have hp:=hs p qH;have hd:=qjw 9 ab.length (by omega) (by omega)
   rw[ag (by simp only[qL];omega),ag (by simp),ii,qB,ag (by simp[ar];omega),ag (by simp[ar];omega)]
   have hi:tw (ab.length:Int)=some (decDigits ab.length):=by unfold tw;rw[ag (by omega),q1j]
   rw[hi,qB,ag (by simp[ar];omega),ag (by simp[ar];omega),ag (by simp[ar];omega),ag (by simp[ar];omega),aw _]
   have st:=ih (ab++[p]) t (out++((((((([59,32]:Bs)++z.1)++([42]:Bs))++decDigits ab.length)++([42,61]:Bs))++p))) (by omega) (by simp;omega) (by simp only[qM,qL,qZ];omega) (fun x hx=>hs x (qE _ hx))
   simp only[qM,qL,qZ,wO]at st;rw[show(ab.length+(p::t).length:Nat)=ab.length+1+t.length by simp only[qL];omega]
   rw[show(ab++[p])++t=ab++p::t by simp]at st
   refine st.trans ?_;rw[lz,qS]
def zsn(fu:Nat)(hfu:90000000<=fu)(p:bt)(h1:p.1.length<=1000)(h2:p.2.length<=100000):qnq fu p=some (l7 p):=by
 unfold qnq l7;rw[qsd fu _,qB]
 cases ht:eu p.2
 ·rw[ax rfl,qW (by simp)]
  have hno:qco fu false p=some (lz p.1 0 (gf qf p.2)):=by
   rw[qco,ax rfl,qwi,zrp fu hfu _,qB]
   have hl:=qrl p.2 qf;have:=zsm fu fu p h1 [] (gf qf p.2) [] (by omega) (by simp;omega) (by simp) (qrm _ _ (by decide))
   simpa using this
  by_cases h60:p.2.length<=60
  ·rw[ag (by omega),zl6 fu _,qB]
   cases ha:p.2.all gg
   ·rw[hno,qW (by simp)]
   ·rw[qX ⟨h60,rfl⟩,qco,au rfl,ag (by simp[ar];omega),ag (by simp[ar];omega)]
    have hq:=q21 p.2;rw[show qiu ([([92]:Bs),([92,92]:Bs),([34]:Bs),([92,34]:Bs)]:List Bs)=some (0,0,0,[[92],[92,92],[34],[92,34]]) by rfl,qB]
    have hr:vz p.2 0 0 0 [[92],[92,92],[34],[92,34]]=some (quo p.2):=by
     unfold vz quo;simp only;rw[ag (by refine⟨?_,?_,by decide,by omega⟩<;>first|rfl|trivial)]
    rw[hr,qB,ag (by simp[ar];omega),ag (by simp[ar];omega)]
  ·rw[ap,hno,qW (by omega)]
 ·rw[au rfl,qX rfl,ag (by simp[ar];omega),ag (by simp[ar];omega),ag (by simp[ar];omega)]
def zeg(p:bt)(h1:p.1.length<=1000)(h2:p.2.length<=100000):(l7 p).length<=200000000:=by
 have hq:=q21 p.2;have hl:=qrl p.2 qf;have hn:=zdr p.1 h1 (gf qf p.2) 0 (by omega) (qrm _ _ (by decide))
 unfold l7;split
 ·simp;omega
 ·split
  ·simp;omega
  ·omega
def dz(m:dw):Bs:=((m.1++([47]:Bs))++m.2.1)++m.2.2.flatMap l7
def SmV(m:dw):Prop:=m.1.length<=1000/\m.2.1.length<=1000/\m.2.2.length<=1000/\∀p∈m.2.2,p.1.length<=1000/\p.2.length<=100000
def zgw{s:Bs}(h:eu s=true):s.length<=60:=by unfold eu at h;simp at h;exact h.1.2
def zd6:∀(l ab:List bt),(l5 ab l).1=0->∀p∈l,eu p.1=true/\p.1.length<=20/\p.2.length<=500/\validD p.2=true
 |[],_,_,p,hp=>by cases hp
 |q::l,ab,h,p,hp=>by
  rw[l5]at h;split at h
  ·cases h
  ·split at h
   ·cases h
   ·split at h
    ·cases h
    ·split at h
     ·cases h
     ·rename_i g1 g2 g3 g4;rcases List.mem_cons.1 hp with e|e
      ·subst e;refine⟨?_,by omega,by omega,?_⟩
       ·cases hh:eu p.1
        ·exact absurd (.inl hh) g1
        ·rfl
       ·cases hh:validD p.2
        ·exact absurd hh g4
        ·rfl
      ·exact zd6 l _ h p e
def zc6{m:dw}(h:(f8 m).1=0):eu m.1=true/\eu m.2.1=true/\m.2.2.length<=60/\∀p∈m.2.2,eu p.1=true/\p.1.length<=20/\p.2.length<=500/\validD p.2=true:=by
 unfold f8 at h;split at h
 ·cases h
 ·split at h
  ·cases h
  ·rename_i g1 g2;refine⟨?_,?_,by omega,zd6 _ _ h⟩
   ·cases hh:eu m.1
    ·exact absurd (.inl hh) g1
    ·rfl
   ·cases hh:eu m.2.1
    ·exact absurd (.inr hh) g1
    ·rfl
def sq{m:dw}(h:(f8 m).1=0):SmV m:=by
 obtain⟨h1,h2,h3,h4⟩:=zc6 h;have:=zgw h1;have:=zgw h2;exact⟨by omega,by omega,by omega,fun p hp=>by have:=h4 p hp;omega⟩
def SmV.smD{m:dw}(h:SmV m):z8 m:=⟨by have:=h.1;omega,by have:=h.2.1;omega,by have:=h.2.2.1;omega,fun x hx=>by have:=h.2.2.2 x hx;omega⟩
def zti(fu n:Nat)(hfu:90000000<=fu)(z:Int×Int):∀(ab aa:List bt)(out:Bs),aa.length<n->ab.length+aa.length<=1000->(∀p∈aa,p.1.length<=1000/\p.2.length<=100000)->out.length<=3000+ab.length*200000000 ->
  qhx fu n out (ab++aa) ((ab.length+aa.length:Nat):Int) (ab.length:Int) z=some (if 4000<(out++aa.flatMap l7).length then([],(1,-4)) else(out++aa.flatMap l7,(0,0))):=by
 induction n with
 |zero=>intro ab aa out h;omega|succ n ih=>
  intro ab aa out h hb hs ho;rw[qhx,qwc]
  cases aa with
  |nil=>
   rw[ap]
   simp only[List.flatMap_nil,List.append_nil];by_cases h4:4000<out.length
   ·rw[ag (by omega),qX h4,qb];rfl
   ·rw[ap,qW h4,zrl];rfl
  |cons p t=>
   simp only[qL]at h hb;have hp:=hs p qH;have hpl:=zeg p hp.1 hp.2;rw[ag (by simp only[qL];omega),bf,qB,zsn fu hfu p hp.1 hp.2,qB,ag (by simp only[ar];omega),aw _]
   have st:=ih (ab++[p]) t (out++l7 p) (by omega) (by simp;omega) (fun x hx=>hs x (qE _ hx)) (by simp;omega)
   simp only[qM,qL,qZ,wO]at st;rw[show(ab++[p])++t=ab++p::t by simp]at st
   rw[show(ab.length+(p::t).length:Nat)=ab.length+1+t.length by simp only[qL];omega]
   refine st.trans ?_;simp only[List.flatMap_cons,qS,qM,Nat.add_assoc]
def zee(fu:Nat)(hfu:90000000<=fu)(m:dw)(hs:z8 m):vp fu m=some (if(f8 m).1≠0 then([],f8 m) else if 4000<(dz m).length then([],(1,-4)) else(dz m,(0,0))):=by
 unfold vp;rw[q14 fu hfu m hs,qB,mw,qB,fh];by_cases h:(f8 m).1≠0
 ·rw[qX h,qX h]
 ·rw[qW h,qW h];obtain⟨g1,g2,g3,g4⟩:=sq (m:=m) (by omega)
  rw[ag (by simp[ar];omega),ag (by simp[ar];omega)]
  have:=zti fu fu hfu (0,0) [] m.2.2 ((m.1++([47]:Bs))++m.2.1) (by omega) (by simp;omega) g4 (by simp;omega)
  simpa [dz] using this
def ztw(fu n:Nat):∀(ab aa out:Bs),aa.length<n->ab.length+aa.length<1000000->out.length<=1+2*ab.length ->
  yv fu n (ab++aa) out (ab.length:Int)=some ((out++quo aa)++[34]):=by
 induction n with
 |zero=>intro ab aa out h;omega|succ n ih=>
  intro ab aa out h hb ho;rw[yv,quf]
  cases aa with
  |nil=>rw[ap,ag (by simp[ar];omega)];simp[quo,eh]|cons c t=>
   simp only[qL]at h hb;have st:=fun o(ho:List.length o<=1+2*(ab.length+1))=>ih (ab++[c]) t o (by omega) (by simp;omega) (by simpa using ho)
   simp only[qM,qL,qZ,qS,wM,wO]at st;have y:yw fu (yv fu n) (ab++c::t) out (ab.length:Int) true=some ((out++([92,c]++quo t))++[34]):=by
    rw[yw,au rfl,ag (by simp[ar];omega),aw _,ag (by rw[cd];omega),qkz,ag (by simp[ar];omega)]
    refine(st (out++[92]++[c]) (by simp;omega)).trans ?_
    simp
   have nn:yw fu (yv fu n) (ab++c::t) out (ab.length:Int) false=some ((out++([c]++quo t))++[34]):=by
    rw[yw,ax rfl,aw _,ag (by rw[cd];omega),qkz,ag (by simp[ar];omega)]
    refine(st (out++[c]) (by simp;omega)).trans ?_
    simp
   have hq:quo (c::t)=pq 92 34 [92,92] [92,34] c++quo t:=by unfold quo eh;rw[List.flatMap_cons]
   rw[ag (by rw[cd];omega),bf,qB,jz,hq]
   unfold pq;by_cases h1:c=34
   ·subst h1;rw[qX rfl,y];rfl
   ·rw[qW h1,qB];by_cases h2:c=92
    ·subst h2;rw[show((92:UInt8)==92)=true from rfl,y];rfl
    ·rw[show(c==92)=false by simpa using h2,nn,qW h2,qW h1]
def zvd(fu:Nat)(hfu:90000000<=fu)(s:Bs)(h:s.length<=100000):qmn fu s=some (([34]++quo s)++[34]):=by
 have:=ztw fu fu [] s [34] (by omega) (by simp;omega) (by simp)
 simpa [qmn] using this
def zvb(fu n:Nat)(hfu:90000000<=fu)(z:bt)(hz:z.1.length<=1000):∀(ab aa cur out:Bs)(k:Nat),z.2=ab++aa->aa.length<n->z.2.length<=100000->k<=ab.length->cur.length<=60->out.length<=k*1200 ->
  qbx fu n out cur (k:Int) (ab.length:Int) z=some (out++lz z.1 k (gf cur aa)):=by
 induction n with
 |zero=>intro ab aa cur out k _ h;omega|succ n ih=>
  intro ab aa cur out k hzz h hb hk hc ho;have ac:z.2.length=ab.length+aa.length:=by rw[hzz];simp
  have hd:=qjw 9 k (by omega) (by omega)
  rw[qbx,que]
  cases aa with
  |nil=>
   rw[ap (by simp only[qZ]at ac;omega),ag (by simp[ar];omega),ag (by simp[ar];omega),ag (by simp[ar];omega),q2d fu (by omega) k,qB,ag (by simp[ar];omega),ag (by simp[ar];omega),ag (by simp[ar];omega)]
   rw[gf,lz,lz];simp
  |cons c t=>
   simp only[qL]at h ac;have hu:=q35 c;have hx:am z.2 (ab.length:Int)=some c:=by rw[hzz];exact bf ab c t
   have st:=fun cur' out' k'(h1:k'<=ab.length+1)(h2:List.length cur'<=60)(h3:List.length out'<=k'*1200)=>ih (ab++[c]) t cur' out' k' (by rw[hzz];simp) (by omega) hb (by simpa using h1) h2 h3
   simp only[qM,qL,qZ,wO]at st;have p3:qga fu (qbx fu n) out cur (k:Int) (ab.length:Int) (ja c) z=some (out++lz z.1 k (gf cur (c::t))):=by
    rw[qga,ow _ _,gf]
    by_cases h60:cur.length+(ja c).length<=60
    ·rw[ap,qX h60,qgb,ag (by simp only[ar];omega),qmm,aw _]
     exact st (cur++ja c) out k (by omega) (by rw[qM];omega) ho
    ·rw[ag (by omega),qW h60,ag (by simp[ar];omega),ag (by simp[ar];omega),ag (by simp[ar];omega),q2d fu (by omega) k,qB,ag (by simp[ar];omega),ag (by simp[ar];omega),ag (by simp[ar];omega),qgb,ag (by simp[ar];omega),qmm,aw _,aw _,List.nil_append]
     refine(st (ja c) _ (k+1) (by omega) (by omega) (by simp only[qM,qL,qZ];omega)).trans ?_
     rw[lz];simp
   rw[ag (by omega),hx,qB,zxi,qB,ag (by rw[zg5];simp[ar]),qB,q3g fu (by omega),qB]
   rw[ja]at p3;cases hk2:tk c
   ·rw[ax rfl];rw[hk2,qW (by simp)]at p3
    exact p3
   ·rw[au rfl,aw _,ag (by omega)]
    rw[hk2,qX rfl]at p3;have e:List.take (((ab.length+1:Nat):Int).toNat-((ab.length:Nat):Int).toNat) (List.drop ((ab.length:Nat):Int).toNat z.2)=[c]:=by rw[hzz];exact qkz ab c t
    rw[e];exact p3
def zva(fu n:Nat)(hfu:90000000<=fu)(z:bt)(hz:z.1.length<=1000)(hb:z.2.length<=100000)(ht:eu z.2=false):∀(ab aa:Bs)(f:Bool),z.2=ab++aa->aa.length<n->f=(decide (z.2.length<=60)&&ab.all gg) ->
  qf8 fu n f (ab.length:Int) z=some (l7 z):=by
 induction n with
 |zero=>intro ab aa f _ h;omega|succ n ih=>
  intro ab aa f hzz h hf;have ac:z.2.length=ab.length+aa.length:=by rw[hzz];simp
  rw[qf8,qud]
  cases aa with
  |nil=>
   rw[List.append_nil]at hzz;rw[ap (by simp only[qZ]at ac;omega),hf]
   unfold l7;rw[ht,qW (by simp),← hzz]
   cases hc:(decide (z.2.length<=60)&&z.2.all gg)
   ·rw[ax rfl,qW (by intro q;rw[q.2,decide_eq_true q.1]at hc;cases hc)]
    have:=zvb fu fu hfu z hz [] z.2 qf [] 0 rfl (by omega) hb (by simp) (by decide) (by simp)
    simpa [qf] using this
   ·rw[qA,decide_eq_true_eq]at hc;have hq:=q21 z.2;rw[au rfl,qX hc,ag (by simp[ar];omega),ag (by simp[ar];omega),zvd fu hfu _ hb,qB,ag (by simp[ar];omega)]
    simp
  |cons c t=>
   simp only[qL]at h ac;have hx:am z.2 (ab.length:Int)=some c:=by rw[hzz];exact bf ab c t
   have st:=fun f'(hf':f'=(decide (z.2.length<=60)&&(ab++[c]).all gg))=>ih (ab++[c]) t f' (by rw[hzz];simp) (by omega) hf'
   simp only[qM,qL,qZ,wO]at st;have hp:(decide (32<=(c.toNat:Int)/\(c.toNat:Int)<=126))=gg c:=by
    unfold gg;rw[Bool.eq_iff_iff];simp only[decide_eq_true_eq,qA,UInt8.le_iff_toNat_le];show _↔32<=c.toNat/\c.toNat<=126;omega
   rw[ag (by omega)]
   cases f
   ·rw[ax rfl,qf9,aw _]
    exact st false (by
     rw[List.all_append];cases h1:decide (z.2.length<=60)
     ·rfl
     ·rw[h1,Bool.true_and]at hf;rw[← hf];rfl)
   ·rw[au rfl,hx,qB,np,hp,qB,qf9,aw _]
    exact st (gg c) (by
     rw[List.all_append,← Bool.and_assoc,← hf];simp)
def zu8(fu:Nat)(hfu:90000000<=fu)(p:bt)(h1:p.1.length<=1000)(h2:p.2.length<=100000):qml fu p=some (l7 p):=by
 unfold qml;rw[qr3 fu (by omega) _,qB]
 cases ht:eu p.2
 ·rw[ax rfl];exact zva fu fu hfu p h1 h2 ht [] p.2 _ rfl (by omega) (by simp;omega)
 ·rw[au rfl,ag (by simp[ar];omega),ag (by simp[ar];omega),ag (by simp[ar];omega)]
  unfold l7;rw[qX ht]
def zuy(fu n:Nat)(hfu:90000000<=fu)(m:dw)(hs:SmV m):∀(ab aa:List bt)(out:Bs),m.2.2=ab++aa->aa.length<n->out.length<=3000+ab.length*200000000 ->
  qf6 fu n out (ab.length:Int) m=some (out++aa.flatMap l7):=by
 induction n with
 |zero=>intro ab aa out _ h;omega|succ n ih=>
  intro ab aa out hm h ho;have hl:=hs.2.2.1;have ac:m.2.2.length=ab.length+aa.length:=by rw[hm];simp
  rw[qf6,qub]
  cases aa with
  |nil=>rw[ap (by simp only[qZ]at ac;omega)];simp|cons p t=>
   simp only[qL]at h ac;have hp:=hs.2.2.2 p (by rw[hm];simp)
   have hpl:=zeg p hp.1 hp.2;have hx:am m.2.2 (ab.length:Int)=some p:=by rw[hm];exact bf ab p t
   rw[ag (by omega),hx,qB,zu8 fu hfu p hp.1 hp.2,qB,ag (by simp only[ar];omega),aw _]
   have st:=ih (ab++[p]) t (out++l7 p) (by rw[hm];simp) (by omega) (by simp;omega)
   simp only[qM,qL,qZ,wO]at st;refine st.trans ?_;rw[List.flatMap_cons,qS]
def zff(fu:Nat)(hfu:90000000<=fu)(m:dw)(hs:SmV m):qf5 fu m=some (dz m):=by
 obtain⟨g1,g2,g3,g4⟩:=hs;unfold qf5;rw[ag (by simp[ar];omega),ag (by simp[ar];omega)]
 have:=zuy fu fu hfu m ⟨g1,g2,g3,g4⟩ [] m.2.2 ((m.1++([47]:Bs))++m.2.1) rfl (by omega) (by simp;omega)
 simpa [dz] using this
end Go.Sym
namespace Go.Sym
abbrev bp:Bs:=[67,111,110,116,101,110,116,45,84,121,112,101]
abbrev ctn:Bs:=[99,111,110,116,101,110,116,45,116,121,112,101]
abbrev mpN:Bs:=[109,117,108,116,105,112,97,114,116]
abbrev dq:Bs:=[98,111,117,110,100,97,114,121]
def zhc(l:List aq):du l ctn=du l bp:=rfl
def gp(l:List aq):Option dw:=match du l bp with|[v]=>ut v|_=>none
def tyP(fu:Nat)(k:Int)(v:Bs):Option qoz:=(qhw fu v).bind fun x4=>ck x4 (fun a5=>(ew a5.2.2).bind fun x7=>some (.inl (a5.1,(a5.2.1,(k,!x7))))) (fun b6=>(ew (b6.2.2.1,b6.2.2.2.1)).bind fun x8=>some (.inr (b6.1,(b6.2.1,(k,(!x8,b6.2.2.2.2))))))
def zxl(fu:Nat)(hfu:90000000<=fu)(k:Int)(v:Bs)(h:v.length<=4000000):tyP fu k v=some (match ut v with|some m => .inr (m.1,(m.2.1,(k,(true,m.2.2))))|none => .inl ([],([],(k,false)))):=by
 unfold tyP;obtain⟨R,h1,h2⟩:=zrg fu hfu v h;rw[h1,qB]
 cases hp:ut v with
 |none=>
  rw[hp]at h2;obtain⟨f,rfl,hf⟩:=h2;simp only[ck,mw,qB];have:(f.1 != 0)=true:=by simpa using hf
  rw[this];rfl
 |some m=>rw[hp]at h2;simp only at h2;subst h2;rfl
section typ
variable(fu:Nat)(hfu:90000000<=fu)(l:List aq)(hs:∀x∈l,x.1.length<=4000000/\x.2.length<=4000000)(hl:l.length<=4000000)
include hfu hs hl
def zxn(k:Nat)(y:aq)(hy:am l (k:Int)=some y)(n:Nat):∀(ab aa:List aq),l=ab++aa->aa.length<n ->
  vx fu n l (k:Int) (ab++aa) ((ab.length+aa.length:Nat):Int) (ab.length:Int) [] []=if du aa bp=[] then tyP fu (k:Int) y.2 else some (.inl ([],([],(0,false)))):=by
 induction n with
 |zero=>intro ab aa _ h;omega|succ n ih=>
  intro ab aa hp h;have ac:l.length=ab.length+aa.length:=by rw[hp];simp
  rw[vx,qnz]
  cases aa with
  |nil=>rw[ap,ap,hy,qB,show du [] bp=[] from rfl,qX rfl];rfl|cons x t=>
   simp only[qL]at h ac;have hx:=hs x (by rw[hp];simp)
   have st:=ih (ab++[x]) t (by rw[hp];simp) (by omega)
   simp only[qM,qL,qZ,qS,wM,wO]at st;rw[ag (by simp only[qL];omega),bf,qB,qj fu hfu _ _ hx.1 (by simp),qB,xu]
   cases hk:lk x.1 bp
   ·rw[ax rfl,qcu,aw _,qW (show ¬((x.1.map lo==bp.map lo)=true) by show ¬lk x.1 bp=true;rw[hk];simp),show(ab.length+(x::t).length:Nat)=ab.length+1+t.length by simp only[qL];omega]
    exact st
   ·rw[au rfl,ag (by omega),qX (show(x.1.map lo==bp.map lo)=true from hk),qW (by simp)]
def zxm(n:Nat):∀(ab aa:List aq),l=ab++aa->aa.length<n ->
  (du aa bp=[]->vx fu n l (-1) (ab++aa) ((ab.length+aa.length:Nat):Int) (ab.length:Int) [] []=some (.inl ([],([],(0,false))))) /\
  (∀u x w,aa=u++x::w->du u bp=[]->lk x.1 bp=true->vx fu n l (-1) (ab++aa) ((ab.length+aa.length:Nat):Int) (ab.length:Int) [] []=if du w bp=[] then tyP fu ((ab.length+u.length:Nat):Int) x.2 else some (.inl ([],([],(0,false))))):=by
 induction n with
 |zero=>intro ab aa _ h;omega|succ n ih=>
  intro ab aa hp h;have ac:l.length=ab.length+aa.length:=by rw[hp];simp
  rw[vx,qnz]
  cases aa with
  |nil=>exact⟨fun _=>by rw[ap,ag (by omega)],fun u x w e=>by simp at e⟩
  |cons y t=>
   simp only[qL]at h ac;have hy:=hs y (by rw[hp];simp)
   obtain⟨s1,s2⟩:=ih (ab++[y]) t (by rw[hp];simp) (by omega)
   simp only[qM,qL,qZ,qS,wM,wO]at s1 s2;rw[ag (by simp only[qL];omega),bf,qB,qj fu hfu _ _ hy.1 (by simp),qB,xu,show(ab.length+(y::t).length:Nat)=ab.length+1+t.length by simp only[qL];omega]
   cases hk:lk y.1 bp
   ·rw[ax rfl,qcu,aw _,qW (show ¬((y.1.map lo==bp.map lo)=true) by show ¬lk y.1 bp=true;rw[hk];simp)]
    refine⟨s1,fun u x w e hu hx => ?_⟩
    cases u with
    |nil=>rw[List.nil_append,List.cons.injEq]at e;rw[e.1,hx]at hk;cases hk
    |cons z u=>
     rw[wK,List.cons.injEq]at e;obtain⟨rfl,e⟩:=e;rw[xu,qW (show ¬((y.1.map lo==bp.map lo)=true) by show ¬lk y.1 bp=true;rw[hk];simp)]at hu
     have:=s2 u x w e hu hx;rw[show(ab.length+(y::u).length:Nat)=ab.length+1+u.length by simp only[qL];omega]
     exact this
   ·rw[au rfl,ap,qcu,aw _,qX (show(y.1.map lo==bp.map lo)=true from hk)]
    refine⟨fun e=>by simp at e,fun u x w e hu hx => ?_⟩
    cases u with
    |nil=>
     rw[List.nil_append,List.cons.injEq]at e;obtain⟨rfl,rfl⟩:=e;have:=zxn fu hfu l hs hl ab.length y (by rw[hp];exact bf ab y t) n (ab++[y]) t (by rw[hp];simp) (by omega)
     simp only[qM,qL,qZ,qS,wM,wO]at this;exact this
    |cons z u=>
     rw[wK,List.cons.injEq]at e;obtain⟨rfl,e⟩:=e;rw[xu,qX (show(y.1.map lo==bp.map lo)=true from hk)]at hu
     simp at hu
def q34:∃R,zj fu l=some R/\match gp l with
  |some m=>∃ab x aa,l=ab++x::aa/\du l bp=[x.2]/\lk x.1 bp=true/\du ab bp=[]/\du aa bp=[]/\R = .inr (m.1,(m.2.1,((ab.length:Int),(true,m.2.2))))|none=>∃k,R = .inl ([],([],(k,false))):=by
 obtain⟨h1,h2⟩:=zxm fu hfu l hs hl fu [] l rfl (by omega)
 simp only[List.nil_append,qZ,wO]at h1 h2;unfold zj;rw[show((0:Nat):Int)=0 from rfl]at h1 h2
 have hd:du l bp=[]\/∃u x w,l=u++x::w/\du u bp=[]/\lk x.1 bp=true:=by
  clear h1 h2 hs hl
  induction l with
  |nil=>exact .inl rfl|cons y t ih=>
   rw[xu];cases hk:lk y.1 bp
   ·rw[qW (show ¬((y.1.map lo==bp.map lo)=true) by show ¬lk y.1 bp=true;rw[hk];simp)]
    rcases ih with g|⟨u,x,w,e,g1,g2⟩
    ·exact .inl g
    ·exact .inr ⟨y::u,x,w,by rw[e];rfl,by rw[xu,qW (show ¬((y.1.map lo==bp.map lo)=true) by show ¬lk y.1 bp=true;rw[hk];simp)];exact g1,g2⟩
   ·exact .inr ⟨[],y,t,rfl,rfl,hk⟩
 have vapp:∀(u w:List aq)(x:aq),lk x.1 bp=true->du (u++x::w) bp=du u bp++x.2::du w bp:=fun u w x hx=>by
  unfold du;rw[List.filter_append,List.filter_cons,qX (show(x.1.map lo==bp.map lo)=true from hx),List.map_append];rfl
 rcases hd with g|⟨u,x,w,e,g1,g2⟩
 ·refine⟨_,h1 g,?_⟩;unfold gp;rw[g];exact⟨0,rfl⟩
 ·have hr:=h2 u x w e g1 g2;have hv:=vapp u w x g2;rw[← e,g1,List.nil_append]at hv;by_cases hw:du w bp=[]
  ·rw[qX hw,zxl fu hfu _ _ (hs x (by rw[e];simp)).2]at hr
   refine⟨_,hr,?_⟩;rw[hw]at hv;unfold gp;rw[hv];simp only
   cases hp:ut x.2 with|none=>exact⟨_,rfl⟩|some m=>exact⟨u,x,w,e,rfl,g2,g1,hw,rfl⟩
  ·rw[qW hw]at hr;refine⟨_,hr,?_⟩;unfold gp;rw[hv]
   cases hh:du w bp with|nil=>exact absurd hh hw|cons=>exact⟨0,rfl⟩
end typ
def qey{l:List aq}{m:dw}(h:gp l=some m):(f8 m).1=0:=by
 unfold gp at h;split at h
 ·exact(ztd h).2
 ·cases h
def q33(fu:Nat)(hfu:90000000<=fu)(l:List aq)(hs:mj l):qcd fu l=some (match gp l with|some m=>(m,true)|none=>(([],([],[])),false)):=by
 unfold qcd;rw[zhd fu hfu l ctn (by simp) hs,qB,zhc,fh]
 unfold gp
 cases hv:du l bp with
 |nil=>rw[qX (by simp)];rfl|cons v t=>
  cases t with
  |cons w t=>rw[qX (by simp only[qL];omega)];rfl|nil=>
   rw[qW (by simp),ag (by simp),show([v]:List Bs)[(0:Int).toNat]? = some v from rfl,qB,qm9]
   simp only;unfold ut;by_cases h4:4000<v.length
   ·rw[ag (by omega),qX h4]
   ·rw[ap,qW h4,qvk,ag (by simp),show([v]:List Bs)[(0:Int).toNat]? = some v from rfl,qB,zrr fu hfu v,qB]
    cases hm:up v with
    |none=>rfl|some m=>
     simp only;rw[bn,zuw fu hfu m (q11 hm),qB,fh]
     by_cases h0:(f8 m).1≠0
     ·rw[qX h0,qX h0]
     ·rw[qW h0,qW h0]
def bOk(b:Bs):Bool := !b.isEmpty&&(decide (b.length<=60)&&(b.all gg && !(b.getLast? == some 32)))
def bnd(l:List aq):Option Bs:=match gp l with|some m=>if lk m.1 mpN=true/\(d5 m.2.2 dq).2=true/\bOk (d5 m.2.2 dq).1=true then some (d5 m.2.2 dq).1 else none|none=>none
def zd5(l:List bt)(nm:Bs)(M:Nat)(h:∀x∈l,x.2.length<=M):(d5 l nm).1.length<=M:=by
 induction l with
 |nil=>simp[d5,par]|cons p l ih=>
  rw[q2n];split
  ·exact h p qH
  ·exact ih (fun x hx=>h x (qE _ hx))
def zs1(c:UInt8):qii c=some (gg c):=by unfold qii gg;by_cases h:(32:UInt8)<=c<;>simp[h]
def zl7(fu:Nat)(s:Bs)(h:s.length<fu:=by omega)(hb:s.length<9223372036854775807:=by omega):qnc fu s=some (s.all gg):=by
 have e:∀n,qhg fu n=qab qii n:=by
  intro n;induction n with|zero=>rfl|succ n ih=>rw[qhg,ih];funext a b c;rfl
 unfold qnc;rw[e];exact qzm _ _ zs1 _ _ h hb
def zpu(t:Bs)(hb:t.length<=4000000:=by omega):qol t [32]=some (t.getLast? == some 32):=by
 unfold qol qhs;rw[show(([32]:List UInt8).length:Int)=1 from rfl]
 rcases List.eq_nil_or_concat t with rfl|⟨u,c,rfl⟩
 ·rfl
 ·rw[List.concat_eq_append]at *;simp only[qM,qL,qZ]at hb;rw[ji,jp _,ag (by omega),ag (by omega),qB,List.getLast?_concat]
  have e:List.drop ((u.length:Nat):Int).toNat (u++[c])=[c]:=r7 u [c];rw[e];congr 1;rw[Bool.eq_iff_iff];simp
def znd(fu:Nat)(hfu:90000000<=fu)(l:List aq)(hs:∀x∈l,x.1.length<=4000000/\x.2.length<=4000000)(hl:l.length<=4000000):∃R,qn0 fu l=some R/\match bnd l with
  |some b=>R=(b,true)|none=>R.2=false:=by
 obtain⟨R,h1,h2⟩:=q34 fu hfu l hs hl;unfold qn0 bnd;rw[h1,qB]
 cases ht:gp l with
 |none=>
  rw[ht]at h2;obtain⟨k,rfl⟩:=h2;exact⟨_,rfl,rfl⟩
 |some m=>
  rw[ht]at h2;obtain⟨ab,x,aa,e1,e2,e3,e4,e5,rfl⟩:=h2;have h0:=qey ht;have hv:=sq h0;simp only[ck];rw[bn,qj fu hfu _ _ (by have:=hv.1;omega) (by simp),qB]
  cases hk:lk m.1 mpN
  ·rw[zk,cr];exact⟨_,rfl,by simp⟩
  ·have hbl:=zd5 m.2.2 dq 100000 (fun x hx=>(hv.2.2.2 x hx).2)
   rw[zk,bn,qw2,zdd fu hfu (m.1,(m.2.1,m.2.2)) dq (by simp) hv.smD,qB,qW (by simpa using h0)]
   simp only;generalize hb:(d5 m.2.2 dq).1=b at *;generalize hi:(d5 m.2.2 dq).2=i at *;unfold bOk
   cases b with
   |nil=>rw[show(!(([]:Bs)==[]))=false from rfl,ax rfl];cases i<;>exact⟨_,rfl,by simp⟩
   |cons c b=>
    rw[show(!((c::b:Bs)==[]))=true from rfl,au rfl]
    by_cases h60:(c::b).length<=60
    ·rw[ag (by omega),zl7 fu _,qB]
     cases ha:(c::b).all gg
     ·rw[ax rfl];cases i<;>exact⟨_,rfl,by simp[ha]⟩
     ·rw[au rfl,zpu _,qB]
      cases i
      ·exact⟨_,rfl,by simp⟩
      ·rw[au rfl];refine⟨_,rfl,?_⟩;cases hg:((c::b).getLast? == some 32)
       ·rw[qX ⟨by first|rfl|trivial,by first|rfl|trivial,by simp only[List.isEmpty_cons,Bool.not_false,Bool.true_and,Bool.and_true];exact decide_eq_true h60⟩];rfl
       ·rw[qW (by simp)];rfl
    ·rw[ap]
     have hnot:¬(decide ((c::b).length<=60)=true):=by simpa using h60
     cases i
     ·exact⟨_,rfl,by simp⟩
     ·refine⟨_,rfl,?_⟩;rw[qW (by
       rintro⟨_,_,g⟩
       rw[qA,qA]at g;exact hnot g.2.1)]
def zmd(fu n:Nat)(i:Bool):∀(ab aa:Bs),aa.length<n->ab.length+aa.length<1000000 ->
  ∃R,qgw fu n (ab++aa) i (ab.length:Int)=some R/\(if aa.all gg=true/\i=true/\(1<=(ab++aa).length/\(ab++aa).length<=60)/\(ab++aa).getLast? ≠ some 32 then R=(ab++aa,true) else R.2=false):=by
 induction n with
 |zero=>intro ab aa h;omega|succ n ih=>
  intro ab aa h hb;rw[qgw,qu5]
  cases aa with
  |nil=>
   rw[ap,List.append_nil]
   cases i
   ·exact⟨_,rfl,by rw[qW (by simp)]⟩
   ·rw[au rfl,np,qB];by_cases h60:1<=ab.length/\ab.length<=60
    ·rw[ag (by omega)]
     rcases List.eq_nil_or_concat ab with rfl|⟨u,c,rfl⟩
     ·simp at h60
     ·rw[List.concat_eq_append]at *;simp only[qM,qL,qZ]at hb;rw[ji,jp _,qap,qB]
      refine⟨_,rfl,?_⟩;rw[List.getLast?_concat];by_cases hc:c=32
      ·rw[qW (by simp[hc])];simp[hc]
      ·rw[qX ⟨rfl,rfl,h60,by simpa using hc⟩];simp[hc]
    ·rw[ap];exact⟨_,rfl,by rw[qW (fun g=>h60 g.2.2.1)]⟩
  |cons c t=>
   simp only[qL]at h hb;have hp:(decide (32<=(c.toNat:Int)/\(c.toNat:Int)<=126))=gg c:=by
    unfold gg;rw[Bool.eq_iff_iff];simp only[decide_eq_true_eq,qA,UInt8.le_iff_toNat_le];show _↔32<=c.toNat/\c.toNat<=126;omega
   rw[ag (by rw[cd];omega),bf,qB,np,hp,qB,aw _]
   cases hc:gg c
   ·rw[cr];exact⟨_,rfl,by rw[qW (by simp[hc])]⟩
   ·rw[bn];obtain⟨R,g1,g2⟩:=ih (ab++[c]) t (by omega) (by simp;omega)
    rw[qM,wD,qS,wM]at g1;refine⟨R,g1,?_⟩;rw[qS,wM]at g2;rw[List.all_cons,hc,Bool.true_and];exact g2
def qzo(fu:Nat)(hfu:90000000<=fu)(l:List aq)(hs:mj l):∃R,qgu fu l=some R/\match bnd l with
  |some b=>R=(b,true)|none=>R.2=false:=by
 unfold qgu bnd;rw[q33 fu hfu l hs,qB]
 cases ht:gp l with
 |none=>exact⟨_,rfl,rfl⟩|some m=>
  have h0:=qey ht;have hv:=sq h0;simp only;rw[bn,ub fu hfu _ _ (by have:=hv.1;omega) (by simp),qB]
  cases hk:lk m.1 mpN
  ·rw[qgv,cr];exact⟨_,rfl,by simp⟩
  ·have hbl:=zd5 m.2.2 dq 100000 (fun x hx=>(hv.2.2.2 x hx).2)
   rw[qgv,bn,qu6,q3e fu hfu m dq (by simp) hv.smD.2.2,qB]
   obtain⟨R,g1,g2⟩:=zmd fu fu (d5 m.2.2 dq).2 [] (d5 m.2.2 dq).1 (by omega) (by simp;omega)
   refine⟨R,g1,?_⟩;simp only[List.nil_append]at g2;by_cases hc:(d5 m.2.2 dq).1.all gg=true/\(d5 m.2.2 dq).2=true/\(1<=(d5 m.2.2 dq).1.length/\(d5 m.2.2 dq).1.length<=60)/\(d5 m.2.2 dq).1.getLast? ≠ some 32
   ·rw[qX hc]at g2;have hb:bOk (d5 m.2.2 dq).1=true:=by
     unfold bOk;have:(d5 m.2.2 dq).1.isEmpty=false:=by
      cases hh:(d5 m.2.2 dq).1 with|nil=>rw[hh]at hc;simp at hc|cons=>rfl
     rw[this,hc.1,decide_eq_true hc.2.2.1.2];simp;exact hc.2.2.2
    rw[qX ⟨by first|rfl|trivial,hc.2.1,hb⟩];exact g2
   ·rw[qW hc]at g2;rw[qW (by
     rintro⟨_,q1,q2⟩
     apply hc;unfold bOk at q2;simp only[qA,Bool.not_eq_true',decide_eq_true_eq,beq_eq_false_iff_ne]at q2;refine⟨q2.2.2.1,q1,⟨?_,q2.2.1⟩,q2.2.2.2⟩
     cases hh:(d5 m.2.2 dq).1 with
     |nil=>rw[hh]at q2;simp at q2| cons=>simp)]
    exact g2
def qz3{l:List aq}{b:Bs}(h:bnd l=some b):1<=b.length/\b.length<=60:=by
 unfold bnd at h;split at h
 ·split at h
  ·rename_i hc;cases h
   have q:=hc.2.2;unfold bOk at q;simp only[qA,Bool.not_eq_true',decide_eq_true_eq]at q;refine⟨?_,q.2.1⟩;generalize (d5 _ dq).1=z at *
   cases z with|nil=>simp at q|cons=>simp
  ·cases h
 ·cases h
def qea(t b:Bs):Int:=if t=([45,45]:Bs)++b then 1 else if t=(([45,45]:Bs)++b)++([45,45]:Bs) then 2 else 0
def jw(line b:Bs):Int:=qea (et line) b
def qpo{α:Type}{a b:Bs}{x y:α}:(bif a==b then x else y)=if a=b then x else y:=by
 by_cases h:a=b
 ·rw[au (by simpa using h),qX h]
 ·rw[ax (by simpa using h),qW h]
def zqz(fu:Nat)(hfu:90000000<=fu)(line b:Bs)(h:line.length<=4000000)(hb:b.length<=1000):qn9 fu line b=some (jw line b):=by
 unfold qn9 jw qea;rw[q30 fu line,qB,ag (by simp[ar];omega),qpo,ag (by simp[ar];omega),ag (by simp[ar];omega),qpo]
 split
 ·rfl
 ·split<;>rfl
def zrd(fu:Nat)(s b:Bs)(hs:s.length<=4000000)(hb:b.length<=1000)(n:Nat):∀(u w:Bs),s=u++w->u.length<n->qca fu n s b (u.length:Int)=some (qea (et u) b):=by
 induction n with
 |zero=>intro u w _ h;omega|succ n ih=>
  intro u w hu h;have ac:s.length=u.length+w.length:=by rw[hu];simp
  have fin:qcb fu (qca fu n) s b (u.length:Int) false=some (qea u b):=by
   rw[qcb,ax rfl,ag (by omega),ag (by simp[ar];omega),show List.take ((u.length:Nat):Int).toNat s=u by rw[hu];exact qm u w,qpo,ag (by omega),ag (by simp[ar];omega),ag (by simp[ar];omega),qpo]
   unfold qea;split
   ·rfl
   ·split<;>rfl
  rw[qca,qvd];rcases List.eq_nil_or_concat u with rfl|⟨t,c,rfl⟩
  ·rw[ap];exact fin
  ·rw[List.concat_eq_append]at *;rw[ag (by simp),ji,jp _ (by simp at ac;omega),qem]
   have hx:am s (t.length:Int)=some c:=by rw[hu,qS];exact bf t c w
   rw[hx,qB,xg,qB];cases hc:bl c
   ·rw[ji]at fin;rw[fin];rfl
   ·rw[qcb,au rfl,qve,jp _ (by simp at ac;omega),qX rfl]
    exact ih t (c::w) (by rw[hu];simp) (by simp at h;omega)
def zq9(fu:Nat)(hfu:90000000<=fu)(s b:Bs)(hs:s.length<=4000000)(hb:b.length<=1000):qvc fu s b=some (jw s b):=
 zrd fu s b hs hb fu s [] (by simp) (by omega)
def cu:Bs->Bs|[]=>[]|c::t=>if gy c t=true then[] else c::cu t
def dj:Bs->Bs|[]=>[]|c::t=>if gy c t=true then t.tail else dj t
def qah:∀r:Bs,(r=cu r++13::10::dj r/\Lib.index r [13,10]=((cu r).length:Int))\/(cu r=r/\dj r=[]/\Lib.index r [13,10] = -1)
 |[] => .inr ⟨rfl,rfl,rfl⟩|c::t=>by
  have hp:([13,10]:Bs).isPrefixOf (c::t)=gy c t:=by
   unfold gy
   cases t with|nil=>simp[List.isPrefixOf]|cons d t=>simp[List.isPrefixOf,qpn]
  rw[cu,dj,Lib.index,hp];by_cases hc:gy c t=true
  ·obtain⟨rfl,r',rfl⟩:=qq0 hc;rw[qX hc,qX hc,qX hc];exact .inl ⟨rfl,rfl⟩
  ·rw[qW hc,qW hc,qW hc];rcases qah t with⟨h1,h2⟩|⟨h1,h2,h3⟩
   ·refine .inl ⟨by rw[wK,← h1],?_⟩
    rw[h2,qW (by simp)];simp
   ·refine .inr ⟨by rw[h1],h2,?_⟩
    rw[h3];rfl
def q0j(r:Bs):r.take (cu r).length=cu r:=by
 rcases qah r with⟨h1,_⟩|⟨h1,_,_⟩
 ·have e:r.take (cu r).length=(cu r++13::10::dj r).take (cu r).length:=by rw[← h1]
  rw[e,List.take_left]
 ·rw[h1];simp
def qrh(r:Bs):dj r <:+ r:=by
 rcases qah r with⟨h1,_⟩|⟨_,h2,_⟩
 ·exact⟨cu r++[13,10],by simp;exact h1.symm⟩
 ·rw[h2];exact List.nil_suffix
def qkl(c:UInt8)(t:Bs):(dj (c::t)).length<=t.length:=by
 rcases qah (c::t) with⟨h1,_⟩|⟨_,h2,_⟩
 ·have:=congrArg List.length h1;simp only[qM,qL]at this;omega
 ·rw[h2];simp
def q0i(r:Bs):(cu r).length<=r.length:=by
 rcases qah r with⟨h1,_⟩|⟨h1,_,_⟩
 ·have:=congrArg List.length h1;simp only[qM,qL]at this;omega
 ·rw[h1];exact wF _
def qpy(s r:Bs):Bs:=s.take (s.length-r.length-2)
def je(st:Option Bs)(r:Bs)(out:List Bs):List Bs:=match st with|some s=>out++[qpy s r]|none=>out
def fy(b:Bs):Nat->Bs->Option Bs->List Bs->List Bs
 |0,_,_,out=>out|_+1,[],st,out=>match st with|some s=>out++[s]|none=>out
 |n+1,c::t,st,out=>if jw (cu (c::t)) b=0 then fy b n (dj (c::t)) st out
  else if jw (cu (c::t)) b=2 then je st (c::t) out else fy b n (dj (c::t)) (some (dj (c::t))) (je st (c::t) out)
def f7(body:Bs)(st:Option Bs):Int:=match st with|some s=>pos body s|none => -1
def zq0(l b:Bs):jw l b=0\/jw l b=1\/jw l b=2:=by
 unfold jw qea;split
 ·exact .inr (.inl rfl)
 ·split
  ·exact .inr (.inr rfl)
  ·exact .inl rfl
def q10{body s r:Bs}(hs:s <:+ body)(hr:r <:+ s)(hb:body.length<=4000000):0<=pos body s/\pos body s<=(if af (pos body r-2)>pos body s then af (pos body r-2) else pos body s)/\(if af (pos body r-2)>pos body s then af (pos body r-2) else pos body s)<=(body.length:Int) /\
  List.take ((if af (pos body r-2)>pos body s then af (pos body r-2) else pos body s).toNat-(pos body s).toNat) (List.drop (pos body s).toNat body)=qpy s r:=by
 have h1:=hs.length_le;have h2:=hr.length_le;rw[qko hs];unfold qpy pos;rw[d7]
 refine⟨by omega,?_,?_,?_⟩
 ·split<;>omega
 ·split<;>omega
 ·congr 1;split<;>omega
def ztg{body r:Bs}(hr:r <:+ body)(hb:body.length<=4000000):(if(body.length:Int)<af (af (pos body r+((cu r).length:Int))+2) then(body.length:Int) else af (af (pos body r+((cu r).length:Int))+2))=pos body (dj r):=by
 have h1:=hr.length_le;rcases qah r with⟨h,_⟩|⟨h,h2,_⟩
 ·have:=congrArg List.length h;simp only[qM,qL]at this;unfold pos;rw[ow _ _,d7]
  split<;>omega
 ·rw[h2,h,ix];unfold pos;rw[ow _ _,d7]
  split<;>omega
def zn3(fu:Nat)(hfu:90000000<=fu)(body b:Bs)(hb:body.length<=4000000)(hbb:b.length<=1000)(r:Bs)(hr:r <:+ body)(st:Option Bs)(hst:∀s,st=some s->s <:+ body/\r <:+ s)(z out:List Bs)(ho:out.length<=4000000:=by omega) :
  qcx fu (pos body r) (cu r) body b (f7 body st) z out =
   if jw (cu r) b=0 then some (.inl (body,(b,(f7 body st,(z,out))))) else if jw (cu r) b=2 then some (.inr (body,(b,(f7 body st,je st r out)))) else some (.inl (body,(b,(pos body (dj r),(z,je st r out))))):=by
 have hrm:=gh;have hcl:=q0i r;have hrl:=hr.length_le;unfold qcx;rw[zqz fu hfu _ b (by omega) hbb,qB,gv]
 by_cases h0:jw (cu r) b=0
 ·rw[qX h0,qX h0]
 rw[qW h0,qW h0,ztg hr hb,gv]
 cases st with
 |none=>
  rw[show f7 body none = -1 from rfl,ap]
  try rw[gv]
  by_cases h2:jw (cu r) b=2
  ·rw[qX h2,qX h2];rfl
  ·rw[qW h2,qW h2];rfl
 |some s=>
  obtain⟨g1,g2⟩:=hst s rfl;obtain⟨q1,q2,q3,q4⟩:=q10 g1 g2 hb;rw[show f7 body (some s)=pos body s from rfl,ag q1,ag ⟨q1,q2,q3⟩,q4,ag (by simp;omega)]
  by_cases h2:jw (cu r) b=2
  ·rw[qX h2,qX h2];rfl
  ·rw[qW h2,qW h2];rfl
def qzg(st:Option Bs)(r:Bs)(out:List Bs):(je st r out).length<=out.length+1:=by unfold je;cases st<;>simp
def zbo(st:Option Bs)(out:List Bs):List Bs:=match st with|some s=>out++[s]|none=>out
def zn0(fu:Nat)(hfu:90000000<=fu)(body b:Bs)(hb:body.length<=4000000)(hbb:b.length<=1000)(z:List Bs)(n:Nat):∀(r:Bs)(st:Option Bs)(out:List Bs),r <:+ body->(∀s,st=some s->s <:+ body/\r <:+ s)->r.length<n->out.length+r.length<=4000000 ->
  (∃x,zm fu n (pos body r) body body b (f7 body st) z out=some (.inl (body,(body,(b,(x,fy b n r st out)))))) \/
  (∃st' out',zm fu n (pos body r) body body b (f7 body st) z out=some (.inr (body,(body,(b,(f7 body st',(z,out'))))))/\fy b n r st out=zbo st' out'/\out'.length<=4000000/\∀s,st'=some s->s <:+ body):=by
 induction n with
 |zero=>intro r st out _ _ h;omega|succ n ih=>
  intro r st out hr hst h ho;rw[zm,qxa]
  cases r with
  |nil=>
   rw[ix,ap]
   exact .inr ⟨st,out,rfl,rfl,by omega,fun s hs=>(hst s hs).1⟩
  |cons c t=>
   simp only[qL]at h ho;have hL:(c::t).length=t.length+1:=rfl;have hrl:=hr.length_le;simp only[qL]at hrl;have hcl:=q0i (c::t);have hnl:=qkl c t;have hge:=uu body (c::t);have hnx:dj (c::t) <:+ body:=(qrh _).trans hr;rw[ag (nj hr),ag hge,ag (by decide),qko hr]
   have hI:tr (c::t) [13,10]=some (Lib.index (c::t) [13,10]):=by
    unfold tr;rw[ag (by refine⟨by simp,by simp only[qL];omega,by simp[maxLen]⟩)]
   have step:∀q:Option qy2,q=((qcx fu (pos body (c::t)) (cu (c::t)) body b (f7 body st) z out).bind fun x2=>ck x2 (fun a3=>zm fu n (pos body (dj (c::t))) body a3.1 a3.2.1 a3.2.2.1 a3.2.2.2.1 a3.2.2.2.2) (fun b4=>some (.inl (body,b4)))) ->
     (∃x,q=some (.inl (body,(body,(b,(x,fy b (n+1) (c::t) st out))))))\/(∃st' out',q=some (.inr (body,(body,(b,(f7 body st',(z,out'))))))/\fy b (n+1) (c::t) st out=zbo st' out'/\out'.length<=4000000/\∀s,st'=some s->s <:+ body):=by
    intro q hq;rw[hq,zn3 fu hfu body b hb hbb (c::t) hr st hst z out,fy]
    have hal:=qzg st (c::t) out;by_cases h0:jw (cu (c::t)) b=0
    ·simp only[qX h0,qB,ck];exact ih (dj (c::t)) st out hnx (fun s hs=>⟨(hst s hs).1,(qrh _).trans (hst s hs).2⟩) (by omega) (by omega)
    ·simp only[qW h0];by_cases h2:jw (cu (c::t)) b=2
     ·simp only[qX h2,qB,ck];exact .inl ⟨_,rfl⟩
     ·simp only[qW h2,qB,ck];exact ih (dj (c::t)) (some (dj (c::t))) _ hnx (fun s hs=>by cases hs;exact⟨hnx,List.suffix_refl _⟩) (by omega) (by omega)
   apply step;rw[hI,qB];rcases qah (c::t) with⟨h1,h2⟩|⟨h1,h2,h3⟩
   ·have ac:=congrArg List.length h1;simp only[qM,qL]at ac;have e1:af (pos body (c::t)+((cu (c::t)).length:Int))=((body.length-(c::t).length+(cu (c::t)).length:Nat):Int):=by unfold pos;rw[ow _ _]
    have e2:af (((body.length-(c::t).length+(cu (c::t)).length:Nat):Int)+2)=pos body (dj (c::t)):=by unfold pos;rw[d7];simp only[qL];omega
    have e3:((body.length-(c::t).length+(cu (c::t)).length:Nat):Int).toNat-(pos body (c::t)).toNat=(cu (c::t)).length:=by unfold pos;omega
    rw[h2,ag (by omega),e1,ag (by unfold pos;simp only[qL];omega),e3,q0j,e2]
   ·have e3:(body.length:Int).toNat-(pos body (c::t)).toNat=(cu (c::t)).length:=by rw[h1];unfold pos;omega
    rw[h3,ap,ag (by omega),e3,q0j,h2,ix]
def zav(b:Bs):∀(n:Nat)(r:Bs)(st:Option Bs)(out:List Bs),r.length<n->fy b n r st out=fy b (r.length+1) r st out:=by
 intro n
 induction n using Nat.strongRecOn with
 |ind n ih=>
  intro r st out h;obtain⟨n,rfl⟩:∃m,n=m+1:=⟨n-1,by omega⟩
  cases r with
  |nil=>rfl|cons c t=>
   simp only[qL]at h ⊢;have hnl:=qkl c t;rw[fy,fy];have e:∀st' out',fy b n (dj (c::t)) st' out'=fy b (t.length+1) (dj (c::t)) st' out':=fun st' out'=>by
    rw[ih n (by omega) _ _ _ (by omega)]
    by_cases hq:t.length+1=n
    ·rw[hq];exact(ih n (by omega) _ _ _ (by omega)).symm
    ·exact(ih (t.length+1) (by omega) _ _ _ (by omega)).symm
   rw[e,e]
def fj(body b:Bs):List Bs:=fy b (body.length+1) body none []
def zn4(fu:Nat)(hfu:90000000<=fu)(body b:Bs)(hb:body.length<=4000000)(hbb:b.length<=1000):qn2 fu body b=some (fj body b):=by
 have hrm:=gh;unfold qn2 qoa qw9 fj;rw[qB];have:=zn0 fu hfu body b hb hbb [] fu body none [] (List.suffix_refl _) (by simp) (by omega) (by simpa using hb)
 rw[q2t,show f7 body none = -1 from rfl,zav b fu body none [] (by omega)]at this
 rcases this with⟨x,h⟩|⟨st',out',h1,h2,h3,h4⟩
 ·rw[h];rfl
 ·rw[h1,qB,h2];simp only[ck]
  cases st' with
  |none=>rw[show f7 body none = -1 from rfl,ap];rfl|some s=>
   have hge:=uu body s;rw[show f7 body (some s)=pos body s from rfl,ag hge.1,ag hge,ag (by simp;omega),qko (h4 s rfl)];rfl
def zt1(fu:Nat)(r0:ox)(body b:Bs)(s6 s7:Int)(out:List Bs)(hb:body.length<=4000000)(n:Nat):∀(u:Bs),u <:+ body->u.length<n ->
  qgy fu r0 n body b s6 s7 (pos body u) out=qg0 fu r0 body b s6 s7 (pos body (u.drop (cu u).length)) (pos body (dj u)) out:=by
 induction n with
 |zero=>intro u _ h;omega|succ n ih=>
  intro u hu h;rw[qgy,qu9]
  cases u with
  |nil=>rw[ix,ap,qgz,ax rfl,au];simp[dj,ix]|cons c t=>
   have ht:t <:+ body:=(List.suffix_cons _ _).trans hu;simp only[qL]at h;have hc:qbj body (pos body (c::t))=some (gy c t):=by
    obtain⟨p,e1,e2⟩:=zec hu;have:=hu.length_le;rw[e2,e1];exact zeo p c t (by rw[e1]at hb;simp at hb;omega)
   rw[ag (nj hu),hc,qB,qgz,cu,dj];by_cases hq:gy c t=true
   ·obtain⟨rfl,r',rfl⟩:=qq0 hq;have hle:=hu.length_le;simp only[qL]at hle;rw[hq,bn,ax (by have:=nj hu;simp;omega),qX rfl,qX rfl]
    have e:af (pos body (13::10::r')+2)=pos body r':=by unfold pos;rw[d7 (by simp only[qL];omega)];simp only[qL];omega
    rw[e];rfl
   ·have:gy c t=false:=by simpa using hq
    rw[this,cr,qva,qg hu,qW (by simp),qW (by simp)]
    exact ih t ht (by omega)
def zt5(fu:Nat)(hfu:90000000<=fu)(body b:Bs)(hb:body.length<=4000000)(hbb:b.length<=1000)(n:Nat):∀(r:Bs)(st:Option Bs)(out:List Bs),r <:+ body->(∀s,st=some s->s <:+ body/\r <:+ s)->r.length<n->out.length+r.length<=4000000 ->
  vl fu n body b (f7 body st) (pos body r) out=some (fy b n r st out):=by
 have hrm:=gh
 induction n with
 |zero=>intro r st out _ _ h;omega|succ n ih=>
  intro r st out hr hst h ho;rw[vl,qu8]
  cases r with
  |nil=>
   rw[ix,ap]
   show _=some (match st with|some s=>out++[s]|none=>out)
   cases st with
   |none=>rw[show f7 body none = -1 from rfl,ap]|some s=>
    have hge:=uu body s;rw[show f7 body (some s)=pos body s from rfl,ag hge.1,ag hge,ag (by simp;simp at ho;omega),qko (hst s rfl).1]
  |cons c t=>
   simp only[qL]at h ho;have hrl:=hr.length_le;simp only[qL]at hrl;have hcl:=q0i (c::t);have hnl:=qkl c t;have hnx:dj (c::t) <:+ body:=(qrh _).trans hr;have hal:=qzg st (c::t) out;rw[ag (nj hr),zt1 fu _ body b _ _ out hb fu (c::t) hr (by simp only[qL];omega),fy,qg0]
   have hds:(c::t).drop (cu (c::t)).length <:+ (c::t):=List.drop_suffix _ _;have hle:=q2u (s:=body) hds;have g1:=uu body (c::t);have g2:=uu body ((c::t).drop (cu (c::t)).length);have e:List.take ((pos body ((c::t).drop (cu (c::t)).length)).toNat-(pos body (c::t)).toNat) (List.drop (pos body (c::t)).toNat body)=cu (c::t):=by
    rw[q2v hr hds,List.length_drop,show(c::t).length-((c::t).length-(cu (c::t)).length)=(cu (c::t)).length by omega,q0j]
   rw[ag ⟨g1.1,hle,g2.2⟩,e,zq9 fu hfu _ b (by simp only[qL]at hcl;omega) hbb,qB]
   have nx:∀st' out',(∀s,st'=some s->s <:+ body/\dj (c::t) <:+ s)->out'.length<=out.length+1->vl fu n body b (f7 body st') (pos body (dj (c::t))) out'=some (fy b n (dj (c::t)) st' out'):=fun st' out' h1 h2=>ih _ st' out' hnx h1 (by omega) (by omega)
   rcases zq0 (cu (c::t)) b with hk|hk|hk
   ·rw[hk,ap,qX rfl,qb8,ax (by rfl)]
    exact nx st out (fun s hs=>⟨(hst s hs).1,(qrh _).trans (hst s hs).2⟩) (by omega)
   ·rw[hk,ag (by omega),qW (by omega),qW (by omega)]
    have p5:∀o,o=je st (c::t) out->y7 fu (vl fu n) body b (pos body (dj (c::t))) 1 o=some (fy b n (dj (c::t)) (some (dj (c::t))) (je st (c::t) out)):=by
     intro o he;rw[y7,qb8,ax (by rfl),he]
     exact nx (some (dj (c::t))) _ (fun s hs=>by cases hs;exact⟨hnx,List.suffix_refl _⟩) hal
    cases st with
    |none=>rw[show f7 body none = -1 from rfl,ap];exact p5 _ rfl|some s=>
     obtain⟨q1,q2,q3,q4⟩:=q10 (hst s rfl).1 (hst s rfl).2 hb;rw[show f7 body (some s)=pos body s from rfl,ag q1,bu]
     by_cases hlt:af (pos body (c::t)-2)<pos body s
     ·rw[qW (by omega)]at q2 q3 q4
      rw[qX hlt,y8,ag ⟨q1,q2,q3⟩,q4,ag (by simp;omega)]
      exact p5 _ rfl
     ·rw[qW hlt,y8];by_cases heq:af (pos body (c::t)-2)=pos body s
      ·rw[qW (by omega)]at q2 q3 q4
       rw[heq,ag ⟨q1,q2,q3⟩,q4,ag (by simp;omega)]
       exact p5 _ rfl
      ·rw[qX (by omega)]at q2 q3 q4
       rw[ag ⟨q1,q2,q3⟩,q4,ag (by simp;omega)]
       exact p5 _ rfl
   ·rw[hk,ag (by omega),qW (by omega),qX rfl]
    have p5:∀o,o=je st (c::t) out->y7 fu (vl fu n) body b (pos body (dj (c::t))) 2 o=some (je st (c::t) out):=by
     intro o he;rw[y7,qb8,au,he]
    cases st with
    |none=>rw[show f7 body none = -1 from rfl,ap];exact p5 _ rfl|some s=>
     obtain⟨q1,q2,q3,q4⟩:=q10 (hst s rfl).1 (hst s rfl).2 hb;rw[show f7 body (some s)=pos body s from rfl,ag q1,bu]
     by_cases hlt:af (pos body (c::t)-2)<pos body s
     ·rw[qW (by omega)]at q2 q3 q4
      rw[qX hlt,y8,ag ⟨q1,q2,q3⟩,q4,ag (by simp;omega)]
      exact p5 _ rfl
     ·rw[qW hlt,y8];by_cases heq:af (pos body (c::t)-2)=pos body s
      ·rw[qW (by omega)]at q2 q3 q4
       rw[heq,ag ⟨q1,q2,q3⟩,q4,ag (by simp;omega)]
       exact p5 _ rfl
      ·rw[qX (by omega)]at q2 q3 q4
       rw[ag ⟨q1,q2,q3⟩,q4,ag (by simp;omega)]
       exact p5 _ rfl
def zen(fu:Nat)(hfu:90000000<=fu)(body b:Bs)(hb:body.length<=4000000)(hbb:b.length<=1000:=by omega):qm1 fu body b=some (fj body b):=by
 have:=zt5 fu hfu body b hb hbb fu body none [] (List.suffix_refl _) (by simp) (by omega) (by simpa using hb)
 rw[q2t,show f7 body none = -1 from rfl,zav b fu body none [] (by omega)]at this
 exact this
def zgj(l:List aq)(f:aq->Nat)(hf:∀x,x.1.length+x.2.length+1<=f x):l.length<=(l.map f).sum/\∀x∈l,x.1.length+x.2.length<=(l.map f).sum:=by
 induction l with
 |nil=>exact⟨wF _,fun x h=>by cases h⟩
 |cons y l ih=>
  have hy:=hf y;refine⟨by simp only[qL,List.map_cons,List.sum_cons];omega,fun x hx => ?_⟩
  rw[List.map_cons,List.sum_cons];rcases List.mem_cons.1 hx with rfl|hx
  ·omega
  ·have:=ih.2 x hx;omega
def qr7:∀b:List UInt8,(List.map (Ty.byte.bk:Ty.byte.den->Nat) b).sum=b.length
 |[]=>rfl|c::b=>by
  show 1+(List.map (Ty.byte.bk:Ty.byte.den->Nat) b).sum=b.length+1;rw[qr7 b];omega
def od(x:aq):Nat:=(x.1.length+1)+(x.2.length+1)
def zlh(l:List aq)(b:List UInt8)(h:((l.map od).sum+1)+(b.length+1)<=1048576):wd (l,b):=by
 obtain⟨h1,h2⟩:=zgj l od (fun x=>by unfold od;omega)
 refine⟨⟨by simp only;omega,fun x hx => ?_⟩,by simp only;omega⟩
 have:=h2 x hx;omega
def q83(m:List aq×List UInt8)(h:(Ty.prod (.list (.prod .str .str)) (.list .byte)).bk m<=1048576):wd m:=by
 obtain⟨l,b⟩:=m;have h:((l.map od).sum+1)+((List.map (Ty.byte.bk:Ty.byte.den->Nat) b).sum+1)<=1048576:=h;rw[qr7]at h;exact zlh l b h
end Go.Sym
