/- What the claim rests on, part 5: gathered texts. -/
import Derived.Sort.AssemblyPlain
import Derived.Test.YtgpcmiimfgghdaaGreatDoorSyK3
set_option maxRecDepth 100000
set_option linter.defProp false
set_option linter.unusedSimpArgs false
set_option linter.unusedVariables false
namespace Go.Sym
def bt{x:Int}(h1 : -9223372036854775808<=x:=by omega)(h2:x<9223372036854775808:=by omega):ae x=x:=by
 unfold ae IntKind.wrap;simp[IntKind.signed,IntKind.bits];omega
def au{α:Type}{b:Bool}{x y:α}(h:b=true:=by first|rfl|simp;done):(bif b then x else y)=x:=by subst h;rfl
def aw{α:Type}{b:Bool}{x y:α}(h:b=false):(bif b then x else y)=y:=by subst h;rfl
def bp{α:Type}{p:Prop}[Decidable p]{x y:α}:(bif decide p then x else y)=if p then x else y:=by by_cases h:p<;>simp[h]
def af{α:Type}{p:Prop}[Decidable p]{x y:α}(h:p):(bif decide p then x else y)=x:=au (decide_eq_true h)
def ao{α:Type}{p:Prop}[Decidable p]{x y:α}(h:¬p:=by first|omega|simp;done|simp;omega):(bif decide p then x else y)=y:=aw (decide_eq_false h)
def zfb{α:Type}{b:Bool}{x y:α}:(bif !b then x else y)=if b=false then x else y:=by cases b<;>rfl
def zte{α:Type}{b:Bool}{x y:α}:(bif b then x else y)=if b=true then x else y:=by cases b<;>rfl
def dz{α:Type}{a b:Int}{x y:α}:(bif a != b then x else y)=if a≠b then x else y:=by
 by_cases h:a=b
 ·rw[aw (by simp[h]),qW (by simp[h])]
 ·rw[au (by simp[h]),qX h]
def d6{α:Type}{a b:Int}{x y:α}:(bif a==b then x else y)=if a=b then x else y:=by
 by_cases h:a=b
 ·rw[au (by simp[h]),qX h]
 ·rw[aw (by simp[h]),qW h]
def gy{α:Type}{a b:UInt8}{x y:α}:(bif a==b then x else y)=if a=b then x else y:=by
 by_cases h:a=b
 ·rw[au (by simp[h]),qX h]
 ·rw[aw (by simp[h]),qW h]
def uu{α:Type}{a b:UInt8}{x y:α}:(bif a != b then x else y)=if a≠b then x else y:=by
 by_cases h:a=b
 ·rw[aw (by simp[h]),qW (by simp[h])]
 ·rw[au (by simp[h]),qX h]
def qxg{α:Type}{p:Prop}[Decidable p]{x y:α}:(if p then some x else some y)=some (if p then x else y):=by split<;>rfl
def jk{α β:Type}(l:List α)(i:Int)(f:α->Option β):(bif decide (0<=i/\i.toNat<List.length l) then(l[i.toNat]?).bind f else none)=(ai l i).bind f:=by
 unfold ai;by_cases h:0<=i
 ·by_cases h2:i.toNat<l.length
  ·simp[h,h2]
  ·simp[h,h2]
 ·simp[h]
def vc{α:Type}(l:List α)(k:Nat)(h:k<l.length):ai l (k:Int)=some l[k]:=by
 unfold ai;rw[qX oA];simp[h]
def a6{α:Type}(ab:List α)(c:α)(aa:List α):ai (ab++c::aa) (ab.length:Int)=some c:=by
 unfold ai;rw[qX oA];simp
def ic{α:Type}(ab:List α)(c:α)(aa:List α):(ab++c::aa)[((ab.length:Nat):Int).toNat]? = some c:=oC
def pm{α:Type}(ab:List α)(c d:α)(aa:List α):List.set (ab++c::aa) ((ab.length:Nat):Int).toNat d=ab++d::aa:=oC
def ar(k:Nat)(h:k<9223372036854775807:=by omega):ae ((k:Int)+1)=((k+1:Nat):Int):=by rw[bt];omega
def jh(P:UInt8->Prop)(h:∀n:_root_.Fin 256,P (UInt8.ofNat n.val))(c:UInt8):P c:=by
 have:=h ⟨c.toNat,c.toNat_lt⟩;simpa using this
def lo(c:UInt8):UInt8:=if 65<=c/\c<=90 then c+32 else c
def bl(c:UInt8):Bool:=c==32||c==9
def ch(l:List UInt8):List UInt8:=(l.reverse.dropWhile bl).reverse
def be(l:List UInt8):List UInt8:=l.dropWhile bl
def gz(l:List UInt8):List UInt8:=ch (be l)
def yf(t:List UInt8)(c:UInt8):ch (t++[c])=if bl c then ch t else t++[c]:=by
 unfold ch;rw[List.reverse_append,List.reverse_singleton,wM,List.dropWhile];cases bl c
 ·simp
 ·simp
def ft(n:Nat)(h:n<1000000000):ae (((n+1:Nat):Int)-1)=(n:Int):=by rw[bt];omega
def th{α:Type}(t:List α)(c:α):ai (t++[c]) (t.length:Int)=some c:=a6 t c []
def t6{α:Type}(t:List α)(c:α):List.take ((t.length:Nat):Int).toNat (t++[c])=t:=oC
def fk{α:Type}(t:List α)(c:α):((t++[c]).length:Int)=((t.length+1:Nat):Int):=oC
def la{α:Type}(ab:List α)(aa:List α):List.drop ((ab.length:Nat):Int).toNat (ab++aa)=aa:=oC
def t7{α:Type}(ab:List α)(aa:List α):List.take ((ab.length:Nat):Int).toNat (ab++aa)=ab:=oC
def qab{α:Type}(ab:List α)(c:α)(aa:List α):List.drop ((ab.length+1:Nat):Int).toNat (ab++c::aa)=aa:=by
 rw[show((ab.length+1:Nat):Int).toNat=(ab++[c]).length by simp,show ab++c::aa=(ab++[c])++aa by simp]
 simp
def cn{α:Type}(ab:List α)(c:α)(aa:List α):((ab++c::aa).length:Int)=((ab.length+aa.length+1:Nat):Int):=by simp;omega
def qam{α:Type}(ab:List α)(aa:List α):((ab++aa).length:Int)=((ab.length+aa.length:Nat):Int):=oC
def va(k:UInt8)(t r:List UInt8)(h:∀x∈t,x≠k):Lib.indexByte (t++k::r) k=(t.length:Int):=by
 induction t with
 |nil=>simp[Lib.indexByte]|cons c t ih=>
  have hc:=h c qH;rw[wK,Lib.indexByte,ih (fun x hx=>h x (qE _ hx)),qW (by simpa using hc),qW (by simp<;>omega)]
  simp
def vb(k:UInt8)(t:List UInt8)(h:∀x∈t,x≠k):Lib.indexByte t k = -1:=by
 induction t with
 |nil=>rfl|cons c t ih=>
  have hc:=h c qH;rw[Lib.indexByte,ih (fun x hx=>h x (qE _ hx)),qW (by simpa using hc),qX oF]
def ob(k:UInt8):∀(s:List UInt8),(∃t r,s=t++k::r/\∀x∈t,x≠k)\/∀x∈s,x≠k
 |[] => .inr (fun _ h=>by cases h)
 |c::s=>by
  by_cases hc:c=k
  ·subst hc;exact .inl ⟨[],s,rfl,fun _ h=>by cases h⟩
  ·rcases ob k s with⟨t,r,rfl,h⟩|h
   ·exact .inl ⟨c::t,r,rfl,fun x hx=>(List.mem_cons.1 hx).elim (fun e=>e▸hc) (h x)⟩
   ·exact .inr fun x hx=>(List.mem_cons.1 hx).elim (fun e=>e▸hc) (h x)
def zh3(k:UInt8)(s:List UInt8):(0<=Lib.indexByte s k)↔k∈s:=by
 rcases ob k s with⟨t,r,rfl,h⟩|h
 ·rw[va k t r h];simp
 ·rw[vb k s h];constructor
  ·intro h;omega
  ·intro hk;exact absurd rfl (h k hk)
def cu{α:Type}{x y:α}:(bif !false then x else y)=x:=rfl
def bq{α:Type}{x y:α}:(bif !true then x else y)=y:=rfl
def qul(a b:UInt8):(a==b)=(b==a):=by
 by_cases h:a=b
 ·rw[h]
 ·rw[beq_false_of_ne h,beq_false_of_ne (Ne.symm h)]
def zfk{a b:Nat}(h:a<b):Nat.blt a b=true:=Nat.ble_eq_true_of_le h
def zfj{a b:Nat}(h:¬a<b):Nat.blt a b=false:=by
 cases hq:Nat.blt a b
 ·rfl
 ·exact absurd (Nat.le_of_ble_eq_true hq) h
def q62(l:List UInt8)(k:Nat)(c:UInt8)(h:l[k]? = some c):(⟨l.toArray⟩:ByteArray).get! k=c:=by
 obtain⟨hk,rfl⟩:=List.getElem?_eq_some_iff.1 h;show(l.toArray)[k]! = _;simp[hk]
def z3r(l:List UInt8):(⟨l.toArray⟩:ByteArray).size=l.length:=by simp[ByteArray.size]
def zkg(s:List UInt8)(p:Nat)(c:UInt8)(h:s[p]? = some c)(hc:c.toNat<128):f9 s p=(c.toNat,1):=by
 unfold f9 Utf8.decode;simp only[Nat.add_zero,q62 s p c h,hc,if_true]
def z1h(s:List UInt8)(p:Nat)(c:UInt8)(h:s[p]? = some c)(hc:128<=c.toNat):128<=(f9 s p).1/\1<=(f9 s p).2/\∀j,j<(f9 s p).2->∃d,s[p+j]? = some d/\128<=d.toNat:=by
 have hn:¬c.toNat<128:=oA
 have cont:∀k,(decide (p+k<(⟨s.toArray⟩:ByteArray).size)&&((⟨s.toArray⟩:ByteArray).get! (p+k)).toNat/64==2)=true->∃d,s[p+k]? = some d/\128<=d.toNat:=by
  intro k hk;simp only[qA,decide_eq_true_eq,beq_iff_eq,z3r]at hk;obtain⟨h1,h2⟩:=hk;refine⟨s[p+k],by simp[h1],?_⟩
  rw[q62 s (p+k) s[p+k] (by simp[h1])]at h2
  omega
 have z:∀j,j<1->∃d,s[p+j]? = some d/\128<=d.toNat:=fun j hj=>by
  obtain rfl:j=0:=oA
  exact⟨c,h,hc⟩
 unfold f9 Utf8.decode;simp only[Nat.add_zero,q62 s p c h,hn,if_false];split
 ·rename_i hk;simp only[qA]at hk;have c1:=cont 1 (by simpa using hk.2)
  split
  ·rename_i hge;refine⟨hge,oC,fun j hj => ?_⟩
   match j,hj with|0,_=>exact⟨c,h,hc⟩|1,_=>exact c1
  ·exact⟨oZ,wF _,z⟩
 ·split
  ·rename_i hk;simp only[qA]at hk;have c1:=cont 1 (by simpa using hk.1.2)
   have c2:=cont 2 (by simpa using hk.2)
   split
   ·rename_i hge;simp only[qA,decide_eq_true_eq]at hge;refine⟨oJ,oC,fun j hj => ?_⟩
    match j,hj with|0,_=>exact⟨c,h,hc⟩|1,_=>exact c1|2,_=>exact c2
   ·exact⟨oZ,wF _,z⟩
  ·split
   ·rename_i hk;simp only[qA]at hk;have c1:=cont 1 (by simpa using hk.1.1.2)
    have c2:=cont 2 (by simpa using hk.1.2)
    have c3:=cont 3 (by simpa using hk.2)
    split
    ·rename_i hge;simp only[qA,decide_eq_true_eq]at hge;refine⟨oJ,oC,fun j hj => ?_⟩
     match j,hj with|0,_=>exact⟨c,h,hc⟩|1,_=>exact c1|2,_=>exact c2|3,_=>exact c3
    ·exact⟨oZ,wF _,z⟩
   ·exact⟨oZ,wF _,z⟩
def z1l(n:Int)(h:128<=n):∃t c,qr n=t++[c]/\128<=c.toNat/\t.length<=3:=by
 unfold qr Utf8.encode;have hc:∀c:Nat,(if Utf8.valid n=true then n.toNat else Utf8.runeError)=c->128<=c:=by
  intro c hc;split at hc
  ·omega
  ·subst hc;decide
 have last:∀m:Nat,128<=(UInt8.ofNat (0x80+m%64)).toNat:=fun m=>by
  simp only[UInt8.toNat_ofNat'];omega
 generalize hq:(if Utf8.valid n=true then n.toNat else Utf8.runeError)=c
 have hc:=hc c hq;simp only[];rw[qW oA]
 split
 ·exact⟨[_],_,rfl,last _,oC⟩
 ·split
  ·exact⟨[_,_],_,rfl,last _,oC⟩
  ·exact⟨[_,_,_],_,rfl,last _,oC⟩
def q7p(c:UInt8):(c+97)-65=c+32:=by
 rw[UInt8.sub_eq_add_neg,UInt8.add_assoc];rfl
def qow(fu:Nat):∀(n:Nat)(ab aa:List UInt8),aa.length<n->ab.length+aa.length<=9223372036854775807 ->
  ws fu n ((ab.length+aa.length:Nat):Int) (ab.length:Int) (ab++aa)=some (ab++aa.map lo)
 |0,_,_,h,_=>absurd h oA|n+1,ab,[],_,_=>by simp[ws,qfi]|n+1,ab,c::aa,h,hb=>by
  simp only[qL]at h hb;have ih:=fun d=>qow fu n (ab++[d]) aa oA oB
  simp only[qM,qL,qZ,qS,wM,wO]at ih;have e:((ab.length+(c::aa).length:Nat):Int)=((ab.length+1+aa.length:Nat):Int):=by simp only[qL];omega
  have hl:0<=(ab.length:Int)/\(ab.length:Int).toNat<(ab++c::aa).length:=oC
  rw[e];simp only[ws,qfi];rw[af oA,af hl,ic,qB,pm,ar _,bp,bp,ih,ih,af hl,qB]
  unfold lo;simp only[List.map_cons,q7p];by_cases h1:(65:UInt8)<=c
  ·by_cases h2:c<=90
   ·simp[h1,h2]
   ·simp[h1,h2]
  ·simp[h1]
def qhl(fu:Nat)(s:List UInt8)(h:s.length<fu)(hb:s.length<=maxLen):zh fu s=some (s.map lo):=by
 unfold zh;rw[af hb];have:=qow fu fu [] s h (by simpa [maxLen] using hb)
 simpa using this
def mi(x a b:Int):gg x a b=some (decide (a<=x/\x<=b)):=by
 unfold gg;by_cases h:a<=x<;>simp[h]
def qpr(a b:UInt8):((a.toNat:Int)<=(b.toNat:Int))↔a<=b:=by rw[UInt8.le_iff_toNat_le];omega
def qpb(fu:Nat):∀(n:Nat)(ab aa:List UInt8),aa.length<n->ab.length+aa.length<=9223372036854775807 ->
  wl fu n (ab.length:Int) (ab++aa)=some (ab++aa.map lo)
 |0,_,_,h,_=>absurd h oA|n+1,ab,[],_,_=>by simp[wl,qek]|n+1,ab,c::aa,h,hb=>by
  simp only[qL]at h hb;have ih:=fun d=>qpb fu n (ab++[d]) aa oA oB
  simp only[qM,qL,qZ,qS,wM,wO]at ih;have hl:0<=(ab.length:Int)/\(ab.length:Int).toNat<(ab++c::aa).length:=oC
  simp only[wl,qek];rw[af oB,af hl,ic,qB,mi,qB,ar _,bp,af hl,qB,af hl,qB,pm,ih,ih]
  unfold lo;simp only[List.map_cons];have e1:=qpr 65 c;have e2:=qpr c 90;have q1:((65:UInt8).toNat:Int)=65:=rfl;have q2:((90:UInt8).toNat:Int)=90:=rfl;rw[q1]at e1;rw[q2]at e2;by_cases h1:(65:UInt8)<=c/\c<=90
  ·rw[qX ⟨e1.2 h1.1,e2.2 h1.2⟩,qX h1]
  ·rw[qW (fun q=>h1 ⟨e1.1 q.1,e2.1 q.2⟩),qW h1]
def ya(fu:Nat)(s:List UInt8)(h:s.length<fu)(hb:s.length<=maxLen):rq fu s=some (s.map lo):=by
 unfold rq;rw[af hb];have:=qpb fu fu [] s h (by simpa [maxLen] using hb)
 simpa using this
def zts(fu:Nat)(a b:List UInt8)(ha:a.length<fu)(hb:b.length<fu)(ha':a.length<=maxLen)(hb':b.length<=maxLen):fw fu a b=some (a.map lo==b.map lo):=by
 unfold fw;rw[d6,qhl fu a ha ha',qhl fu b hb hb'];by_cases h:(a.length:Int)=b.length
 ·rw[qX h];rfl
 ·rw[qW h];have:(a.map lo==b.map lo)=false:=by
   rw[beq_eq_false_iff_ne];intro q;apply h;have:=congrArg List.length q;simp only[wC]at this;omega
  rw[this]
def qt8(fu:Nat)(a b:List UInt8)(ha:a.length<fu)(hb:b.length<fu)(ha':a.length<=maxLen)(hb':b.length<=maxLen):fg fu a b=some (a.map lo==b.map lo):=by
 unfold fg;rw[ya fu a ha ha',ya fu b hb hb'];rfl
def z4w(c:UInt8):d9 (c.toNat:Int)=c:=by
 unfold d9;have:=c.toNat_lt;rw[show((c.toNat:Int)%256).toNat=c.toNat by omega]
 simp
def zl0(s:List UInt8)(c:UInt8):qm3 s c=some (Lib.indexByte s c):=rfl
def zw8(fu:Nat)(cs:List UInt8)(c:UInt8)(h:c.toNat<128):qcm fu cs (c.toNat:Int)=some (Lib.indexByte cs c):=by
 unfold qcm qm4;rw[af oA,af oA,z4w,zl0];rfl
def zw6(fu n:Nat):∀(cs:List UInt8)(p:Nat),(∀c∈cs,c.toNat<128)->cs.length-p<n->p<=cs.length->qm5 fu n cs p=some (-1):=by
 induction n with
 |zero=>intro cs p _ h;omega|succ n ih=>
  intro cs p hA h hp;rw[qm5,q3j];by_cases hlt:p<cs.length
  ·have e:cs[p]? = some cs[p]:=List.getElem?_eq_getElem hlt;have hc:=hA cs[p] (List.getElem_mem hlt);rw[au (zfk hlt),zkg cs p _ e hc,d6,qW oJ]
   exact ih cs (p+1) hA oA oA
  ·rw[aw (zfj hlt)]
def zw7(fu:Nat)(cs:List UInt8)(r:Int)(hr:128<=r)(hA:∀c∈cs,c.toNat<128)(hfu:cs.length<fu)(hb:cs.length<1000):qcm fu cs r=some (-1):=by
 unfold qcm qm4;rw[af oA,ao,d6]
 by_cases h1:r=65533
 ·rw[qX h1];exact zw6 fu fu cs 0 hA oA oA
 rw[qW h1];have hv:∃b,qtu r=some b:=by
  unfold qtu;simp only[bp]
  repeat' split
  all_goals exact⟨_,rfl⟩
 obtain⟨b,hv⟩:=hv;rw[hv,qB];cases b
 ·rfl
 rw[show(!true)=false from rfl,qF]
 obtain⟨t,c,e,hc,ht⟩:=z1l r hr;rw[e,fk,ft _ oA]
 obtain⟨n,rfl⟩:∃n,fu=n+1:=⟨fu-1,oA⟩
 rw[qth,q3k];by_cases hl:t.length<cs.length
 ·have hcs:=hA cs[t.length] (List.getElem_mem hl);have hne:cs[t.length]≠c:=fun e=>by rw[e]at hcs;omega
  rw[af oA,vc _ _ hl,qB,th,qB,uu,qX hne,ar _,af oA,qB,zl0,qB,vb,af oF]
  intro x hx e;have:=hA x (List.mem_of_mem_drop hx);rw[e]at this;omega
 ·rw[ao]
def mw(cs:List UInt8):List Bool:=cs.foldl (fun m c=>m.set c.toNat true) (List.replicate 256 false)
structure AC(cs:List UInt8):Prop where
 two:2<=cs.length
 few:cs.length<100
 low:∀c∈cs,c.toNat<128
 set:∀n,qf9 (n+100) cs=some (mw cs,true)
 get:∀c:UInt8,(mw cs)[c.toNat]? = some (cs.contains c)
 len:(mw cs).length=256
def qn8{cs:List UInt8}(A:AC cs)(c:UInt8):qf8 c (mw cs)=some (cs.contains c,mw cs):=by
 unfold qf8;rw[A.get];rfl
def zwv{cs:List UInt8}(A:AC cs)(fu n:Nat):∀(ab aa:List UInt8),aa.length<n->ab.length+aa.length<1000000000 ->
  ∃r,qm1 fu n (ab++aa) (ab.length:Int) (mw cs)=some r/\decide (0<=r)=aa.any cs.contains:=by
 induction n with
 |zero=>intro ab aa h;omega|succ n ih=>
  intro ab aa h hb;rw[qm1,q3g]
  cases aa with
  |nil=>rw[ao];exact⟨-1,rfl,rfl⟩|cons c aa=>
   simp only[qL]at h hb;rw[cn,af oA,a6,qB,qn8 A,qB]
   cases hc:cs.contains c
   ·obtain⟨r,h1,h2⟩:=ih (ab++[c]) aa oA oB
    refine⟨r,?_,by rw[h2,List.any_cons,hc,Bool.false_or]⟩
    rw[ar _]
    simpa using h1
   ·exact⟨_,rfl,by rw[List.any_cons,hc,Bool.true_or];exact decide_eq_true oA⟩
def zww{cs:List UInt8}(A:AC cs)(fu:Nat)(hfu:100<=fu)(s:List UInt8):∀(n p:Nat),s.length-p<n->p<=s.length ->
  ∃r,qm2 fu n cs s p=some r/\decide (0<=r)=(s.drop p).any cs.contains:=by
 intro n
 induction n with
 |zero=>intro p h;omega|succ n ih=>
  intro p h hp;rw[qm2,q3h];by_cases hlt:p<s.length
  ·have e:s[p]? = some s[p]:=List.getElem?_eq_getElem hlt;have hd:s.drop p=s[p]::s.drop (p+1):=List.drop_eq_getElem_cons hlt;rw[au (zfk hlt)];by_cases hc:s[p].toNat<128
   ·rw[zkg s p _ e hc];simp only;rw[zw8 fu cs _ hc,qB,bp,hd,List.any_cons];by_cases hm:s[p]∈cs
    ·rw[qX ((zh3 _ _).2 hm)];exact⟨_,rfl,by rw[show cs.contains s[p]=true by simpa using hm,Bool.true_or];exact decide_eq_true oA⟩
    ·rw[qW (fun h=>hm ((zh3 _ _).1 h))]
     obtain⟨r,h1,h2⟩:=ih (p+1) oA oA
     exact⟨r,h1,by rw[h2,show cs.contains s[p]=false by simpa using hm,Bool.false_or]⟩
   ·obtain⟨q1,q2,q3⟩:=z1h s p _ e oA
    rw[zw7 fu cs _ oA A.low (by have:=A.few;omega) (by have:=A.few;omega),qB,ao oF]
    have hle:p+(f9 s p).2<=s.length:=by
     obtain⟨d,hd,_⟩:=q3 ((f9 s p).2-1) oA
     have:=(List.getElem?_eq_some_iff.1 hd).1;omega
    obtain⟨r,h1,h2⟩:=ih (p+(f9 s p).2) oA hle
    refine⟨r,h1,?_⟩;rw[h2];have:∀w,(∀j,j<w->∃d,s[p+j]? = some d/\128<=d.toNat)->(s.drop (p+w)).any cs.contains=(s.drop p).any cs.contains:=by
     intro w
     induction w with
     |zero=>intro _;rfl|succ w ihw=>
      intro hw;rw[← ihw (fun j hj=>hw j oA)]
      obtain⟨d,hd,hd2⟩:=hw w oA
      obtain⟨k1,k2⟩:=List.getElem?_eq_some_iff.1 hd;rw[List.drop_eq_getElem_cons k1,k2,List.any_cons,show cs.contains d=false by
       simp only[List.contains_eq_mem,decide_eq_false_iff_not];intro hm;have:=A.low d hm;omega,Bool.false_or]
      rfl
    exact this _ q3
  ·rw[aw (zfj hlt)];exact⟨-1,rfl,by rw[List.drop_eq_nil_of_le oA];rfl⟩
def zuf{cs:List UInt8}(A:AC cs)(fu:Nat)(s:List UInt8)(hfu:100<=fu)(h:s.length<fu)(hb:s.length<1000000000):qtc fu s cs=some (s.any cs.contains):=by
 unfold qtc;have:∃r,qtf fu s cs=some r/\decide (0<=r)=s.any cs.contains:=by
  unfold qtf;have h2:=A.two;rw[aw (by cases cs with
   |nil=>simp at h2| cons a b=>rfl),d6,qW oA]
  unfold q32;rw[qB,bp];split
  ·obtain⟨n,rfl⟩:∃n,fu=n+100:=⟨fu-100,oA⟩
   rw[A.set,qB];simp only[A.len];rw[au (by rw[List.length_replicate];rfl),au]
   have:=zwv A (n+100) (n+100) [] s oA (by simpa using hb)
   simpa using this
  ·have:=zww A fu hfu s fu 0 oA oA
   simpa [qtg] using this
 obtain⟨r,h1,h2⟩:=this;rw[h1,qB,h2]
def zr5:∀n:_root_.Fin 256,(mw [13,10,0])[(UInt8.ofNat n.val).toNat]? = some (([13,10,0]:List UInt8).contains (UInt8.ofNat n.val)):=by decide +kernel
def ac1:AC [13,10,0]:=⟨oF,oF,oF,fun n=>oD,fun c=>jh (fun c=>(mw [13,10,0])[c.toNat]? = some (([13,10,0]:List UInt8).contains c)) zr5 c,by decide +kernel⟩
def zr6:∀n:_root_.Fin 256,(mw [32,9])[(UInt8.ofNat n.val).toNat]? = some (([32,9]:List UInt8).contains (UInt8.ofNat n.val)):=by decide +kernel
def zz:AC [32,9]:=⟨oF,oF,oF,fun n=>oD,fun c=>jh (fun c=>(mw [32,9])[c.toNat]? = some (([32,9]:List UInt8).contains c)) zr6 c,by decide +kernel⟩
def zfh(c:UInt8):([32,9]:List UInt8).contains c=bl c:=by rw[Bool.eq_iff_iff];simp[bl]
def zlj(c:UInt8)(s:List UInt8):ch (c::s)=if ch s=[] then(if bl c then[] else[c]) else c::ch s:=by
 unfold ch;rw[List.reverse_cons];generalize s.reverse=r
 induction r with
 |nil=>simp[List.dropWhile];cases bl c<;>rfl
 |cons x r ih=>
  rw[wK,List.dropWhile,List.dropWhile];cases bl x
  ·simp
  ·simpa using ih
def tn(c:UInt8)(s:List UInt8):be (c::s)=if bl c then be s else c::s:=by
 unfold be;rw[List.dropWhile];cases bl c<;>rfl
def q94:∀s:List UInt8,be (ch s)=gz s
 |[]=>rfl|c::s=>by
  unfold gz;have ih:=q94 s;unfold gz at ih;rw[zlj,tn];cases hc:bl c
  ·simp only[wJ,if_false];rw[zlj,hc];simp only[wJ,if_false];split
   ·rw[tn,hc];rfl
   ·rw[tn,hc];rfl
  ·simp only[if_true];rw[← ih];split
   ·rename_i h;rw[h]
   ·rw[tn,hc];rfl
def vn(s:List UInt8):(ch s).length<=s.length:=by
 unfold ch;rw[List.length_reverse];have:=(List.dropWhile_sublist bl (l:=s.reverse)).length_le;simpa using this
def mg(s:List UInt8):(be s).length<=s.length:=(List.dropWhile_sublist bl).length_le
def z43(s:List UInt8):(gz s).length<=s.length:=Nat.le_trans (vn _) (mg _)
def qac(s:List UInt8):Bool := !(s.head?.any bl) && !(s.getLast?.any bl)
def z42(s:List UInt8):decide (gz s=s)=qac s:=by
 unfold qac;cases hf:s.head?.any bl
 ·cases hl:s.getLast?.any bl
  ·rw[decide_eq_true];rfl;unfold gz;have h1:be s=s:=by
    cases s with|nil=>rfl|cons c s=>rw[tn];simp at hf;rw[hf];rfl
   rw[h1];rcases List.eq_nil_or_concat s with rfl|⟨t,c,rfl⟩
   ·rfl
   ·rw[List.concat_eq_append]at *;rw[yf];simp at hl;rw[hl];rfl
  ·rw[decide_eq_false];rfl;rw[← q94];rcases List.eq_nil_or_concat s with rfl|⟨t,c,rfl⟩
   ·simp at hl
   ·rw[List.concat_eq_append]at *;simp at hl;rw[yf,hl,qX rfl];intro e;have:=Nat.le_trans (mg (ch t)) (vn t);rw[e]at this;simp at this;omega
 ·rw[decide_eq_false];rfl
  cases s with
  |nil=>simp at hf|cons c s=>
   simp at hf;unfold gz;rw[tn,hf,qX rfl];intro e;have:=Nat.le_trans (vn (be s)) (mg s);rw[e]at this;simp at this;omega
def qn4(c:UInt8):ru c=some (bl c):=by unfold ru bl;cases c==32<;>rfl
def yc(c:UInt8):iw c=some (bl c):=by unfold iw bl;cases c==32<;>rfl
def ji(f:Int×Int):ef f=some (f.1 != 0):=rfl
def xw(c:UInt8):Bool:=decide (33<=c)&&decide (c<=126)&&c != 58
def ke(s:List UInt8):Bool:=s != []&&decide (s.length<=60)&&s.all xw
def zyy(c:UInt8):qr8 c=some (xw c):=by
 unfold qr8 xw;cases decide (33<=c)<;>cases decide (c<=126)<;>rfl
def zse(fu n:Nat):∀(ab aa:List UInt8),aa.length<n->ab.length+aa.length<1000000000 ->
  qlh fu n (ab++aa) ((ab.length+aa.length:Nat):Int) (ab.length:Int)=some (aa.all xw):=by
 induction n with
 |zero=>intro ab aa h;omega|succ n ih=>
  intro ab aa h hb;rw[qlh,q08]
  cases aa with
  |nil=>rw[ao];rfl|cons c aa=>
   simp only[qL]at h hb ⊢;rw[af oA,a6,qB,zyy,qB,List.all_cons]
   cases hc:xw c
   ·rfl
   ·have:=ih (ab++[c]) aa oA oB
    rw[ar _]
    simp only[qS,wM,qM,qL,qZ]at this;rw[show ab.length+0+1+aa.length=ab.length+(aa.length+1) by omega]at this
    simpa using this
def zv1(fu:Nat)(s:List UInt8)(h:61<fu:=by omega):qr7 fu s=some (ke s):=by
 unfold qr7 ke
 cases s with
 |nil=>rfl|cons c s=>
  rw[show(!c::s==([]:List UInt8))=true from rfl,show(c::s != ([]:List UInt8))=true from rfl,qT,bp]
  split
  ·rename_i hl;simp only[qL]at hl;unfold q07;have:=zse fu fu [] (c::s) oG oU
   simp only[List.nil_append,qZ,wO]at this;rw[show(0:Int)=((0:Nat):Int) from rfl,this,decide_eq_true oG]
   rfl
  ·rename_i hl;rw[decide_eq_false oA]
   rfl
def zk7(a b c:Int):gg a b c=some (decide (b<=a)&&decide (a<=c)):=by
 unfold gg;rw[bp];split
 ·rename_i h;rw[decide_eq_true h];rfl
 ·rename_i h;rw[decide_eq_false h];rfl
def zy0:∀n:_root_.Fin 256,(decide ((33:Int)<=((UInt8.ofNat n.val).toNat:Int))&&decide (((UInt8.ofNat n.val).toNat:Int)<=126) && !((UInt8.ofNat n.val)==58))=xw (UInt8.ofNat n.val):=by decide +kernel
def zyz(c:UInt8):(decide ((33:Int)<=(c.toNat:Int))&&decide ((c.toNat:Int)<=126) && !(c==58))=xw c:=jh (fun c=>(decide ((33:Int)<=(c.toNat:Int))&&decide ((c.toNat:Int)<=126) && !(c==58))=xw c) zy0 c
def z2g(fu n:Nat):∀(ab aa:List UInt8),aa.length<n->ab.length+aa.length<1000000000 ->
  qje fu n (ab++aa) (ab.length:Int)=some (aa.all xw&&(decide (1<=ab.length+aa.length)&&decide (ab.length+aa.length<=60))):=by
 induction n with
 |zero=>intro ab aa h;omega|succ n ih=>
  intro ab aa h hb;rw[qje,qys]
  cases aa with
  |nil=>
   rw[ao,zk7,List.all_nil,Bool.true_and]
   simp only[List.append_nil,qZ,Nat.add_zero,qB];congr 2
   ·rw[Bool.eq_iff_iff];simp only[decide_eq_true_eq];omega
   ·rw[Bool.eq_iff_iff];simp only[decide_eq_true_eq];omega
  |cons c aa=>
   simp only[qL]at h hb ⊢;rw[cn,af oA,a6,qB,zk7,qB,qB,List.all_cons,← zyz]
   cases decide ((33:Int)<=(c.toNat:Int))&&decide ((c.toNat:Int)<=126)
   ·rfl
   ·cases c==58
    ·have:=ih (ab++[c]) aa oA oB
     rw[ar _]
     simp only[qS,wM,qM,qL,qZ]at this;rw[show ab.length+(0+1)+aa.length=ab.length+(aa.length+1) by omega]at this
     simpa using this
    ·rfl
def zk9(fu:Nat)(s:List UInt8)(h:s.length<fu:=by omega)(hb:s.length<1000000000:=by omega):qjd fu s=some (ke s):=by
 unfold qjd ke;have:=z2g fu fu [] s h (by simpa using hb)
 rw[show(0:Int)=(([]:List UInt8).length:Int) from rfl,show s=[]++s from rfl,this]
 simp only[qZ,wO,List.nil_append];congr 1
 cases s with
 |nil=>rfl|cons c s=>
  rw[show(c::s != ([]:List UInt8))=true from rfl,decide_eq_true (show 1<=(c::s).length by simp)]
  simp only[Bool.true_and];exact Bool.and_comm _ _
def qdb(s:List UInt8):Bool := !(s.any ([13,10,0]:List UInt8).contains)&&qac s
def zhv(fu:Nat)(s:List UInt8)(hfu:100<=fu)(h:s.length<fu)(hb:s.length<1000000000):qsb fu s=some (qdb s):=by
 unfold qsb q1z qdb;rw[zuf ac1 fu s hfu h hb,qB,qB];cases s.any ([13,10,0]:List UInt8).contains
 ·rw[cu];unfold qac
  cases s with
  |nil=>rfl|cons c t=>
   rw[aw (by rfl),show ai (c::t) (0:Int)=some c from rfl,qB,qn4,qB]
   rw[show(c::t).head?.any bl=bl c from rfl]
   cases bl c
   ·rw[cu];rcases List.eq_nil_or_concat (c::t) with e|⟨u,d,e⟩
    ·cases e
    ·rw[List.concat_eq_append]at e;rw[e]at hb ⊢;simp only[qM,qL,qZ]at hb;rw[fk,ft _ oA,th,qB,qn4,qB]
     simp
   ·rfl
 ·rfl
def zli(fu:Nat)(_r0:Nat->List UInt8->Option (List UInt8))(n:Nat):∀(s:List UInt8),s.length<n->s.length<1000000000->qke fu n s=some (ch s):=by
 induction n with
 |zero=>intro s h;omega|succ n ih=>
  intro s h hb;rw[qke,qzx];rcases List.eq_nil_or_concat s with rfl|⟨t,c,rfl⟩
  ·rw[ao];rfl
  ·rw[List.concat_eq_append]at *;simp only[qM,qL,qZ]at h hb;rw[fk,af oA,ft _ oA,th,qB,yc,qB,t6,af oA,ih t oA oA,yf]
   cases bl c<;>rfl
def z07(fu n:Nat):∀(s:List UInt8),s.length<n->s.length<fu->s.length<1000000000->qkc fu n s=some (gz s):=by
 induction n with
 |zero=>intro s h;omega|succ n ih=>
  intro s h hf hb;rw[qkc,qzw]
  cases s with
  |nil=>
   rw[ao]
   unfold qkd;rw[aw (by rfl),zli fu (fun _ _=>none) fu [] hf hb];rfl
  |cons c s=>
   rw[af oC,show ai (c::s) (0:Int)=some c from rfl,qB,yc,qB]
   unfold qkd gz;rw[tn];simp only[qL]at h hf hb;cases bl c
   ·rw[aw (by rfl),zli fu (fun _ _=>none) fu (c::s) oG oG];rfl
   ·rw[au]
    unfold qzy;rw[af oG]
    exact ih s oA oA oA
def zkb(fu:Nat)(s:List UInt8)(h:s.length<fu)(hb:s.length<1000000000):qq9 fu s=some (gz s):=z07 fu fu s h h hb
def qxq(fu n:Nat):∀(s:List UInt8),s.length<n->s.length<1000000000->qng fu n s (mw [32,9])=some (ch s,mw [32,9]):=by
 induction n with
 |zero=>intro s h;omega|succ n ih=>
  intro s h hb;rw[qng,q36];rcases List.eq_nil_or_concat s with rfl|⟨t,c,rfl⟩
  ·rw[ao];rfl
  ·rw[List.concat_eq_append]at *;simp only[qM,qL,qZ]at h hb;rw[fk,af oA,ft _ oA,th,qB,qn8 zz,qB,t6,af oA,ih t oA oA,yf,zfh]
   cases bl c<;>rfl
def qpt(fu:Nat)(s:List UInt8)(hfu:100<=fu)(h:s.length<fu)(hb:s.length<1000000000):qm8 fu s [32,9]=some (ch s):=by
 unfold qm8
 cases s with
 |nil=>rfl|cons c s=>
  rw[aw (by rfl)]
  unfold qtm;rw[aw (by rfl)]
  unfold q3v;rw[aw oF]
  unfold qtn;rw[aw (by rfl)]
  unfold q3w;obtain⟨n,rfl⟩:∃n,fu=n+100:=⟨fu-100,oA⟩
  rw[zz.set,qB];simp only[zz.len];rw[au (by rw[List.length_replicate];rfl),au]
  unfold qnf;rw[qxq _ _ _ h hb];rfl
def zzh(fu:Nat)(hfu:10<=fu)(c a b d:UInt8):y8 fu c [a,b,d]=some (([a,b,d]:List UInt8).contains c):=by
 obtain⟨n,rfl⟩:∃n,fu=n+10:=⟨fu-10,oA⟩
 unfold y8;simp only[qes,qq0];rw[au,show ai [a,b,d] (0:Int)=some a from rfl,qB]
 simp only[List.contains_cons,List.contains_nil,Bool.or_false];rw[qul a c,show(ae (0+1))=(1:Int) from rfl]
 cases c==a
 ·rw[aw (by rfl),au,show ai [a,b,d] (1:Int)=some b from rfl,qB,qul b c,show(ae (1+1))=(2:Int) from rfl]
  cases c==b
  ·rw[aw (by rfl),au,show ai [a,b,d] (2:Int)=some d from rfl,qB,qul d c,show(ae (2+1))=(3:Int) from rfl]
   cases c==d
   ·rfl
   ·rfl
  ·rfl
 ·rfl
def z1d(fu n:Nat)(hfu:10<=fu):∀(ab aa:List UInt8),aa.length<n->ab.length+aa.length<1000000000->ab.length+aa.length<fu ->
  qec fu n (ab++aa) (ab.length:Int)=some (if aa.any ([13,10,0]:List UInt8).contains || !qac (ab++aa) then 11 else 0):=by
 induction n with
 |zero=>intro ab aa h;omega|succ n ih=>
  intro ab aa h hb hf;rw[qec,qyr]
  cases aa with
  |nil=>
   rw[ao,List.append_nil,zkb fu ab (by simpa using hf) (by simpa using hb),qB,← z42,List.any_nil,Bool.false_or]
   by_cases e:gz ab=ab
   ·rw[decide_eq_true e,e];simp
   ·rw[decide_eq_false e,au (by simpa using e)];rfl
  |cons c aa=>
   simp only[qL]at h hb hf;rw[cn,af oA,a6,qB,zzh fu hfu,qB,List.any_cons]
   cases hc:([13,10,0]:List UInt8).contains c
   ·have:=ih (ab++[c]) aa oA oB oB
    rw[aw (by rfl),ar _,Bool.false_or]
    simpa using this
   ·rfl
def qg(n v:List UInt8):Int:=if ke n then(if 4000<v.length then 1 else if qdb v then 0 else 11) else 10
def z1c(fu:Nat)(n v:List UInt8)(hfu:10<=fu)(hn:n.length<fu)(hv:v.length<fu)(hnb:n.length<1000000000)(hvb:v.length<1000000000):qjc fu n v=some (qg n v):=by
 unfold qjc qg;rw[zk9 fu n hn hnb,qB];cases ke n
 ·rfl
 ·rw[aw (by rfl),qX rfl,bp]
  split
  ·rename_i h;rw[qX oA]
  ·rename_i h;rw[qW oA]
   have:=z1d fu fu hfu [] v hv (by simpa using hvb) (by simpa using hv)
   simp only[List.nil_append,qZ]at this;have this:qec fu fu v 0=some (if(v.any ([13,10,0]:List UInt8).contains || !qac v)=true then 11 else 0):=this
   rw[this];unfold qdb;cases v.any ([13,10,0]:List UInt8).contains<;>cases qac v<;>rfl
def tk(c:UInt8):Bool:=decide (33<=c)&&decide (c<=126) && !([40,41,60,62,64,44,59,58,92,34,47,91,93,63,61,42,37,39]:Bs).contains c
def z4v:∀n:_root_.Fin 256,ry (UInt8.ofNat n.val)=some (tk (UInt8.ofNat n.val)):=by decide +kernel
def qpq(c:UInt8):ry c=some (tk c):=jh (fun c=>ry c=some (tk c)) z4v c
def zzi(fu n:Nat)(c:UInt8):∀(ab aa:Bs),aa.length<n->ab.length+aa.length<1000000000 ->
  qes fu n c (ab++aa) (ab.length:Int)=some (aa.contains c):=by
 induction n with
 |zero=>intro ab aa h;omega|succ n ih=>
  intro ab aa h hb;rw[qes,qq0]
  cases aa with
  |nil=>rw[ao];rfl|cons d aa=>
   simp only[qL]at h hb;rw[cn,af oA,a6,qB,ar _,gy,List.contains_cons]
   have:=ih (ab++[d]) aa oA oB
   simp only[qM,qL,qZ,qS,wM]at this;by_cases e:d=c
   ·rw[qX e];simp[e]
   ·rw[qW e,this];have:(c==d)=false:=by simp;exact fun h=>e h.symm
    rw[this,Bool.false_or]
def zjl(fu:Nat)(c:UInt8)(l:Bs)(h:l.length<fu:=by omega)(hb:l.length<1000000000:=by omega):y8 fu c l=some (l.contains c):=by
 have:=zzi fu fu c [] l h (by simpa using hb)
 simpa [y8] using this
def q9f(fu:Nat)(hfu:100<=fu)(c:UInt8):qez fu c=some (tk c):=by
 unfold qez;rw[mi,qB,zjl fu c _ oB oC,qB]
 unfold tk;have h1:(33<=(c.toNat:Int)/\(c.toNat:Int)<=126)↔(33<=c/\c<=126):=by
  rw[UInt8.le_iff_toNat_le,UInt8.le_iff_toNat_le];show _↔(33<=c.toNat/\c.toNat<=126);omega
 by_cases h2:33<=c/\c<=126
 ·rw[decide_eq_true (h1.2 h2),au rfl,decide_eq_true h2.1,decide_eq_true h2.2];rfl
 ·rw[decide_eq_false (fun h=>h2 (h1.1 h)),aw rfl]
  by_cases h3:33<=c
  ·have h4:¬c<=126:=fun h=>h2 ⟨h3,h⟩
   rw[decide_eq_false h4];simp
  ·rw[decide_eq_false h3];simp
def qcw(P:UInt8->Option Bool):Nat->Bs->Int->Int->Option Bool|0,_,_,_=>none|n+1,s0,s7,s8=>bif decide (s8<s7) then(ai s0 s8).bind fun c1=>(P c1).bind fun x2=>bif !x2 then some false else qcw P n s0 s7 (ae (s8+(1:Int))) else some true
def zsd(P:UInt8->Option Bool)(p:UInt8->Bool)(hP:∀c,P c=some (p c))(n:Nat):∀(ab aa:Bs),aa.length<n->ab.length+aa.length<9223372036854775807 ->
  qcw P n (ab++aa) ((ab.length+aa.length:Nat):Int) (ab.length:Int)=some (aa.all p):=by
 induction n with
 |zero=>intro ab aa h;omega|succ n ih=>
  intro ab aa h hb;rw[qcw]
  cases aa with
  |nil=>rw[ao];rfl|cons d aa=>
   simp only[qL]at h hb ⊢;rw[af oA,a6,qB,hP,qB,ar _,List.all_cons]
   have:=ih (ab++[d]) aa oA oB
   simp only[qM,qL,qZ,qS,wM]at this;cases p d
   ·rfl
   ·rw[aw (by rfl),Bool.true_and,show((ab.length+(aa.length+1):Nat):Int)=((ab.length+1+aa.length:Nat):Int) by omega]
    exact this
def q43(P:UInt8->Option Bool)(p:UInt8->Bool)(hP:∀c,P c=some (p c))(n:Nat)(s:Bs)(h:s.length<n)(hb:s.length<9223372036854775807):qcw P n s (s.length:Int) 0=some (s.all p):=by
 have:=zsd P p hP n [] s h (by simpa using hb)
 simpa using this
def zsa(fu:Nat)(s:Bs)(h:s.length<fu)(hb:s.length<9223372036854775807):qrw fu s=some (s.all tk):=by
 have e:∀n,qli fu n=qcw ry n:=by
  intro n;induction n with|zero=>rfl|succ n ih=>rw[qli,ih];funext a b c;rfl
 unfold qrw;rw[e];exact q43 _ _ qpq _ _ h hb
def fq(s:Bs):Bool := !s.isEmpty&&decide (s.length<=60)&&s.all tk
def qxp(fu:Nat)(s:Bs)(h:s.length<fu:=by omega)(hb:s.length<9223372036854775807:=by omega):qcb fu s=some (fq s):=by
 unfold qcb fq;rw[zsa fu s h hb]
 cases s with
 |nil=>rfl|cons c s=>
  rw[au]
  by_cases h1:(c::s).length<=60
  ·rw[af oA,decide_eq_true h1];simp
  ·rw[ao,decide_eq_false h1];simp
def z23(fu n:Nat)(hfu:100<=fu):∀(ab aa:Bs),aa.length<n->ab.length+aa.length<1000000000 ->
  qkb fu n (ab++aa) (ab.length:Int)=some (aa.all tk&&decide (1<=ab.length+aa.length/\ab.length+aa.length<=60)):=by
 induction n with
 |zero=>intro ab aa h;omega|succ n ih=>
  intro ab aa h hb;rw[qkb,qzv]
  cases aa with
  |nil=>
   rw[ao,mi,qB]
   simp only[List.append_nil,List.all_nil,Bool.true_and,qZ,Nat.add_zero];congr 1;apply decide_eq_decide.2;omega
  |cons d aa=>
   simp only[qL]at h hb;rw[cn,af oA,a6,qB,q9f fu hfu,qB,ar _,List.all_cons]
   have:=ih (ab++[d]) aa oA oB
   simp only[qM,qL,qZ,qS,wM]at this;cases tk d
   ·rfl
   ·rw[aw (by rfl),Bool.true_and]
    refine this.trans ?_;simp only[qL];congr 2;apply decide_eq_decide.2;omega
def qxb(fu:Nat)(hfu:100<=fu)(s:Bs)(h:s.length<fu:=by omega)(hb:s.length<1000000000:=by omega):qbw fu s=some (fq s):=by
 have:=z23 fu fu hfu [] s h (by simpa using hb)
 simp only[List.nil_append,qZ,wO]at this;unfold qbw;refine this.trans ?_;unfold fq
 cases s with
 |nil=>rfl|cons c s=>
  congr 1;rw[Bool.and_comm];congr 1;show decide _=(true&&decide _);rw[Bool.true_and];apply decide_eq_decide.2;simp only[qL];omega
open Go.Lib (decodeL decodeN decodeL_N validD validD_step decodeL_le decodeL_width)
def rn(l:Bs):Int×Int:=if(decodeL l).1=65533/\(decodeL l).2=1 then(-1,1) else(((decodeL l).1:Nat),((decodeL l).2:Nat))
def qx(a b:Nat)(h:a+b<9223372036854775808:=by omega):ae ((a:Int)+(b:Int))=((a+b:Nat):Int):=by rw[bt];omega
def zwy{α:Type}(ab l:List α)(k:Nat)(h:k<l.length):ai (ab++l) ((ab.length+k:Nat):Int)=some l[k]:=by
 rw[vc _ _ oB];simp
def zwz(ab l:Bs)(k:Nat)(h:k<l.length):ai (ab++l) ((ab.length+k:Nat):Int)=some (l.getD k 0):=by
 rw[zwy ab l k h];simp[List.getD,h]
def qhr(fu n:Nat)(ab l:Bs)(size v least k:Nat)(hk:k<size:=by omega)(hl:k<l.length:=by omega)(hv:v<10000000:=by omega)(hb:ab.length+l.length<1000000000:=by omega)(hs:size<=4:=by omega) :
  wn fu (n+1) (ab++l) (ab.length:Int) (size:Int) (v:Int) (least:Int) (k:Int) =
   if 128<=(l.getD k 0).toNat/\(l.getD k 0).toNat<=191 then wn fu n (ab++l) (ab.length:Int) (size:Int) ((64*v+(l.getD k 0).toNat-128:Nat):Int) (least:Int) ((k+1:Nat):Int) else some (-1,1):=by
 have hc:(l.getD k 0).toNat<256:=(l.getD k 0).toNat_lt;rw[wn,qq8,af oA,qx _ _,zwz ab l k hl,qB,mi,qB,ar k]
 generalize (l.getD k 0).toNat=x at hc;by_cases h:128<=x/\x<=191
 ·rw[qX h,decide_eq_true oA,bq,show(64:Int)*(v:Int)=((64*v:Nat):Int) by omega,bt (x:=((64*v:Nat):Int)) oA oA,bt (x:=((64*v:Nat):Int)+(x:Int)) oA oA,bt]
  congr 1;omega
 ·rw[qW h,decide_eq_false oA,cu]
def q8g(fu n:Nat)(s:Bs)(i:Int)(size v least:Nat) :
  wn fu (n+1) s i (size:Int) (v:Int) (least:Int) (size:Int)=if v<least\/1114111<v\/(55296<=v/\v<=57343) then some (-1,1) else some ((v:Int),(size:Int)):=by
 rw[wn,qq8,ao]
 by_cases h1:v<least
 ·rw[af oA,qX (.inl h1)]
 rw[ao]
 by_cases h2:1114111<v
 ·rw[af oA,qX (.inr (.inl h2))]
 rw[ao,mi,qB]
 by_cases h3:55296<=v/\v<=57343
 ·rw[af oA,qX (.inr (.inr h3))]
 ·rw[ao,qW oA]
def q8e(fu:Nat)(ab l:Bs)(size v least:Nat)(h:l.length<size)(hs:size<=4:=by omega)(hb:ab.length+l.length<1000000000:=by omega):wm fu (ab++l) (ab.length:Int) (size:Int) (v:Int) (least:Int)=some (-1,1):=by
 rw[wm,d6,qW oA,qx _ _,qka,af (by rw[qam];omega)]
def q8d(fu:Nat)(ab l:Bs)(size v least:Nat)(h:¬l.length<size)(h0:size≠0:=by omega)(hs:size<=4:=by omega)(hb:ab.length+l.length<1000000000:=by omega):wm fu (ab++l) (ab.length:Int) (size:Int) (v:Int) (least:Int)=wn fu fu (ab++l) (ab.length:Int) (size:Int) (v:Int) (least:Int) ((1:Nat):Int):=by
 rw[wm,d6,qW oA,qx _ _,qka,ao (by rw[qam];omega)];rfl
def qoj(x:Nat×Nat):Int×Int:=if x.1=65533/\x.2=1 then(-1,1) else((x.1:Nat),(x.2:Nat))
def qg9:qoj (65533,1)=(-1,1):=rfl
def q6q(x k:Nat)(h:k≠1):qoj (x,k)=((x:Int),(k:Int)):=qW (fun q=>h q.2)
def qu(n b0 b1 b2 b3:Nat):Int×Int:=qoj (decodeN n b0 b1 b2 b3)
def z3g(n b0 b1 b2 b3:Nat)(h:b0<128):qu n b0 b1 b2 b3=((b0:Int),1):=by
 unfold qu decodeN;rw[qX h];unfold qoj;rw[qW (fun q=>by have:=q.1;simp only at this;omega)];rfl
def z3h(n b0 b1 b2 b3:Nat)(h:192<=b0/\b0<=223)(h1:b1<256):qu n b0 b1 b2 b3=if n<2 then(-1,1) else if 128<=b1/\b1<=191 then(if(64*(b0-192)+b1-128)<128\/1114111<(64*(b0-192)+b1-128)\/(55296<=(64*(b0-192)+b1-128)/\(64*(b0-192)+b1-128)<=57343) then(-1,1) else(((64*(b0-192)+b1-128:Nat):Int),2)) else(-1,1):=by
 unfold qu decodeN;rw[qW (c:=b0<128) oA]
 by_cases a1:b0/32=6/\(1<n/\b1/64=2)
 ·rw[qX a1,qW (c:=n<2) oA,qX (c:=128<=b1/\b1<=191) oA]
  obtain⟨z,hz⟩:∃z,b0%32*64+b1%64=z:=⟨_,rfl⟩;obtain⟨y,hy⟩:∃y,64*(b0-192)+b1-128=y:=⟨_,rfl⟩;have hzy:z=y:=oA
  have hm:y<2048:=oA
  rw[hz,hy,hzy];by_cases a2:y ≥ 128
  ·rw[qX a2,q6q _ _ oF,qW oA];rfl
  ·rw[qW a2,qg9,qX oA]
 ·rw[qW a1,qW (c:=b0/16=14/\_) oA,qW (c:=b0/8=30/\_) oA,qg9]
  by_cases a3:n<2
  ·rw[qX a3]
  ·rw[qW a3,qW oA]
def z3i(n b0 b1 b2 b3:Nat)(h:224<=b0/\b0<=239)(h1:b1<256)(h2:b2<256):qu n b0 b1 b2 b3=if n<3 then(-1,1) else if 128<=b1/\b1<=191 then(if 128<=b2/\b2<=191 then(if(64*(64*(b0-224)+b1-128)+b2-128)<2048\/1114111<(64*(64*(b0-224)+b1-128)+b2-128)\/(55296<=(64*(64*(b0-224)+b1-128)+b2-128)/\(64*(64*(b0-224)+b1-128)+b2-128)<=57343) then(-1,1) else(((64*(64*(b0-224)+b1-128)+b2-128:Nat):Int),3)) else(-1,1)) else(-1,1):=by
 unfold qu decodeN;rw[qW (c:=b0<128) oA,qW (c:=b0/32=6/\_) oA]
 by_cases a1:b0/16=14/\(1<n/\b1/64=2)/\(2<n/\b2/64=2)
 ·rw[qX a1,qW (c:=n<3) oA,qX (c:=128<=b1/\b1<=191) oA,qX (c:=128<=b2/\b2<=191) oA]
  obtain⟨z,hz⟩:∃z,b0%16*4096+b1%64*64+b2%64=z:=⟨_,rfl⟩;obtain⟨y,hy⟩:∃y,64*(64*(b0-224)+b1-128)+b2-128=y:=⟨_,rfl⟩;have hzy:z=y:=oA
  have hm:y<65536:=oA
  rw[hz,hy,hzy];by_cases a2:y ≥ 2048/\(y<55296\/(57344<=y/\y<=1114111))
  ·rw[qX a2,q6q _ _ oF,qW oA];rfl
  ·rw[qW a2,qg9,qX oA]
 ·rw[qW a1,qW (c:=b0/8=30/\_) oA,qg9]
  by_cases a3:n<3
  ·rw[qX a3]
  ·rw[qW a3];by_cases a4:128<=b1/\b1<=191
   ·rw[qX a4,qW oA]
   ·rw[qW a4]
def z3j(n b0 b1 b2 b3:Nat)(h:240<=b0/\b0<=247)(h1:b1<256)(h2:b2<256)(h3:b3<256):qu n b0 b1 b2 b3=if n<4 then(-1,1) else if 128<=b1/\b1<=191 then(if 128<=b2/\b2<=191 then(if 128<=b3/\b3<=191 then(if(64*(64*(64*(b0-240)+b1-128)+b2-128)+b3-128)<65536\/1114111<(64*(64*(64*(b0-240)+b1-128)+b2-128)+b3-128)\/(55296<=(64*(64*(64*(b0-240)+b1-128)+b2-128)+b3-128)/\(64*(64*(64*(b0-240)+b1-128)+b2-128)+b3-128)<=57343) then(-1,1) else(((64*(64*(64*(b0-240)+b1-128)+b2-128)+b3-128:Nat):Int),4)) else(-1,1)) else(-1,1)) else(-1,1):=by
 unfold qu decodeN;rw[qW (c:=b0<128) oA,qW (c:=b0/32=6/\_) oA,qW (c:=b0/16=14/\_) oA]
 by_cases a1:b0/8=30/\(1<n/\b1/64=2)/\(2<n/\b2/64=2)/\(3<n/\b3/64=2)
 ·rw[qX a1,qW (c:=n<4) oA,qX (c:=128<=b1/\b1<=191) oA,qX (c:=128<=b2/\b2<=191) oA,qX (c:=128<=b3/\b3<=191) oA]
  obtain⟨z,hz⟩:∃z,b0%8*262144+b1%64*4096+b2%64*64+b3%64=z:=⟨_,rfl⟩;obtain⟨y,hy⟩:∃y,64*(64*(64*(b0-240)+b1-128)+b2-128)+b3-128=y:=⟨_,rfl⟩;have hzy:z=y:=oA
  rw[hz,hy,hzy];by_cases a2:y ≥ 65536/\(y<55296\/(57344<=y/\y<=1114111))
  ·rw[qX a2,q6q _ _ oF,qW oA];rfl
  ·rw[qW a2,qg9,qX oA]
 ·rw[qW a1,qg9];by_cases a3:n<4
  ·rw[qX a3]
  ·rw[qW a3];by_cases a4:128<=b1/\b1<=191
   ·rw[qX a4];by_cases a5:128<=b2/\b2<=191
    ·rw[qX a5,qW oA]
    ·rw[qW a5]
   ·rw[qW a4]
def z3k(n b0 b1 b2 b3:Nat)(h:(128<=b0/\b0<192)\/248<=b0)(hb:b0<256):qu n b0 b1 b2 b3=(-1,1):=by
 unfold qu decodeN;rw[qW (c:=b0<128) oA,qW (c:=b0/32=6/\_) oA,qW (c:=b0/16=14/\_) oA,qW (c:=b0/8=30/\_) oA];rfl
def z2f(l:Bs):rn l=qu l.length (l.getD 0 0).toNat (l.getD 1 0).toNat (l.getD 2 0).toNat (l.getD 3 0).toNat:=by unfold rn qu qoj;rw[decodeL_N]
def zls(fu:Nat)(hfu:10<=fu)(ab:Bs)(c:UInt8)(t:Bs)(hb:ab.length+t.length<100000000:=by omega):qj9 fu (ab++c::t) (ab.length:Int)=some (rn (c::t)):=by
 have hl:(c::t).length=t.length+1:=rfl;obtain⟨n,rfl⟩:∃n,fu=n+10:=⟨fu-10,oA⟩
 rw[z2f,show(c::t).getD 0 0=c from rfl]
 generalize hl2:c::t=l at *;have b1:=(l.getD 1 0).toNat_lt;have b2:=(l.getD 2 0).toNat_lt;have b3:=(l.getD 3 0).toNat_lt;have hc:=c.toNat_lt;unfold qj9;rw[show ai (ab++l) (ab.length:Int)=some c by rw[← hl2];exact a6 ab c t,qB]
 by_cases h0:c.toNat<128
 ·rw[af oA,z3g _ _ _ _ _ h0]
 rw[ao,mi,qB]
 by_cases h2:192<=c.toNat/\c.toNat<=223
 ·rw[af oA,z3h _ _ _ _ _ h2 b1,bt,show(c.toNat:Int)-192=((c.toNat-192:Nat):Int) by omega]
  by_cases g:l.length<2
  ·rw[qX g];exact q8e (n+10) ab l 2 _ 128 g
  ·rw[qW g];refine(q8d (n+10) ab l 2 _ 128 g).trans ?_
   rw[qhr (n+10) (n+9) ab l 2 _ 128 1]
   by_cases g1:128<=(l.getD 1 0).toNat/\(l.getD 1 0).toNat<=191
   ·rw[qX g1,qX g1];refine(q8g (n+10) (n+8) _ _ 2 _ 128).trans ?_;rw[qxg];rfl
   ·rw[qW g1,qW g1]
 rw[ao,mi,qB]
 by_cases h3:224<=c.toNat/\c.toNat<=239
 ·rw[af oA,z3i _ _ _ _ _ h3 b1 b2,bt,show(c.toNat:Int)-224=((c.toNat-224:Nat):Int) by omega]
  by_cases g:l.length<3
  ·rw[qX g];exact q8e (n+10) ab l 3 _ 2048 g
  ·rw[qW g];refine(q8d (n+10) ab l 3 _ 2048 g).trans ?_
   rw[qhr (n+10) (n+9) ab l 3 _ 2048 1]
   by_cases g1:128<=(l.getD 1 0).toNat/\(l.getD 1 0).toNat<=191
   ·rw[qX g1,qX g1,qhr (n+10) (n+8) ab l 3 _ 2048 2]
    by_cases g2:128<=(l.getD 2 0).toNat/\(l.getD 2 0).toNat<=191
    ·rw[qX g2,qX g2];refine(q8g (n+10) (n+7) _ _ 3 _ 2048).trans ?_;rw[qxg];rfl
    ·rw[qW g2,qW g2]
   ·rw[qW g1,qW g1]
 rw[ao,mi,qB]
 by_cases h4:240<=c.toNat/\c.toNat<=247
 ·rw[af oA,z3j _ _ _ _ _ h4 b1 b2 b3,bt,show(c.toNat:Int)-240=((c.toNat-240:Nat):Int) by omega]
  by_cases g:l.length<4
  ·rw[qX g];exact q8e (n+10) ab l 4 _ 65536 g
  ·rw[qW g];refine(q8d (n+10) ab l 4 _ 65536 g).trans ?_
   rw[qhr (n+10) (n+9) ab l 4 _ 65536 1]
   by_cases g1:128<=(l.getD 1 0).toNat/\(l.getD 1 0).toNat<=191
   ·rw[qX g1,qX g1,qhr (n+10) (n+8) ab l 4 _ 65536 2]
    by_cases g2:128<=(l.getD 2 0).toNat/\(l.getD 2 0).toNat<=191
    ·rw[qX g2,qX g2,qhr (n+10) (n+7) ab l 4 _ 65536 3]
     by_cases g3:128<=(l.getD 3 0).toNat/\(l.getD 3 0).toNat<=191
     ·rw[qX g3,qX g3];refine(q8g (n+10) (n+6) _ _ 4 _ 65536).trans ?_;rw[qxg];rfl
     ·rw[qW g3,qW g3]
    ·rw[qW g2,qW g2]
   ·rw[qW g1,qW g1]
 rw[ao,z3k _ _ _ _ _ oA hc]
 rfl
def qw7(l:Bs):(rn l).1<0↔((decodeL l).1=65533/\(decodeL l).2=1):=by
 unfold rn;split
 ·rename_i h;exact⟨fun _=>h,fun _=>oF⟩
 ·rename_i h;exact⟨fun q=>absurd q oJ,fun q=>absurd q h⟩
def q9b(l:Bs):(rn l).2=((decodeL l).2:Int):=by
 unfold rn;split
 ·rename_i h;rw[h.2];rfl
 ·rfl
def z5m(fu n:Nat)(hfu:10<=fu):∀(ab aa:Bs),aa.length<n->ab.length+aa.length<100000000->qkg fu n (ab++aa) (ab.length:Int)=some (validD aa):=by
 induction n with
 |zero=>intro ab aa h;omega|succ n ih=>
  intro ab aa h hb;rw[qkg,qz2]
  cases aa with
  |nil=>rw[ao];rfl|cons c t=>
   have hw:=decodeL_width (c::t);have hle:=decodeL_le (c::t) oC
   simp only[qL]at h hb;rw[af oI,zls fu hfu ab c t,qB,validD_step (c::t) oC]
   by_cases hbad:(decodeL (c::t)).1=65533/\(decodeL (c::t)).2=1
   ·rw[af ((qw7 _).2 hbad),qX hbad]
   ·rw[ao (fun q=>hbad ((qw7 _).1 q)),qW hbad,q9b,qx _ _ (by simp only[qL]at hle;omega)]
    have:=ih (ab++(c::t).take (decodeL (c::t)).2) ((c::t).drop (decodeL (c::t)).2) (by rw[List.length_drop];simp only[qL];omega) (by rw[qM,List.length_take,List.length_drop];simp only[qL]at hle ⊢;omega)
    rw[qS,List.take_append_drop,qM,List.length_take,Nat.min_eq_left hle]at this;exact this
def z3m(fu:Nat)(hfu:10<=fu)(s:Bs)(h:s.length<fu:=by omega)(hb:s.length<100000000:=by omega):qkf fu s=some (validD s):=by
 have:=z5m fu fu hfu [] s h (by simpa using hb)
 simpa [qkf] using this
def z5g:qzz (-1)=some [239,191,189]:=by rfl
def z5s(n:Nat):∀(b:Bool)(l:Bs),(vu [239,191,189] n b l).length<=3*l.length:=by
 induction n with
 |zero=>intro b l;simp[vu]|succ n ih=>
  intro b l
  cases l with
  |nil=>simp[vu]|cons c t=>
   rw[vu];split
   ·have:=ih true t;rw[qM];simp only[qL];cases b<;>simp<;>omega
   ·have:=ih false ((c::t).drop (decodeL (c::t)).2);have hle:=decodeL_le (c::t) oC
    rw[qM,List.length_take];rw[List.length_drop]at this;omega
def qh9(rep:Bs):∀(n:Nat)(b:Bool)(l:Bs),l.length<=n->vu rep n b l=vu rep l.length b l:=by
 intro n
 induction n using Nat.strongRecOn with
 |ind n ih=>
  intro b l h
  cases l with
  |nil=>cases n<;>rfl
  |cons c t=>
   obtain⟨m,rfl⟩:∃m,n=m+1:=⟨n-1,by simp only[qL]at h;omega⟩
   simp only[qL]at h ⊢;have hw:=decodeL_width (c::t);rw[vu,vu];have hd:((c::t).drop (decodeL (c::t)).2).length<=t.length:=by rw[List.length_drop];simp only[qL];omega
   rw[ih m oA true t oA,ih m oA false _ oA]
   by_cases hm:t.length<m+1
   ·rw[ih t.length oA true t (wF _),ih t.length oA false _ hd]
   ·omega
def z1n(fu n:Nat)(hfu:10<=fu):∀(ab aa out:Bs)(bad:Bool),aa.length<n->ab.length+aa.length<100000000->out.length+3*aa.length<400000000 ->
  qkn fu n (ab++aa) out bad (ab.length:Int)=some (out++vu [239,191,189] aa.length bad aa):=by
 induction n with
 |zero=>intro ab aa out bad h;omega|succ n ih=>
  intro ab aa out bad h hb ho;rw[qkn,qz7]
  cases aa with
  |nil=>rw[ao];simp[vu]|cons c t=>
   have hw:=decodeL_width (c::t);have hle:=decodeL_le (c::t) oC
   simp only[qL]at h hb ho;rw[af oI,zls fu hfu ab c t,qB]
   show _=some (out++vu [239,191,189] (t.length+1) bad (c::t));rw[vu];by_cases hbad:(decodeL (c::t)).1=65533/\(decodeL (c::t)).2=1
   ·have hneg:=(qw7 _).2 hbad;rw[ao,qX hbad,decide_eq_true hneg,q9b,hbad.2,z5g,qB,qx _ _]
    have:=fun o=>ih (ab++[c]) t o true oA oB
    simp only[qM,qL,qZ,qS,wM,wO]at this;cases bad
    ·rw[cu,af oE]
     refine(this (out++[239,191,189]) oB).trans ?_
     simp
    ·rw[bq];refine(this out oA).trans ?_
     simp
   ·have hneg:¬(rn (c::t)).1<0:=fun q=>hbad ((qw7 _).1 q)
    have hle':=hle;simp only[qL]at hle';rw[af oA,qW hbad,decide_eq_false hneg,q9b,qx _ _,af oI]
    have e:List.take (((ab.length+(decodeL (c::t)).2:Nat):Int).toNat-((ab.length:Nat):Int).toNat) (List.drop ((ab.length:Nat):Int).toNat (ab++c::t))=(c::t).take (decodeL (c::t)).2:=by
     rw[la];congr 1;omega
    rw[e,af (by rw[List.length_take,Nat.min_eq_left hle];simp[ap];omega)]
    have:=ih (ab++(c::t).take (decodeL (c::t)).2) ((c::t).drop (decodeL (c::t)).2) (out++(c::t).take (decodeL (c::t)).2) false (by rw[List.length_drop];simp only[qL];omega) (by rw[qM,List.length_take,List.length_drop];simp only[qL]at hle ⊢;omega) (by rw[qM,List.length_take,List.length_drop];simp only[qL]at hle ⊢;omega)
    rw[qS,List.take_append_drop,qM,List.length_take,Nat.min_eq_left hle]at this;refine this.trans ?_;rw[qS,qh9 _ t.length false ((c::t).drop (decodeL (c::t)).2) (by rw[List.length_drop];simp only[qL];omega)]
def z1p(fu:Nat)(hfu:10<=fu)(s:Bs)(h:s.length<fu:=by omega)(hb:s.length<100000000:=by omega):qrc fu s=some (vu [239,191,189] s.length false s):=by
 have:=z1n fu fu hfu [] s [] false h (by simpa using hb) oB
 simpa [qrc] using this
def z4x(s:Bs)(h:s.length<=1000000):qcn s [239,191,189]=some (vu [239,191,189] s.length false s):=by
 unfold qcn;rw[af ⟨h,oC⟩]
def z5h(s:Bs)(h:s.length<=1000000:=by omega):qco s=some (validD s):=by
 unfold qco;rw[af oA]
end Go.Sym
namespace Go.Sym
open Go.Lib (validD)
abbrev ce:Type:=Bs×Bs
abbrev eg:Type:=Bs×Bs×List ce
def ou(l:List ce):Prop:=l.length<=4000000/\∀x∈l,x.1.length<=4000000/\x.2.length<=4000000
def SmD(m:eg):Prop:=m.1.length<=4000000/\m.2.1.length<=4000000/\ou m.2.2
def lk(a b:Bs):Bool:=a.map lo==b.map lo
def q7j(a b:Bs):lk a b=lk b a:=by unfold lk;rw[Bool.eq_iff_iff];simp only[beq_iff_eq];exact⟨Eq.symm,Eq.symm⟩
def q7k(a:Bs):lk a a=true:=by unfold lk;simp
def nz(fu:Nat)(hfu:90000000<=fu)(a b:Bs)(ha:a.length<=4000000)(hb:b.length<=4000000):fw fu a b=some (lk a b):=
 zts fu a b oA oA oQ oQ
def se(fu:Nat)(hfu:90000000<=fu)(a b:Bs)(ha:a.length<=4000000)(hb:b.length<=4000000):fg fu a b=some (lk a b):=
 qt8 fu a b oA oA oQ oQ
def zxh(fu n:Nat)(hfu:90000000<=fu)(p:ce)(hp:p.1.length<=4000000):∀(ab aa:List ce),aa.length<n->ab.length+aa.length<100000000->(∀x∈aa,x.1.length<=4000000) ->
  ∃i:Int,qmz fu n (ab++aa) ((ab.length+aa.length:Nat):Int) (ab.length:Int) p=some (i,p)/\decide (0<=i)=aa.any (fun x=>lk x.1 p.1):=by
 induction n with
 |zero=>intro ab aa h;omega|succ n ih=>
  intro ab aa h hb hs;rw[qmz,q3c]
  cases aa with
  |nil=>rw[ao];exact⟨_,rfl,rfl⟩|cons d aa=>
   simp only[qL]at h hb;rw[af oG,a6,qB,q18,nz fu hfu _ _ (hs d qH) hp,qB,qB,ar _]
   obtain⟨i,h1,h2⟩:=ih (ab++[d]) aa oA oB (fun x hx=>hs x (qE _ hx))
   simp only[qM,qL,qZ,qS,wM,wO]at h1;cases e:lk d.1 p.1
   ·simp only[qF,List.any_cons,e,Bool.false_or];rw[show(ab.length+(d::aa).length:Nat)=ab.length+1+aa.length by simp only[qL];omega]
    exact⟨i,h1,h2⟩
   ·simp only[qT,List.any_cons,e,Bool.true_or];exact⟨_,rfl,decide_eq_true oA⟩
def zt0(fu:Nat)(hfu:90000000<=fu)(l:List ce)(p:ce)(hp:p.1.length<=4000000)(hs:ou l):qs8 fu l p=some (l.any (fun x=>lk x.1 p.1),p):=by
 obtain⟨i,h1,h2⟩:=zxh fu fu hfu p hp [] l (by have:=hs.1;omega) (by have:=hs.1;simp;omega) (fun x hx=>(hs.2 x hx).1)
 simp only[List.nil_append,qZ,wO]at h1;unfold qs8 q3b;rw[← h2];exact(congrArg (fun q=>Option.bind q fun x1=>some (decide ((0:Int)<=x1.1),x1.2)) h1).trans rfl
def nu:List ce->List ce->Int×Int
 |_,[]=>(0,0)|ab,p::l=>if fq p.1=false\/20<p.1.length then(10,ab.length) else if ab.any (fun x=>lk x.1 p.1)=true then(7,ab.length) else if 500<p.2.length then(1,ab.length)
  else if validD p.2=false then(5,ab.length) else nu (ab++[p]) l
def ig(m:eg):Int×Int:=if fq m.1=false\/fq m.2.1=false then(10,-2) else if 60<m.2.2.length then(2,-3) else nu [] m.2.2
def ou.mono{l l':List ce}(h:ou l)(h1:l'.length<=l.length)(h2:∀x∈l',x∈l):ou l':=⟨Nat.le_trans h1 h.1,fun x hx=>h.2 x (h2 x hx)⟩
def ql(a b:Int):cd a b=some (a,b):=rfl
def xu(a b:Int):fa a b=some (a,b):=rfl
def zyp:dh=some ((0:Int),(0:Int)):=rfl
def zyx(fu n:Nat)(hfu:90000000<=fu)(m:eg)(z:Int×Int):∀(ab aa:List ce),m.2.2=ab++aa->aa.length<n->ou (ab++aa) ->
  qfr fu n (ab++aa) ((ab.length+aa.length:Nat):Int) (ab.length:Int) m z=some (nu ab aa):=by
 induction n with
 |zero=>intro ab aa _ h;omega|succ n ih=>
  intro ab aa hm h hs;rw[qfr,q19]
  cases aa with
  |nil=>rw[ao];rfl|cons p aa=>
   have hp:=hs.2 p oC
   have hl:=hs.1;simp only[qL,qM]at h hl;rw[af oG,a6,qB,qxp fu _,qB,nu]
   have hp3:qb9 fu (qfr fu n) (ab.length:Int) (ab++p::aa) ((ab.length+(p::aa).length:Nat):Int) (ab.length:Int) false m z p =
     some (if ab.any (fun x=>lk x.1 p.1)=true then(7,(ab.length:Int)) else if 500<p.2.length then(1,(ab.length:Int)) else if validD p.2=false then(5,(ab.length:Int)) else nu (ab++[p]) aa):=by
    rw[qb9,aw rfl,af (by rw[hm,cn];omega),hm,t7,zt0 fu hfu ab p hp.1 (hs.mono oC (fun x hx=>by simp[hx])),qB]
    simp only[];by_cases h1:ab.any (fun x=>lk x.1 p.1)=true
    ·rw[qX h1,au h1,ql];rfl
    rw[qW h1,aw (by simpa using h1)]
    by_cases h2:500<p.2.length
    ·rw[qX h2,af oA,ql];rfl
    rw[qW h2,ao,z5h _,qB]
    cases h3:validD p.2
    ·rw[cu,qX rfl,ql];rfl
    ·rw[bq,qW oC,ar _]
     have:=ih (ab++[p]) aa (by rw[hm];simp) oA (by simpa using hs)
     simp only[qM,qL,qZ,qS,wM,wO]at this;rw[show(ab.length+(p::aa).length:Nat)=ab.length+1+aa.length by simp only[qL];omega]
     exact this
   cases h0:fq p.1
   ·rw[cu,qX (.inl rfl),qb9,au rfl,ql];rfl
   rw[bq];by_cases h20:20<p.1.length
   ·rw[decide_eq_true oA,qX (.inr h20),qb9,au rfl,ql];rfl
   ·rw[decide_eq_false (p:=(20:Int)<(List.length p.1:Int)) oA,hp3,qW (c:=true=false\/20<p.1.length) oB]
def q70(fu:Nat)(hfu:90000000<=fu)(m:eg)(hs:SmD m):wv fu m=some (ig m):=by
 obtain⟨h1,h2,h3⟩:=hs;unfold wv ig;rw[qxp fu m.1,qB,qxp fu m.2.1]
 cases g1:fq m.1
 ·rw[cu,qfq,au rfl,ql,qX (.inl rfl)];rfl
 rw[bq,qB];cases g2:fq m.2.1
 ·rw[qfq,cu,ql,qX (.inr rfl)];rfl
 rw[qfq,bq,q2a,qW oC]
 by_cases g3:60<m.2.2.length
 ·rw[af oA,qX g3,ql];rfl
 ·rw[ao,qW g3]
  have:=zyx fu fu hfu m (0,0) [] m.2.2 rfl (by have:=h3.1;omega) h3
  simpa using this
def z2d(fu n:Nat)(hfu:90000000<=fu)(r2:(Int->(Bs×Bs×(List (Bs×Bs)))->(Int×Int)->Option ((Int×Int))))(m:eg)(z:Int×Int)(p:ce)(rest:List ce)(hp:p.1.length<=4000000):∀(ab aa:List ce),m.2.2=ab++aa++p::rest->aa.length<n->ou m.2.2 ->
  qjr fu r2 n ((ab.length+aa.length:Nat):Int) (ab.length:Int) m z p =
   if aa.any (fun x=>lk x.1 p.1)=true then some (7,((ab.length+aa.length:Nat):Int)) else bif decide ((500:Int)<(List.length p.2:Int)) then(fa (1:Int) ((ab.length+aa.length:Nat):Int)).bind fun x4=>some x4 else(qkf fu p.2).bind fun x5=>bif !x5 then(fa (5:Int) ((ab.length+aa.length:Nat):Int)).bind fun x6=>some x6 else r2 (ae (((ab.length+aa.length:Nat):Int)+(1:Int))) m z:=by
 induction n with
 |zero=>intro ab aa _ h;omega|succ n ih=>
  intro ab aa hm h hs;rw[qjr,qy9]
  cases aa with
  |nil=>rw[ao,qW oC]|cons d aa=>
   have hl:=hs.1;rw[hm]at hl;simp only[qL,qM]at h hl;rw[af oG]
   have hx:ai m.2.2 (ab.length:Int)=some d:=by rw[hm,qS,wK];exact a6 ab d _
   rw[hx,qB,se fu hfu _ _ (hs.2 d (by rw[hm];simp)).1 hp,qB,ar _]
   have:=ih (ab++[d]) aa (by rw[hm];simp) oA hs
   simp only[qM,qL,qZ,qS,wM,wO]at this;cases e:lk d.1 p.1
   ·simp only[qF,List.any_cons,e,Bool.false_or];rw[show(ab.length+(d::aa).length:Nat)=ab.length+1+aa.length by simp only[qL];omega]
    exact this
   ·simp only[qT,List.any_cons,e,Bool.true_or,if_true];rfl
def z2b(fu n:Nat)(hfu:90000000<=fu)(m:eg)(z:Int×Int)(hs:ou m.2.2):∀(ab aa:List ce),m.2.2=ab++aa->aa.length<n ->
  qbk fu n (ab.length:Int) m z=some (nu ab aa):=by
 induction n with
 |zero=>intro ab aa _ h;omega|succ n ih=>
  intro ab aa hm h;rw[qbk,qy8,hm]
  cases aa with
  |nil=>rw[ao];rfl|cons p aa=>
   have hp:=hs.2 p (by rw[hm];simp)
   have hl:=hs.1;rw[hm]at hl;simp only[qL,qM]at h hl;rw[af oI,a6,qB,qxb fu oA _,qB,nu]
   have hp3:qbl fu (qbk fu n) (ab.length:Int) false m z p =
     some (if ab.any (fun x=>lk x.1 p.1)=true then(7,(ab.length:Int)) else if 500<p.2.length then(1,(ab.length:Int)) else if validD p.2=false then(5,(ab.length:Int)) else nu (ab++[p]) aa):=by
    rw[qbl,aw rfl,qzb];have:=z2d fu fu hfu (qbk fu n) m z p aa hp.1 [] ab (by rw[hm];simp) oA hs
    simp only[qZ,wO]at this;refine(this:_=_).trans ?_;by_cases h1:ab.any (fun x=>lk x.1 p.1)=true
    ·rw[qX h1,qX h1]
    rw[qW h1,qW h1];by_cases h2:500<p.2.length
    ·rw[qX h2,af oA];rfl
    rw[qW h2,ao,z3m fu oA _,qB]
    cases h3:validD p.2
    ·rw[cu,qX rfl];rfl
    ·rw[bq,qW oC,ar _]
     have:=ih (ab++[p]) aa (by rw[hm];simp) oA
     simpa only [qM,qL,qZ,wO] using this
   cases h0:fq p.1
   ·rw[cu,qX (.inl rfl),qbl,au rfl,xu];rfl
   rw[bq];by_cases h20:20<p.1.length
   ·rw[decide_eq_true oA,qX (.inr h20),qbl,au rfl,xu];rfl
   ·rw[decide_eq_false (p:=(20:Int)<(List.length p.1:Int)) oA,hp3,qW (c:=true=false\/20<p.1.length) oB]
def z2c(fu:Nat)(hfu:90000000<=fu)(m:eg)(hs:SmD m):qqy fu m=some (ig m):=by
 obtain⟨h1,h2,h3⟩:=hs;unfold qqy ig;rw[qxb fu oA m.1,qB,qxb fu oA m.2.1]
 cases g1:fq m.1
 ·rw[cu,qel,au rfl,xu,qX (.inl rfl)];rfl
 rw[bq,qB];cases g2:fq m.2.1
 ·rw[qel,cu,xu,qX (.inr rfl)];rfl
 rw[qel,bq,qza,qW oC]
 by_cases g3:60<m.2.2.length
 ·rw[af oA,qX g3,xu];rfl
 ·rw[ao,qW g3]
  exact z2b fu fu hfu m (0,0) h3 [] m.2.2 rfl (by have:=h3.1;omega)
def par(l:List ce)(nm:Bs):Option Bs:=(l.find? fun x=>lk x.1 nm).map (·.2)
def ep(l:List ce)(nm:Bs):Bs×Bool:=match par l nm with|some v=>(v,true)|none=>([],false)
def q8j(p:ce)(l:List ce)(nm:Bs):ep (p::l) nm=if lk p.1 nm=true then(p.2,true) else ep l nm:=by
 unfold ep par;rw[List.find?_cons];cases lk p.1 nm<;>rfl
def zyr(fu n:Nat)(hfu:90000000<=fu)(nm:Bs)(hn:nm.length<=4000000)(z:Int×Int):∀(ab aa:List ce),aa.length<n->ou (ab++aa) ->
  ql5 fu n nm (ab++aa) ((ab.length+aa.length:Nat):Int) (ab.length:Int) z=some ((ep aa nm).1,((ep aa nm).2,(0,0))):=by
 induction n with
 |zero=>intro ab aa h;omega|succ n ih=>
  intro ab aa h hs;rw[ql5,q16]
  cases aa with
  |nil=>rw[ao];rfl|cons p aa=>
   have hl:=hs.1;simp only[qL,qM]at h hl;rw[af oG,a6,qB,nz fu hfu _ _ (hs.2 p oC).1 hn,qB,ar _,q8j]
   have:=ih (ab++[p]) aa oA (by simpa using hs)
   simp only[qM,qL,qZ,qS,wM,wO]at this;cases e:lk p.1 nm
   ·rw[aw rfl,show(ab.length+(p::aa).length:Nat)=ab.length+1+aa.length by simp only[qL];omega]
    exact this
   ·rfl
def zi2(fu:Nat)(hfu:90000000<=fu)(m:eg)(nm:Bs)(hn:nm.length<=4000000)(hs:SmD m):ql4 fu m nm=some (if(ig m).1≠0 then([],(false,ig m)) else((ep m.2.2 nm).1,((ep m.2.2 nm).2,(0,0)))):=by
 unfold ql4;rw[q70 fu hfu m hs,qB,ji,qB,dz];by_cases h:(ig m).1≠0
 ·rw[qX h,qX h]
 ·rw[qW h,qW h];have:=zyr fu fu hfu nm hn (0,0) [] m.2.2 (by have:=hs.2.2.1;omega) hs.2.2
  simpa using this
def z2n(fu n:Nat)(hfu:90000000<=fu)(nm:Bs)(hn:nm.length<=4000000)(m:eg)(hs:ou m.2.2):∀(ab aa:List ce),m.2.2=ab++aa->aa.length<n ->
  qj3 fu n nm (ab.length:Int) m=some (ep aa nm):=by
 induction n with
 |zero=>intro ab aa _ h;omega|succ n ih=>
  intro ab aa hm h;rw[qj3,qzk,hm]
  cases aa with
  |nil=>rw[ao];rfl|cons p aa=>
   have hl:=hs.1;rw[hm]at hl;simp only[qL,qM]at h hl;rw[af oI,a6,qB,se fu hfu _ _ (hs.2 p (by rw[hm];simp)).1 hn,qB,ar _,q8j]
   have:=ih (ab++[p]) aa (by rw[hm];simp) oA
   simp only[qM,qL,qZ,wO]at this;cases e:lk p.1 nm
   ·rw[aw rfl];exact this
   ·rfl
def q9d(fu:Nat)(hfu:90000000<=fu)(m:eg)(nm:Bs)(hn:nm.length<=4000000)(hs:ou m.2.2):qq1 fu m nm=some (ep m.2.2 nm):=
 z2n fu fu hfu nm hn m hs [] m.2.2 rfl (by have:=hs.1;omega)
end Go.Sym
namespace Go.Sym
def zmy(fu n:Nat):∀(s:List UInt8),s.length<n->s.length<1000000000->qne fu n s (mw [32,9])=some (be s,mw [32,9]):=by
 induction n with
 |zero=>intro s h;omega|succ n ih=>
  intro s h hb;rw[qne,q33]
  cases s with
  |nil=>rw[ao];rfl|cons c s=>
   simp only[qL]at h hb;rw[af oC,show ai (c::s) (0:Int)=some c from rfl,qB,qn8 zz,qB,zfh,tn]
   cases bl c
   ·rfl
   ·rw[bq,af oG]
    exact ih s oA oA
def zlx(fu:Nat)(s:List UInt8)(hfu:100<=fu)(h:s.length<fu)(hb:s.length<1000000000):qm7 fu s [32,9]=some (gz s):=by
 unfold qm7
 cases s with
 |nil=>rfl|cons c s=>
  rw[aw (by rfl)]
  unfold qtp;rw[aw (by rfl)]
  unfold q3x;rw[aw oF]
  unfold qtq;rw[aw (by rfl)]
  unfold q3y;obtain⟨n,rfl⟩:∃n,fu=n+100:=⟨fu-100,oA⟩
  rw[zz.set,qB];simp only[zz.len];rw[au (by rw[List.length_replicate];rfl),au]
  unfold qnf qnd;have:=vn (c::s);rw[qxq _ _ _ h hb,qB,zmy _ _ (ch (c::s)) oA oA,qB,q94]
def qhm(s:Bs):be (be s)=be s:=by
 induction s with
 |nil=>rfl|cons c s ih=>
  rw[tn];by_cases h:bl c=true
  ·rw[qX h];exact ih
  ·rw[qW h,tn,qW h]
def vh(s:Bs):be s <:+ s:=List.dropWhile_suffix _
def z40(fu:Nat)(s:List UInt8)(hfu:100<=fu:=by omega)(h:s.length<fu:=by omega)(hb:s.length<1000000000:=by omega):qtj fu s [32,9]=some (be s):=by
 unfold qtj
 cases s with
 |nil=>rfl|cons c s=>
  rw[aw (by rfl)]
  unfold qtk;rw[aw (by rfl)]
  unfold q3t;rw[aw oF]
  unfold qtl;rw[aw (by rfl)]
  unfold q3u;obtain⟨n,rfl⟩:∃n,fu=n+100:=⟨fu-100,oA⟩
  rw[zz.set,qB];simp only[zz.len];rw[au (by rw[List.length_replicate];rfl),au]
  unfold qnd;rw[zmy _ _ _ h hb];rfl
def qgo(fu:Nat)(hfu:90000000<=fu)(s:Bs)(h:s.length<=4000000):zp fu s=some (be s):=by
 unfold zp;rw[z40 fu s];rfl
def ci(p:UInt8->Bool)(s:Bs):Bs×Bs:=((be s).takeWhile p,(be s).dropWhile p)
def d8(c:UInt8):Bool:=tk c||c==42
def mn(c:UInt8):Bool:=tk c||(c==37||(c==39||c==42))
def qa1(P:UInt8->Option Bool):Nat->Int->Bs->Option (Bs×Bs)
 |0,_,_=>none|n+1,s5,m0=>bif decide (s5<(List.length m0:Int)) then(ai m0 s5).bind fun c1=>(P c1).bind fun x2=>(bif x2 then qa1 P n (ae (s5+(1:Int))) m0 else bif decide (0<=s5/\s5<=(List.length m0:Int)) then bif decide (0<=s5/\s5<=(List.length m0:Int)) then some (List.take s5.toNat m0,List.drop s5.toNat m0) else none else none)
  else(bif false then qa1 P n (ae (s5+(1:Int))) m0 else bif decide (0<=s5/\s5<=(List.length m0:Int)) then bif decide (0<=s5/\s5<=(List.length m0:Int)) then some (List.take s5.toNat m0,List.drop s5.toNat m0) else none else none)
def z4o(P:UInt8->Option Bool)(p:UInt8->Bool)(hP:∀c,P c=some (p c))(n:Nat):∀(ab aa:Bs),aa.length<n->ab.length+aa.length<9223372036854775807 ->
  qa1 P n (ab.length:Int) (ab++aa)=some (ab++aa.takeWhile p,aa.dropWhile p):=by
 induction n with
 |zero=>intro ab aa h;omega|succ n ih=>
  intro ab aa h hb;rw[qa1]
  cases aa with
  |nil=>rw[ao,aw rfl,af oC,af oC,t7,la];simp|cons d aa=>
   simp only[qL]at h hb;rw[af oI,a6,qB,hP,qB,ar _,t7,la,List.takeWhile_cons,List.dropWhile_cons]
   have:=ih (ab++[d]) aa oA oB
   simp only[qM,qL,qZ,qS,wM,wO]at this;cases p d
   ·rw[aw rfl,af oI,af oI];simp
   ·rw[au rfl];simpa using this
def q92(P:UInt8->Option Bool)(p:UInt8->Bool)(hP:∀c,P c=some (p c))(fu:Nat)(hfu:90000000<=fu)(s:Bs)(h:s.length<=4000000):qa1 P fu 0 (be s)=some (ci p s):=by
 have hl:=mg s;have:=z4o P p hP fu [] (be s) oA oB
 simpa [ci] using this
def zmm(fu:Nat)(hfu:90000000<=fu)(s:Bs)(h:s.length<=4000000:=by omega):qmj fu s=some (ci tk s):=by
 have e:∀n,qmk fu n=qa1 ry n:=by
  intro n;induction n with|zero=>rfl|succ n ih=>rw[qmk,ih];funext a b;rfl
 unfold qmj;rw[qgo fu hfu s h,qB,e];exact q92 _ tk qpq fu hfu s h
def z4t(c:UInt8):qmi c=some (d8 c):=by
 unfold qmi d8;rw[qpq,qB];cases tk c<;>rfl
def z4u(c:UInt8):qmn c=some (mn c):=by
 unfold qmn mn;rw[qpq,qB];cases tk c
 ·cases c==37
  ·cases c==39<;>rfl
  ·rfl
 ·rfl
def z4l(fu:Nat)(hfu:90000000<=fu)(s:Bs)(h:s.length<=4000000):qsm fu s=some (ci d8 s):=by
 have e:∀n,qml fu n=qa1 qmi n:=by
  intro n;induction n with|zero=>rfl|succ n ih=>rw[qml,ih];funext a b;rfl
 unfold qsm;rw[qgo fu hfu s h,qB,e];exact q92 _ d8 z4t fu hfu s h
def z4n(fu:Nat)(hfu:90000000<=fu)(s:Bs)(h:s.length<=4000000:=by omega):qsn fu s=some (ci mn s):=by
 have e:∀n,qmm fu n=qa1 qmn n:=by
  intro n;induction n with|zero=>rfl|succ n ih=>rw[qmm,ih];funext a b;rfl
 unfold qsn;rw[qgo fu hfu s h,qB,e];exact q92 _ mn z4u fu hfu s h
def dj(c:UInt8)(s:Bs):Bool×Bs:=match be s with|[]=>(false,[])|d::t=>if d=c then(true,t) else(false,d::t)
def qwn(fu:Nat)(hfu:90000000<=fu)(c:UInt8)(s:Bs)(h:s.length<=4000000:=by omega):qca fu c s=some (dj c s):=by
 unfold qca dj;rw[qgo fu hfu s h,qB]
 cases be s with
 |nil=>rfl|cons d t=>
  rw[aw (by rfl),show ai (d::t) (0:Int)=some d from rfl,qB,uu]
  by_cases hd:d=c
  ·rw[qW (by simp[hd]),af oG];simp[hd]
  ·rw[qX hd];simp[hd]
def qv:Bs->Bs->Option (Bs×Bs)
 |_,[]=>none| out,c::t=>if c=34 then some (out,t) else if c=92 then(match t with
  |[]=>none| d::t'=>qv (out++[d]) t') else qv (out++[c]) t
def qhs(out:Bs)(c:UInt8)(t:Bs):qv out (c::t)=if c=34 then some (out,t) else if c=92 then(match t with
  |[]=>none| d::t'=>qv (out++[d]) t') else qv (out++[c]) t:=by cases t<;>rfl
def iq:4000000000<=az:=oF
def z06(fu n:Nat):∀(ab aa out:Bs),aa.length<n->ab.length+aa.length<100000000->out.length+aa.length<100000000 ->
  qmo fu n (ab.length:Int) (ab++aa) out=some (match qv out aa with|some (v,t)=>(v,(true,t))|none=>([],(false,ab++aa))):=by
 have hrm:=iq
 induction n using Nat.strongRecOn with
 |ind n ih=>
  intro ab aa out h hb ho;obtain⟨n,rfl⟩:∃m,n=m+1:=⟨n-1,oA⟩
  rw[qmo,q2n]
  cases aa with
  |nil=>rw[ao];rfl|cons c t=>
   simp only[qL]at h hb ho;rw[af oI,a6,qB,ar _,gy]
   have ih1:=ih n oA (ab++[c]) t (out++[c]) oA oB oB
   simp only[qM,qL,qZ,qS,wM,wO]at ih1;by_cases h1:c=34
   ·rw[qX h1,af oI,qab,qhs,qX h1]
   rw[qW h1,gy];by_cases h2:c=92
   ·rw[qX h2,d6,cn]
    cases t with
    |nil=>rw[qX oC,qhs,qW h1,qX h2]|cons d t=>
     simp only[qL]at h hb ho ⊢;rw[qW oA,show ai (ab++c::d::t) ((ab.length+1:Nat):Int)=some d by have:=a6 (ab++[c]) d t;simpa using this,qB,af oB,ar _,qhs,qW h1,qX h2]
     have ih2:=ih n oA (ab++[c,d]) t (out++[d]) oA oB oB
     simp only[qM,qL,qZ,qS,wK,List.nil_append,wO]at ih2;exact ih2
   ·rw[qW h2,af oB,qhs,qW h1,qW h2]
    exact ih1
def qa4(s:Bs):Option (Bs×Bs):=if(dj 34 s).1=true then qv [] (dj 34 s).2 else some (ci mn (dj 34 s).2)
def qhy(c:UInt8)(s:Bs):(dj c s).2.length<=s.length:=by
 have:=mg s;unfold dj
 cases h:be s with
 |nil=>simp|cons d t=>
  rw[h]at this;simp only[qL]at this;by_cases hd:d=c
  ·simp only[qX hd];omega
  ·simp only[qW hd,qL];omega
def z5q(fu:Nat)(hfu:90000000<=fu)(s:Bs)(h:s.length<=4000000:=by omega):∃r,qso fu s=some (match qa4 s with|some (v,t)=>(v,(true,t))|none=>([],(false,r))):=by
 have hl:=qhy 34 s;unfold qso qa4;rw[qwn fu hfu 34 s h,qB];cases hs:(dj 34 s).1
 ·rw[cu,z4n fu hfu _,qW oC]
  exact⟨[],rfl⟩
 ·rw[bq,qX rfl];have:=z06 fu fu [] (dj 34 s).2 [] oA oB oB
  exact⟨(dj 34 s).2,by simpa using this⟩
def tj(s:Bs):Option ((Bs×Bs)×Bs):=if(dj 61 (ci d8 s).2).1=true then(qa4 (dj 61 (ci d8 s).2).2).map fun x=>(((ci d8 s).1,x.1),x.2) else none
def qdx(p:UInt8->Bool)(s:Bs):(ci p s).1.length+(ci p s).2.length<=s.length:=by
 have:=mg s;have h:=congrArg List.length (List.takeWhile_append_dropWhile (p:=p) (l:=be s));rw[qM]at h;unfold ci;simp only;omega
def zka:∀(out s v t:Bs),qv out s=some (v,t)->v.length+t.length<out.length+s.length/\t <:+ s:=by
 intro out s
 induction s using WellFounded.induction (r:=fun(a b:Bs)=>a.length<b.length) (hwf:=InvImage.wf List.length Nat.lt_wfRel.wf) generalizing out with
 |_ s ih=>
  intro v t h
  cases s with
  |nil=>cases h
  |cons c s=>
   rw[qhs]at h;by_cases h1:c=34
   ·rw[qX h1]at h;cases h;exact⟨oC,List.suffix_cons _ _⟩
   rw[qW h1]at h;by_cases h2:c=92
   ·rw[qX h2]at h
    cases s with
    |nil=>cases h
    |cons d s=>
     obtain⟨g1,g2⟩:=ih s oB (out++[d]) v t h
     refine⟨by simp at g1 ⊢;omega,g2.trans ((List.suffix_cons _ _).trans (List.suffix_cons _ _))⟩
   ·rw[qW h2]at h;obtain⟨g1,g2⟩:=ih s oC (out++[c]) v t h
    exact⟨by simp at g1 ⊢;omega,g2.trans (List.suffix_cons _ _)⟩
def zl1(c:UInt8)(s:Bs):(dj c s).2 <:+ s:=by
 have:=vh s;unfold dj
 cases h:be s with
 |nil=>simp|cons d t=>
  rw[h]at this;by_cases hd:d=c
  ·simp only[qX hd];exact(List.suffix_cons _ _).trans this
  ·simp only[qW hd];exact this
def zmn(p:UInt8->Bool)(s:Bs):(ci p s).2 <:+ s:=(List.dropWhile_suffix _).trans (vh s)
def z5j{s v t:Bs}(h:qa4 s=some (v,t)):v.length+t.length<=s.length/\t <:+ s:=by
 have hl:=qhy 34 s;have hx:=zl1 34 s;unfold qa4 at h;by_cases hs:(dj 34 s).1=true
 ·rw[qX hs]at h;obtain⟨g1,g2⟩:=zka [] _ _ _ h;exact⟨by simp at g1;omega,g2.trans hx⟩
 ·rw[qW hs]at h;have e:=qJ h;have g1:=qdx mn (dj 34 s).2;have g2:=zmn mn (dj 34 s).2;rw[e]at g1 g2;simp only at g1 g2;exact⟨oA,g2.trans hx⟩
def q7i{s n v t:Bs}(h:tj s=some ((n,v),t)):n.length+v.length+t.length<=s.length/\t <:+ s:=by
 have h1:=qdx d8 s;have h1':=zmn d8 s;have h2:=qhy 61 (ci d8 s).2;have h2':=zl1 61 (ci d8 s).2;unfold tj at h;by_cases hs:(dj 61 (ci d8 s).2).1=true
 ·rw[qX hs]at h
  cases hv:qa4 (dj 61 (ci d8 s).2).2 with
  |none=>rw[hv]at h;cases h
  |some x=>
   rw[hv]at h;obtain⟨g1,g2⟩:=z5j (v:=x.1) (t:=x.2) hv;have e:=qJ h;obtain⟨rfl,e2⟩:=Prod.mk.inj (Prod.mk.inj e).1;obtain rfl:=(Prod.mk.inj e).2;subst e2;exact⟨oA,g2.trans (h2'.trans h1')⟩
 ·rw[qW hs]at h;cases h
def pos(s r:Bs):Int:=((s.length-r.length:Nat):Int)
def qo8{s r:Bs}(h:r <:+ s):List.drop (pos s r).toNat s=r:=(List.suffix_iff_eq_drop.1 h).symm
def zj0{s r:Bs}(h:r <:+ s):∃p,s=p++r/\pos s r=(p.length:Int):=by
 obtain⟨p,rfl⟩:=h;exact⟨p,rfl,by unfold pos;simp⟩
def qau{s:Bs}{c:UInt8}{t:Bs}(h:(c::t) <:+ s):ai s (pos s (c::t))=some c:=by
 obtain⟨p,rfl,e⟩:=zj0 h;rw[e];exact a6 p c t
def tr{s:Bs}{c:UInt8}{t:Bs}(h:(c::t) <:+ s)(hb:s.length<1000000000:=by omega):ae (pos s (c::t)+1)=pos s t:=by
 have:=h.length_le;simp only[qL]at this;unfold pos;rw[ar _];simp only[qL];omega
def pi{s:Bs}{c:UInt8}{t:Bs}(h:(c::t) <:+ s):pos s (c::t)<(s.length:Int):=by
 have:=h.length_le;simp only[qL]at this;unfold pos;simp only[qL];omega
def ki(s:Bs):pos s []=(s.length:Int):=by unfold pos;simp
def q8s(s:Bs):pos s s=0:=by unfold pos;simp
def xz(s r:Bs):0<=pos s r/\pos s r<=(s.length:Int):=by unfold pos;omega
def q8t{s r r':Bs}(h2:r' <:+ r):pos s r<=pos s r':=by have:=h2.length_le;unfold pos;omega
def q8u{s r r':Bs}(h:r <:+ s)(h2:r' <:+ r):List.take ((pos s r').toNat-(pos s r).toNat) (List.drop (pos s r).toNat s)=r.take (r.length-r'.length):=by
 rw[qo8 h];have:=h.length_le;have:=h2.length_le;congr 1;unfold pos;omega
def z4p(p:UInt8->Bool)(r:Bs):r.take (r.length-(r.dropWhile p).length)=r.takeWhile p:=by
 have h:r.takeWhile p++r.dropWhile p=r:=List.takeWhile_append_dropWhile;have h2:=congrArg List.length h;rw[qM]at h2;rw[show r.length-(r.dropWhile p).length=(r.takeWhile p).length by omega]
 have e:r.take (r.takeWhile p).length=(r.takeWhile p++r.dropWhile p).take (r.takeWhile p).length:=by rw[h]
 rw[e,List.take_left]
def z3s(fu n:Nat)(s:Bs)(hb:s.length<100000000):∀(r:Bs),r <:+ s->r.length<n->qkp fu n s (pos s r)=some (pos s (be r)):=by
 induction n with
 |zero=>intro r _ h;omega|succ n ih=>
  intro r hr h;rw[qkp,qz9]
  cases r with
  |nil=>rw[ki,ao];simp[be,ki]|cons c t=>
   rw[af (pi hr),qau hr,qB,yc,qB,tr hr,tn]
   cases hc:bl c
   ·rfl
   ·rw[au rfl,qX rfl];exact ih t ((List.suffix_cons _ _).trans hr) (by simp only[qL]at h;omega)
def qay(fu:Nat)(hfu:90000000<=fu){s r:Bs}(h:s.length<=4000000)(hr:r <:+ s):ui fu s (pos s r)=some (pos s (be r)):=
 z3s fu fu s oA r hr (by have:=hr.length_le;omega)
def z3c(fu n:Nat)(hfu:90000000<=fu)(more:Bs)(hm:more.length<100)(s:Bs)(hb:s.length<100000000):∀(r:Bs),r <:+ s->r.length<n->qko fu n s (pos s r) more=some (pos s (r.dropWhile fun c=>tk c||more.contains c)):=by
 induction n with
 |zero=>intro r _ h;omega|succ n ih=>
  intro r hr h;rw[qko,qz8]
  cases r with
  |nil=>rw[ki,ao];simp[ki]|cons c t=>
   rw[af (pi hr),qau hr,qB,q9f fu oA,qB,tr hr,List.dropWhile_cons]
   have:=ih t ((List.suffix_cons _ _).trans hr) (by simp only[qL]at h;omega)
   cases hc:tk c
   ·rw[aw rfl,qB,zjl fu c more,qB,Bool.false_or]
    cases hd:more.contains c
    ·rfl
    ·rw[au rfl];exact this
   ·rw[au rfl];exact this
def qpg(fu:Nat)(hfu:90000000<=fu)(more:Bs)(hm:more.length<100){s r:Bs}(h:s.length<=4000000)(hr:r <:+ s)(p:UInt8->Bool)(hp:∀c,(tk c||more.contains c)=p c) :
  qe2 fu s (pos s r) more=some (pos s (r.dropWhile p)):=by
 have:=z3c fu fu hfu more hm s oA r hr (by have:=hr.length_le;omega)
 rw[show(fun c=>tk c||more.contains c)=p from funext hp]at this
 exact this
open Go.Lib (decDigits nDigits itoa atoiAll parseUint10 parseMag NumEnd)
def qof(d:Nat)(h:d<10:=by omega):(UInt8.ofNat (48+d)).toNat=48+d:=by
 rw[UInt8.toNat_ofNat'];omega
def qg1(u:Nat)(h:u<10):decDigits u=[UInt8.ofNat (48+u)]:=by rw[decDigits,dif_pos h]
def qg0(u:Nat)(h:¬u<10):decDigits u=decDigits (u/10)++[UInt8.ofNat (48+u%10)]:=by rw[decDigits,dif_neg h]
def zgn(u:Nat):decDigits u≠[]:=by
 by_cases h:u<10
 ·rw[qg1 u h];simp
 ·rw[qg0 u h];simp
def zgl(u:Nat):∀c∈decDigits u,48<=c.toNat/\c.toNat<=57:=by
 induction u using Nat.strongRecOn with
 |ind u ih=>
  intro c hc;by_cases h:u<10
  ·rw[qg1 u h]at hc;rw[List.mem_singleton.1 hc,qof u h];omega
  ·rw[qg0 u h]at hc;rcases List.mem_append.1 hc with hc|hc
   ·exact ih (u/10) oA c hc
   ·rw[List.mem_singleton.1 hc,qof _];omega
def qoc(k:Nat):∀u,u<10 ^ k->1<=k->(decDigits u).length<=k:=by
 induction k with
 |zero=>intro u _ h;omega|succ k ih=>
  intro u hu _;by_cases h:u<10
  ·rw[qg1 u h];simp
  ·rw[qg0 u h,qM,wD];have hk:1<=k:=by
    rcases Nat.eq_zero_or_pos k with h0|h0
    ·subst h0;simp at hu;omega
    ·exact h0
   have:=ih (u/10) (by rw[Nat.pow_succ]at hu;omega) hk
   omega
def u5(a:Nat)(l:Bs):Nat:=l.foldl (fun a c=>10*a+(c.toNat-48)) a
def zvd(u:Nat):u5 0 (decDigits u)=u:=by
 induction u using Nat.strongRecOn with
 |ind u ih=>
  by_cases h:u<10
  ·rw[qg1 u h];show 10*0+((UInt8.ofNat (48+u)).toNat-48)=u;rw[qof u h];omega
  ·rw[qg0 u h];unfold u5;rw[List.foldl_append];have:=ih (u/10) oA
   unfold u5 at this;rw[this];show 10*(u/10)+((UInt8.ofNat (48+u%10)).toNat-48)=u;rw[qof _];omega
def zzy:∀(l:Bs)(a:Nat)(c:UInt8),parseUint10 a (l++[c])=match parseUint10 a l with | .ok b=>parseUint10 b [c]|e=>e:=by
 intro l
 induction l with
 |nil=>intro a c;rfl|cons d l ih=>
  intro a c;rw[wK,parseUint10,parseUint10];by_cases h1:48<=d.toNat/\d.toNat<=57
  ·rw[qX h1,qX h1];by_cases h2:1844674407370955162<=a
   ·rw[qX h2,qX h2]
   ·rw[qW h2,qW h2];by_cases h3:18446744073709551616<=a*10+(d.toNat-48)
    ·rw[qX h3,qX h3]
    ·rw[qW h3,qW h3,ih]
  ·rw[qW h1,qW h1]
def zzz(u:Nat):u<9223372036854775808->parseUint10 0 (decDigits u) = .ok u:=by
 induction u using Nat.strongRecOn with
 |ind u ih=>
  intro hu;have step:∀a d,a*10+d=u->d<10->parseUint10 a [UInt8.ofNat (48+d)] = .ok u:=by
   intro a d h1 h2;rw[parseUint10,qof d h2,qX oA,qW oA,qW oA,parseUint10]
   congr 1;omega
  by_cases h:u<10
  ·rw[qg1 u h];exact step 0 u oA h
  ·rw[qg0 u h,zzy,ih (u/10) oA oA]
   exact step (u/10) (u%10) oA oA
def zs2(u:Nat)(hu:u<9223372036854775808:=by omega):atoiAll (decDigits u) = .ok (u:Int):=by
 have hd:=zgl u;have hp:=zzz u hu;have hne:=zgn u
 cases hl:decDigits u with
 |nil=>exact absurd hl hne|cons c r=>
  rw[hl]at hd hp;have hc:=hd c qH;unfold atoiAll;simp only[];rw[qW (c:=c.toNat=43\/c.toNat=45) oA,parseMag,qW oC,hp]
  simp only[];rw[qW oA,qW oA,qW oA]
def qwa(u:Nat):itoa (u:Int)=decDigits u:=by unfold itoa;rw[qW oA];simp
def zzc(u:Nat)(most:Int)(h:(u:Int)<=most)(hm:most<9223372036854775808):jb (decDigits u) most=((u:Int),true):=by
 unfold jb;rw[zs2 u]
 simp only[];rw[qX ⟨qwa u,oA,h⟩]
def q78{s:Bs}{most:Int}(h:(jb s most).2=true):∃u:Nat,s=decDigits u/\(u:Int)<=most/\jb s most=((u:Int),true):=by
 have h0:=h;unfold jb at h;split at h
 ·rename_i v hv;by_cases hc:itoa v=s/\0<=v/\v<=most
  ·obtain⟨u,rfl⟩:∃u:Nat,v=u:=⟨v.toNat,oA⟩
   refine⟨u,by rw[← hc.1,qwa],hc.2.2,?_⟩
   unfold jb;rw[hv];simp only[];rw[qX hc]
  ·rw[qW hc]at h;cases h
 ·cases h
def qxt{x:Int}(h1:0<=x:=by omega)(h2:x<18446744073709551616:=by omega):IntKind.u64.wrap x=x:=by
 unfold IntKind.wrap;simp[IntKind.signed,IntKind.bits];omega
def zgr(d:Nat)(h:d<10):List.take (d+1-d) (List.drop d ([48,49,50,51,52,53,54,55,56,57]:Bs))=[UInt8.ofNat (48+d)]:=by
 have:∀d:_root_.Fin 10,List.take (d.val+1-d.val) (List.drop d.val ([48,49,50,51,52,53,54,55,56,57]:Bs))=[UInt8.ofNat (48+d.val)]:=oF
 exact this ⟨d,h⟩
def zuv(fu:Nat)(k:Nat):∀(n u:Nat),k<=n->u<10 ^ k->1<=k->u<9223372036854775808->qki fu n (u:Int)=some (decDigits u):=by
 induction k with
 |zero=>intro n u _ _ h;omega|succ k ih=>
  intro n u hn hu _ hb;obtain⟨n,rfl⟩:∃m,n=m+1:=⟨n-1,oA⟩
  rw[qki,qra];by_cases h:u<10
  ·rw[af oA,show(u:Int)+1=((u+1:Nat):Int) by omega,qxt,af oB,qg1 u h]
   simp only[qY];rw[zgr u h]
  ·have hk:1<=k:=by
    rcases Nat.eq_zero_or_pos k with h0|h0
    ·subst h0;simp at hu;omega
    ·exact h0
   have e1:Int.tdiv (u:Int) 10=((u/10:Nat):Int):=by rw[Int.tdiv_eq_ediv_of_nonneg oA];omega
   have e2:Int.tmod (u:Int) 10=((u%10:Nat):Int):=by rw[Int.tmod_eq_emod_of_nonneg oA];omega
   have hr:=ih n (u/10) oA (by rw[Nat.pow_succ]at hu;omega) hk oA
   have ac:(decDigits (u/10)).length<=19:=qoc 19 _ oA oA
   rw[ao,e1,qxt,hr,qB,e2,show((u%10:Nat):Int)+1=((u%10+1:Nat):Int) by omega,qxt,af oB]
   simp only[qY];simp only[zgr (u%10) (Nat.mod_lt _ oF)]
   rw[af oE,qg0 u h]
def qhp(fu:Nat)(hfu:100<=fu)(u:Nat)(hu:u<9223372036854775808:=by omega):rr fu (u:Int)=some (decDigits u):=by
 unfold rr qz4;rw[ao,qxt,zuv fu 19 fu u oA oA oA hu];rfl
def zu1(fu n:Nat):∀(ab aa:Bs)(a:Nat),aa.length<n->ab.length+aa.length<100000000->ab.length<=9->a<10 ^ ab.length ->
  qkk fu n (ab++aa) 1 9 (a:Int) (ab.length:Int)=some (if(∀c∈aa,48<=c.toNat/\c.toNat<=57)/\1<=ab.length+aa.length/\ab.length+aa.length<=9 then(u5 a aa:Int) else -1):=by
 induction n with
 |zero=>intro ab aa a h;omega|succ n ih=>
  intro ab aa a h hb hp ha;have hpow:10 ^ ab.length<=10 ^ 9:=Nat.pow_le_pow_right oA hp
  rw[qkk,qz5]
  cases aa with
  |nil=>
   rw[ao,mi,qB]
   simp only[List.append_nil,qZ,Nat.add_zero,List.not_mem_nil,false_implies,implies_true,true_and];by_cases h1:1<=ab.length/\ab.length<=9
   ·rw[decide_eq_true oA,bq,qX h1];rfl
   ·rw[decide_eq_false oA,cu,qW h1]
  |cons c t=>
   simp only[qL]at h hb;rw[af oI,a6,qB,mi,qB]
   by_cases hc:48<=c.toNat/\c.toNat<=57
   ·rw[decide_eq_true oA,bq,qkl]
    by_cases h9:9<=ab.length
    ·rw[af oA,qW oG]
    ·rw[ao,qz6,a6,qB,ar _]
     have hsub:(c-48).toNat=c.toNat-48:=by
      rw[UInt8.toNat_sub_of_le _ _ (by rw[UInt8.le_iff_toNat_le];show 48<=_;omega)];rfl
     rw[hsub,show(10:Int)*(a:Int)=((10*a:Nat):Int) by omega,bt (x:=((10*a:Nat):Int)) oA oA,qx _ _]
     have:=ih (ab++[c]) t (10*a+(c.toNat-48)) oA oB oB (by simp only[qM,qL,qZ,wO,Nat.pow_succ];omega)
     simp only[qM,qL,qZ,qS,wM,wO]at this;refine this.trans ?_;congr 1;by_cases hq:(∀x∈t,48<=x.toNat/\x.toNat<=57)/\1<=ab.length+1+t.length/\ab.length+1+t.length<=9
     ·rw[qX hq,qX ⟨fun x hx=>(List.mem_cons.1 hx).elim (fun e=>e▸hc) (hq.1 x),oG,oG⟩];rfl
     ·rw[qW hq,qW (fun g=>hq ⟨fun x hx=>g.1 x (qE _ hx),by have:=g.2;simp only[qL]at this;omega,by have:=g.2;simp only[qL]at this;omega⟩)]
   ·rw[decide_eq_false oA,cu,qkl,au rfl,qW (fun g=>hc (g.1 c qH))]
def zu0(fu:Nat)(s:Bs)(h:s.length<fu)(hb:s.length<100000000):qkj fu s 1 9=some (if(∀c∈s,48<=c.toNat/\c.toNat<=57)/\1<=s.length/\s.length<=9 then(u5 0 s:Int) else -1):=by
 have:=zu1 fu fu [] s 0 h (by simpa using hb) oC oC
 simpa [qkj] using this
def zve:∀(s:Bs)(a k:Nat),(∀c∈s,48<=c.toNat/\c.toNat<=57)->a<10 ^ k->u5 a s<10 ^ (k+s.length):=by
 intro s
 induction s with
 |nil=>intro a k _ h;exact h|cons c s ih=>
  intro a k hd h;have hc:=hd c qH;have:=ih (10*a+(c.toNat-48)) (k+1) (fun x hx=>hd x (qE _ hx)) (by rw[Nat.pow_succ];omega)
  rw[qL,show k+(s.length+1)=k+1+s.length by omega];exact this
def qdk(s:Bs):Option Int:=if(jb s 1099511627776).2=true/\(jb s 1099511627776).1<1000000000 then some (jb s 1099511627776).1 else none
def zzb(fu:Nat)(hfu:1000<=fu)(s:Bs)(h:s.length<fu:=by omega)(hb:s.length<100000000:=by omega):∃x:Int,qkj fu s 1 9=some x /\
  ((qdk s=some x/\0<=x/\rr fu x=some s)\/(qdk s=none/\(x<0\/(0<=x/\∃t,rr fu x=some t/\t≠s)))):=by
 refine⟨_,zu0 fu s h hb,?_⟩;by_cases hq:(∀c∈s,48<=c.toNat/\c.toNat<=57)/\1<=s.length/\s.length<=9
 ·rw[qX hq];have hlt:u5 0 s<1000000000:=by
   have h1:=zve s 0 0 hq.1 oC
   have h2:10 ^ (0+s.length)<=10 ^ 9:=Nat.pow_le_pow_right oA oA
   omega
  have hN:=qhp fu oA (u5 0 s)
  by_cases he:decDigits (u5 0 s)=s
  ·refine .inl ⟨?_,oA,by rw[hN,he]⟩
   have:=zzc (u5 0 s) 1099511627776 oA oF
   rw[he]at this;unfold qdk;rw[this,qX ⟨rfl,oJ⟩]
  ·refine .inr ⟨?_,.inr ⟨oA,_,hN,he⟩⟩
   unfold qdk;rw[qW];rintro⟨g1,_⟩
   obtain⟨u,rfl,_,_⟩:=q78 g1;exact he (by rw[zvd])
 ·rw[qW hq];refine .inr ⟨?_,.inl oA⟩
  unfold qdk;rw[qW];rintro⟨g1,g2⟩
  obtain⟨u,rfl,_,g3⟩:=q78 g1;rw[g3]at g2;simp only at g2;refine hq ⟨zgl u,?_,qoc 9 u oA oA⟩
  have:=zgn u
  cases hd:decDigits u with|nil=>exact absurd hd this|cons=>simp
end Go.Sym
namespace Go.Sym
def hv(c:UInt8):Option UInt8:=if 48<=c/\c<=57 then some (c-48) else if 65<=c/\c<=70 then some (c-65+10) else if 97<=c/\c<=102 then some (c-97+10) else none
def hx(a b:UInt8):Option UInt8:=(hv a).bind fun x=>(hv b).map fun y=>16*x+y
def q5j:∀n:_root_.Fin 256,wq (UInt8.ofNat n.val)=some ((hv (UInt8.ofNat n.val)).getD 0,(hv (UInt8.ofNat n.val)).isSome):=by decide +kernel
def q5k(c:UInt8):wq c=some ((hv c).getD 0,(hv c).isSome):=jh (fun c=>wq c=some ((hv c).getD 0,(hv c).isSome)) q5j c
def ie(c:UInt8):Int:=match hv c with|some x=>(x.toNat:Int)|none => -1
def f8:List UInt8:=[48,49,50,51,52,53,54,55,56,57,65,66,67,68,69,70]
def tg(c:UInt8):Nat->Nat->Int|0,_ => -1|m+1,k=>if f8.getD k 0=c then(k:Int) else if(f8.map lo).getD k 0=c then(k:Int) else tg c m (k+1)
def q64:∀n:_root_.Fin 256,tg (UInt8.ofNat n.val) 16 0=ie (UInt8.ofNat n.val):=by decide +kernel
def q9a(fu:Nat)(hfu:16<fu)(c:UInt8):∀(m k n:Nat),m+k=16->m<n->wj fu n c (k:Int)=some (tg c m k):=by
 intro m
 induction m with
 |zero=>
  intro k n hk hn;obtain⟨n,rfl⟩:∃j,n=j+1:=⟨n-1,oA⟩
  rw[wj,qef,ao];rfl
 |succ m ih=>
  intro k n hk hn;obtain⟨n,rfl⟩:∃j,n=j+1:=⟨n-1,oA⟩
  have h1:k<f8.length:=by show k<16;omega
  have h2:k<(f8.map lo).length:=by show k<16;omega
  have i1:ai f8 (k:Int)=some (f8.getD k 0):=by rw[vc _ _ h1];exact congrArg some (List.getElem_eq_getD 0)
  have i2:ai (f8.map lo) (k:Int)=some ((f8.map lo).getD k 0):=by rw[vc _ _ h2];exact congrArg some (List.getElem_eq_getD 0)
  rw[wj,qef,af oA]
  rw[show([48,49,50,51,52,53,54,55,56,57,65,66,67,68,69,70]:List UInt8)=f8 from rfl]
  rw[i1,qB,gy,tg];by_cases q:f8.getD k 0=c
  ·rw[qX q,qX q]
  ·rw[qW q,qW q,ya fu f8 (by show 16<fu;omega) oF,qB,i2,qB,gy]
   by_cases q2:(f8.map lo).getD k 0=c
   ·rw[qX q2,qX q2]
   ·rw[qW q2,qW q2,ar _,ih (k+1) n oA oA]
def vl(fu:Nat)(hfu:17<fu)(c:UInt8):oh fu c=some (ie c):=by
 have:=q9a fu oA c 16 0 fu rfl oA
 unfold oh;rw[show(0:Int)=((0:Nat):Int) from rfl,this,jh (fun c=>tg c 16 0=ie c) q64 c]
def q65:∀n:_root_.Fin 256,(hv (UInt8.ofNat n.val)).all (fun x=>decide (x.toNat<16))=true:=by decide +kernel
def xm(c x:UInt8)(h:hv c=some x):x.toNat<16:=by
 have:=jh (fun c=>(hv c).all (fun x=>decide (x.toNat<16))=true) q65 c
 rw[h]at this;simpa using this
def q96:∀x y:_root_.Fin 16,(oc (UInt8.ofNat x.val) (min (4:Int).toNat 8))|||UInt8.ofNat y.val=16*UInt8.ofNat x.val+UInt8.ofNat y.val/\d9 (ae ((ae ((16:Int)*((UInt8.ofNat x.val).toNat:Int)))+((UInt8.ofNat y.val).toNat:Int)))=16*UInt8.ofNat x.val+UInt8.ofNat y.val:=by decide +kernel
def qpv(x y:UInt8)(hx1:x.toNat<16)(hy1:y.toNat<16):(oc x (min (4:Int).toNat 8))|||y=16*x+y/\d9 (ae ((ae ((16:Int)*(x.toNat:Int)))+(y.toNat:Int)))=16*x+y:=by
 have:=q96 ⟨x.toNat,hx1⟩ ⟨y.toNat,hy1⟩;simpa using this
def nt:Bs->Option UInt8|a::b::_=>hx a b|_=>none
def q8h(r:Bs):∃v,wt r=some (v,(nt r).isSome)/\∀x,nt r=some x->v=x:=by
 match r with
 |[]=>exact⟨0,rfl,fun x h=>by cases h⟩
 |[_]=>exact⟨0,rfl,fun x h=>by cases h⟩
 |a::b::t=>
  have e:wt (a::b::t)=some ((oc ((hv a).getD 0) (min (4:Int).toNat 8))|||(hv b).getD 0,(hv a).isSome&&(hv b).isSome):=by
   unfold wt;rw[ao oG,show ai (a::b::t) 0=some a from rfl,show ai (a::b::t) 1=some b from rfl]
   simp only[qB,q5k];cases (hv a).isSome<;>rfl
  rw[e,show nt (a::b::t)=hx a b from rfl]
  unfold hx
  cases ha:hv a with
  |none=>exact⟨_,rfl,fun x h=>by cases h⟩
  |some x=>
   cases hb:hv b with
   |none=>exact⟨_,rfl,fun x h=>by cases h⟩
   |some y=>exact⟨_,rfl,fun z h=>by cases h;exact(qpv x y (xm a x ha) (xm b y hb)).1⟩
def fp:Bs->Bs|[]=>[]|[c]=>[c]|[c,d]=>[c,d]|c::a::b::r=>if c=37 then(match hx a b with|some x=>x::fp r|none=>c::fp (a::b::r)) else c::fp (a::b::r)
def q8o(c:UInt8)(r:Bs)(h:c≠37):fp (c::r)=c::fp r:=by
 match r with|[]=>rfl|[_]=>rfl|_::_::_=>rw[fp,qW h]
def q8n(r:Bs):fp (37::r)=match nt r with|some x=>x::fp (r.drop 2)|none=>37::fp r:=by
 match r with
 |[]=>rfl|[_]=>rfl|a::b::t=>
  rw[fp,qX rfl];show _=match hx a b with|some x=>x::fp t|none=>37::fp (a::b::t)
  cases hx a b<;>rfl
def zjy:∀(n:Nat)(s:Bs),s.length<=n->(fp s).length<=s.length:=by
 intro n
 induction n with
 |zero=>intro s h;have:s=[]:=List.eq_nil_of_length_eq_zero oA;subst this;simp[fp]|succ n ih=>
  intro s h
  cases s with
  |nil=>simp[fp]|cons c r=>
   simp only[qL]at h;have h1:=ih r oA
   by_cases hc:c=37
   ·subst hc;rw[q8n]
    cases hp:nt r with
    |none=>simp only[qL];omega|some x=>
     have h2:=ih (r.drop 2) oB
     simp only[qL,List.length_drop]at h2 ⊢;omega
   ·rw[q8o c r hc];simp only[qL];omega
def z4r(fu n:Nat):∀(ab aa out:Bs),aa.length<n->ab.length+aa.length<100000000->out.length+aa.length<100000000 ->
  qmg fu n (ab++aa) (ab.length:Int) out=some (out++fp aa):=by
 have hrm:=iq
 induction n using Nat.strongRecOn with
 |ind n ih=>
  intro ab aa out h hb ho;obtain⟨n,rfl⟩:∃m,n=m+1:=⟨n-1,oA⟩
  rw[qmg,q2i]
  cases aa with
  |nil=>rw[ao];simp[fp]|cons c t=>
   simp only[qL]at h hb ho;have one:=ih n oA (ab++[c]) t (out++[c]) oA oB oB
   simp only[qM,qL,qZ,qS,wM,wO]at one;rw[af oI,a6,qB,gy,ar _]
   by_cases hc:c=37
   ·rw[qX hc,af oI,qab]
    obtain⟨v,h1,h2⟩:=q8h t;rw[h1,qB];subst hc;rw[q8n]
    cases hp:nt t with
    |none=>
     rw[Option.isSome_none,aw rfl,qB,af oB]
     exact one
    |some x=>
     obtain⟨a,b,r,rfl⟩:∃a b r,t=a::b::r:=by
      match t,hp with|a::b::r,_=>exact⟨a,b,r,rfl⟩
     simp only[qL]at h hb ho;rw[Option.isSome_some,au rfl,h2 x hp,af oB,show(ab.length:Int)+2=((ab.length+2:Nat):Int) by omega,bt (x:=((ab.length+2:Nat):Int)) oA oA,ar _]
     have two:=ih n oA (ab++[37,a,b]) r (out++[x]) oA oB oB
     simp only[qM,qL,qZ,qS,wK,List.nil_append,wO]at two;exact two
   ·rw[qW hc,qB,af oB,q8o c t hc]
    exact one
def qxk(k:Int)(v:Bs):Bs:=if k=0/\6<=v.length/\lk (v.take 6) [117,116,102,56,39,39]=true then v.drop 6 else v
def pt(p:Pc):Bs:=if p.2.2.1=true then fp (qxk p.2.1 p.2.2.2) else p.2.2.2
def qxn(fu:Nat)(hfu:90000000<=fu)(s:Bs)(h:s.length<=4000000):qfv fu s=some (fp s):=by
 unfold qfv;have:=z4r fu fu [] s [] oA oB oB
 simpa using this
def z4q(fu:Nat)(hfu:90000000<=fu)(p:Pc)(h:p.2.2.2.length<=4000000:=by omega):qsj fu p=some (pt p):=by
 unfold qsj pt qxk;cases hs:p.2.2.1
 ·rfl
 rw[bq,qX rfl,d6];by_cases h0:p.2.1=0
 ·rw[qX h0];by_cases h6:6<=p.2.2.2.length
  ·rw[af oA,af oA,nz fu hfu _ _ (by show(List.take 6 _).length<=_;rw[List.length_take];omega) oC,qB]
   show zo fu p.2.2.2 (lk (p.2.2.2.take 6) _)=_;rw[zo];cases hl:lk (p.2.2.2.take 6) [117,116,102,56,39,39]
   ·rw[aw rfl,qxn fu hfu _ h,qW oC]
   ·rw[au rfl,af oA]
    show qfv fu (p.2.2.2.drop 6)=_;rw[qxn fu hfu _ oB,qX ⟨h0,h6,rfl⟩]
  ·rw[ao,zo,aw rfl,qxn fu hfu _ h,qW oA]
 ·rw[qW h0,zo,aw rfl,qxn fu hfu _ h,qW oA]
def qpp(p:Pc):(pt p).length<=p.2.2.2.length:=by
 unfold pt;split
 ·refine Nat.le_trans (zjy _ _ (wF _)) ?_;unfold qxk;split
  ·simp
  ·exact wF _
 ·exact wF _
def qpj(ab:Bs)(c:UInt8)(t:Bs):List.take (((ab.length+1:Nat):Int).toNat-((ab.length:Nat):Int).toNat) (List.drop ((ab.length:Nat):Int).toNat (ab++c::t))=[c]:=by
 rw[la,show((ab.length+1:Nat):Int).toNat-((ab.length:Nat):Int).toNat=1 by omega];rfl
def z5e(fu n:Nat)(hfu:100<=fu):∀(ab aa out:Bs),aa.length<n->ab.length+aa.length<100000000->out.length+aa.length<100000000 ->
  qe4 fu n (ab++aa) out (ab.length:Int)=some (out++fp aa):=by
 induction n using Nat.strongRecOn with
 |ind n ih=>
  intro ab aa out h hb ho;obtain⟨n,rfl⟩:∃m,n=m+1:=⟨n-1,oA⟩
  rw[qe4,q0b]
  cases aa with
  |nil=>rw[ao];simp[fp]|cons c t=>
   simp only[qL]at h hb ho;have one:=ih n oA (ab++[c]) t (out++[c]) oA oB oB
   simp only[qM,qL,qZ,qS,wM,wO]at one;have hno:zb fu (qe4 fu n) (ab++c::t) out (ab.length:Int) false=some (out++c::fp t):=by
    rw[zb,aw rfl,ar _,af oI,qpj,af oE,one]
    try simp
   rw[af oI,a6,qB,gy,show(ab.length:Int)+2=((ab.length+2:Nat):Int) by omega,bt (x:=((ab.length+2:Nat):Int)) oA oA,ar _]
   by_cases hc:c=37
   ·subst hc;rw[qX rfl,q8n]
    match t with
    |[]=>rw[ao (by rw[cn];simp only[qZ];omega),hno];rfl|[x]=>rw[ao (by rw[cn];simp only[qL,qZ];omega),hno];rfl|a::b::r=>
     simp only[qL]at h hb ho;have i1:ai (ab++37::a::b::r) ((ab.length+1:Nat):Int)=some a:=by have:=a6 (ab++[37]) a (b::r);simpa using this
     have i2:ai (ab++37::a::b::r) ((ab.length+2:Nat):Int)=some b:=by have:=a6 (ab++[37,a]) b r;simpa using this
     rw[af (by rw[cn];simp only[qL];omega),i1,qB,vl fu oA,qB]
     show _=some (out++match hx a b with|some x=>x::fp r|none=>37::fp (a::b::r))
     unfold hx
     cases ha:hv a with
     |none=>
      have:ie a = -1:=by unfold ie;rw[ha]
      rw[this,ao,hno];rfl
     |some x=>
      have hI:ie a=(x.toNat:Int):=by unfold ie;rw[ha]
      rw[hI,af oA,i2,qB,vl fu oA,qB]
      cases hb':hv b with
      |none=>
       have:ie b = -1:=by unfold ie;rw[hb']
       rw[this,decide_eq_false oA,hno];rfl
      |some y=>
       have hJ:ie b=(y.toNat:Int):=by unfold ie;rw[hb']
       rw[hJ,decide_eq_true oA,zb,au rfl,ar _,i1,qB,vl fu oA,qB,show(ab.length:Int)+2=((ab.length+2:Nat):Int) by omega,bt (x:=((ab.length+2:Nat):Int)) oA oA,i2,qB,vl fu oA,qB,hI,hJ,(qpv x y (xm a x ha) (xm b y hb')).2,af oE,ar _]
       have two:=ih n oA (ab++[37,a,b]) r (out++[16*x+y]) oA oB oB
       simp only[qM,qL,qZ,qS,wK,List.nil_append,wO]at two;exact two
   ·rw[qW hc,hno,q8o c t hc]
def z5d(fu:Nat)(hfu:90000000<=fu)(s:Bs)(h:s.length<=4000000):qre fu s=some (fp s):=by
 have:=z5e fu fu oA [] s [] oA oB oB
 simpa [qre] using this
def sv(k:UInt8):Bs->Option (Bs×Bs)|[]=>none|c::t=>if c=k then some ([],t) else(sv k t).map fun x=>(c::x.1,x.2)
def q51(k:UInt8)(t r:Bs)(h:∀x∈t,x≠k):sv k (t++k::r)=some (t,r):=by
 induction t with
 |nil=>rw[List.nil_append,sv,qX rfl]|cons c t ih=>
  rw[wK,sv,qW (h c qH),ih (fun x hx=>h x (qE _ hx))];rfl
def q52(k:UInt8)(t:Bs)(h:∀x∈t,x≠k):sv k t=none:=by
 induction t with|nil=>rfl|cons c t ih=>rw[sv,qW (h c qH),ih (fun x hx=>h x (qE _ hx))];rfl
def z3t(s:Bs)(k:UInt8):qfn s [k]=some (Lib.indexByte s k):=by
 unfold qfn;rw[aw (by rfl)]
 unfold qfo;by_cases h:[k]=s
 ·subst h;rw[au];show some 0=some (Lib.indexByte ([]++[k]) k);rw[va k [] [] oC];rfl
 ·rw[aw (by simpa using h),au,show ai [k] 0=some k from rfl];rfl
def zuo(s:Bs)(k:UInt8)(h:s.length<=4000000:=by omega):wy s [k]=some (match sv k s with|some x=>(x.1,(x.2,true))|none=>(s,([],false))):=by
 unfold wy ql2;rw[z3t,qB];rcases ob k s with⟨t,r,rfl,ht⟩|hn
 ·rw[qM,qL]at h;rw[va k t r ht,q51 k t r ht,af oA,af oI,show(([k]:Bs).length:Int)=1 from rfl,ar _,af oI,qab,t7];rfl
 ·rw[vb k s hn,q52 k s hn,ao];rfl
def qe(s:Bs):Bs×Bool:=if s.getLast? = some 42 then(s.dropLast,true) else(s,false)
def zul(t:Bs)(hb:t.length<=4000000:=by omega):qtd t [42]=some (qe t):=by
 unfold qtd q14 qb8 qe;rw[show(([42]:List UInt8).length:Int)=1 from rfl]
 rcases List.eq_nil_or_concat t with rfl|⟨u,c,rfl⟩
 ·rfl
 ·rw[List.concat_eq_append]at *;simp only[qM,qL,qZ]at hb;rw[fk,ft _ oA,af oA,af oA,qB,List.getLast?_concat,List.dropLast_concat]
  have e:List.drop ((u.length:Nat):Int).toNat (u++[c])=[c]:=la u [c];rw[e,t6];by_cases hc:c=42
  ·subst hc;rw[qX rfl,show([(42:UInt8)]==[42])=true from rfl,bq,af oA];rfl
  ·rw[qW (by simpa using hc),show([c]==[(42:UInt8)])=false by simpa using hc];rfl
def gu(nm v:Bs):Option Pc:=match sv 42 nm with|none=>if nm=[] then none else some (nm,-1,false,v)|some x=>if x.1≠[]/\(jb (qe x.2).1 1099511627776).2=true then some (x.1,(jb (qe x.2).1 1099511627776).1,(qe x.2).2,v) else none
def jc(nm v:Bs):Option Pc:=match gu nm v with|some p=>if p.2.1<1000000000 then some p else none|none=>none
def zgd{k:UInt8}{s:Bs}{x:Bs×Bs}(h:sv k s=some x):x.1.length+x.2.length<s.length:=by
 rcases ob k s with⟨t,r,rfl,ht⟩|hn
 ·rw[q51 k t r ht]at h;cases h;simp only[qM,qL];omega
 ·rw[q52 k s hn]at h;cases h
def zgy(s:Bs):(qe s).1.length<=s.length:=by unfold qe;split<;>simp
def zjz{nm v:Bs}{p:Pc}(h:gu nm v=some p):p.1.length<=nm.length/\p.2.2.2=v /\ -1<=p.2.1/\p.2.1<=1099511627776/\p.1≠[]:=by
 unfold gu at h
 cases hc:sv 42 nm with
 |none=>
  rw[hc]at h;simp only at h;by_cases hn:nm=[]
  ·rw[qX hn]at h;cases h
  ·rw[qW hn]at h;cases h;exact⟨wF _,rfl,oJ,oJ,hn⟩
 |some x=>
  rw[hc]at h;simp only at h;by_cases hn:x.1≠[]/\(jb (qe x.2).1 1099511627776).2=true
  ·rw[qX hn]at h;obtain⟨u,_,h1,h2⟩:=q78 hn.2;have hl:=zgd hc;cases h
   rw[h2];exact⟨oJ,rfl,oJ,oJ,hn.1⟩
  ·rw[qW hn]at h;cases h
def zze(s:Bs)(h:s.length<=4000000:=by omega):qb3 s 1099511627776=some (jb s 1099511627776):=by unfold qb3;rw[af oA]
def zyu(fu:Nat)(hfu:90000000<=fu)(s:Bs)(h:s.length<=4000000:=by omega):∃R,qsl fu s=some R/\match tj s with
  |none=>R.2.1=false|some x=>match gu x.1.1 x.1.2 with
   |none=>R.2.1=false|some p=>R=(p,(true,x.2)):=by
 have l1:=qdx d8 s;have l2:=qhy 61 (ci d8 s).2;unfold qsl tj;rw[z4l fu hfu s h,qB,qwn fu hfu 61 _,qB]
 cases hs:(dj 61 (ci d8 s).2).1
 ·rw[cu,qW oC];exact⟨_,rfl,rfl⟩
 rw[bq,qX rfl];obtain⟨r,hv⟩:=z5q fu hfu (dj 61 (ci d8 s).2).2
 rw[hv,qB,zuo _ 42,qB]
 generalize hx:qa4 (dj 61 (ci d8 s).2).2=vs;generalize hn:(ci d8 s).1=nm at *
 cases hc:sv 42 nm with
 |none=>
  simp only[qF]
  cases vs with
  |none=>exact⟨_,rfl,rfl⟩|some x=>
   refine⟨_,rfl,?_⟩;simp only[wQ];unfold gu;rw[hc]
   cases nm with|nil=>rfl|cons c nm=>rfl
 |some y=>
  have l3:=zgd hc;have l4:=zgy y.2;simp only[qT];rw[zul _,qB,zze _,qB]
  cases vs with
  |none=>exact⟨_,rfl,rfl⟩|some x=>
   simp only[qT,wQ];unfold gu;rw[hc];simp only;cases hq:(jb (qe y.2).1 1099511627776).2
   ·rw[qW oC];exact⟨_,rfl,rfl⟩
   ·by_cases hy:y.1=[]
    ·rw[qW (by simp[hy])];refine⟨_,rfl,?_⟩;simp[hy]
    ·rw[qX ⟨hy,rfl⟩];refine⟨_,rfl,?_⟩;simp only;congr 2
     cases hy1:y.1 with|nil=>exact absurd hy1 hy|cons=>rfl
def dm(f:Bs->Bs->Option Pc):Nat->List Pc->Bs->Option (List Pc)
 |0,_,_=>none|n+1,acc,s=>match be s with
  |[]=>some acc| c::t=>if c=59 then(match tj t with
   |none=>none|some x=>match f x.1.1 x.1.2 with
    |none=>none| some p=>dm f n (acc++[p]) x.2) else none
def c8(l:List Pc):Nat:=(l.map fun p=>p.1.length+p.2.2.2.length+1).sum
def zmj(l:List Pc)(p:Pc):c8 (l++[p])=c8 l+(p.1.length+p.2.2.2.length+1):=by unfold c8;simp
def po(l:List Pc):l.length<=c8 l:=by
 unfold c8
 induction l with|nil=>simp|cons p l ih=>simp only[List.map_cons,List.sum_cons,qL];omega
def qc5(R:qnm):Prop:=match R with | .inl x=>x.2.2=false | .inr x=>x.2.2.1=false
def nb(p:Pc):Prop := -1<=p.2.1/\p.2.1<=1099511627776
def z0i(fu:Nat)(hfu:90000000<=fu)(Qp:List Pc->Bool×List ce)(hQ:∀l,c8 l<=300000->(∀x∈l,nb x)->qft fu l=some (Qp l))(a b T S:Bs):∀(n:Nat)(s:Bs)(acc:List Pc),c8 acc+s.length<=300000->s.length<n->(∀x∈acc,nb x) ->
  ∃R,qmf fu n a b s T S acc=some R/\match dm gu n acc s with
   |none=>qc5 R|some l=>if(Qp l).1=true then R = .inr (T,(S,(true,(Qp l).2))) else qc5 R:=by
 have hrm:=iq;intro n
 induction n with
 |zero=>intro s acc _ h;omega|succ n ih=>
  intro s acc hz h hnb;have hl:=mg s;have hal:=po acc;rw[qmf,q2g,qwn fu hfu 59 s,qB,dm]
  unfold dj
  cases ht:be s with
  |nil=>
   simp only[qF];rw[qgo fu hfu [] oC,qB,hQ acc oA hnb,qB]
   cases hq:(Qp acc).1
   ·refine⟨_,rfl,?_⟩;rw[qW oC];rfl
   ·refine⟨_,rfl,?_⟩;rw[qX rfl];rfl
  |cons c t=>
   rw[ht]at hl;simp only[qL]at hl;by_cases hc:c=59
   ·simp only[qX hc,qT];obtain⟨R,h1,h2⟩:=zyu fu hfu t
    rw[h1,qB]
    cases hx:tj t with
    |none=>
     rw[hx]at h2;simp only at h2;rw[h2,cu];exact⟨_,rfl,rfl⟩
    |some x=>
     rw[hx]at h2;simp only at h2 ⊢;have hxl:=(q7i (n:=x.1.1) (v:=x.1.2) (t:=x.2) hx).1
     cases hp:gu x.1.1 x.1.2 with
     |none=>
      rw[hp]at h2;simp only at h2;rw[h2,cu];exact⟨_,rfl,rfl⟩
     |some p=>
      rw[hp]at h2;simp only at h2 ⊢;obtain⟨g1,g2,g3,g4,_⟩:=zjz hp;subst h2;have hz2:c8 (acc++[p])+x.2.length<=300000:=by rw[zmj,g2];omega
      rw[bq,af oB]
      exact ih x.2 (acc++[p]) hz2 oA (fun y hy=>(List.mem_append.1 hy).elim (hnb y) (fun e=>by rw[List.mem_singleton.1 e];exact⟨g3,g4⟩))
   ·simp only[qW hc,qF];rw[qgo fu hfu (c::t) oG,qB,show be (c::t)=c::t by rw[← ht,qhm],hQ acc oA hnb,qB]
    cases hq:(Qp acc).1
    ·exact⟨_,rfl,rfl⟩
    ·exact⟨_,rfl,rfl⟩
def qp(f:Bs->Bs->Option Pc)(s:Bs):Option (Bs×Bs×List Pc):=
 let a:=ci tk s;let b:=dj 47 a.2;let c:=ci tk b.2
 if a.1=[]\/b.1=false\/c.1=[] then none else(dm f (s.length+1) [] c.2).map fun l=>(a.1,c.1,l)
def qpa(f:Bs->Bs->Option Pc):∀(n:Nat)(acc:List Pc)(s:Bs),s.length<n->dm f n acc s=dm f (s.length+1) acc s:=by
 intro n
 induction n using Nat.strongRecOn with
 |ind n ih=>
  intro acc s h;obtain⟨n,rfl⟩:∃m,n=m+1:=⟨n-1,oA⟩
  have hl:=mg s;rw[dm,dm]
  cases ht:be s with
  |nil=>rfl|cons c t=>
   rw[ht]at hl;simp only[qL]at hl;simp only;by_cases hc:c=59
   ·rw[qX hc,qX hc]
    cases hx:tj t with
    |none=>rfl|some x=>
     have hxl:=(q7i (n:=x.1.1) (v:=x.1.2) (t:=x.2) hx).1;simp only
     cases f x.1.1 x.1.2 with
     |none=>rfl|some p=>
      simp only;rw[ih n oA _ _ oA]
      by_cases he:s.length=n
      ·rw[he];exact(ih n oA _ _ oA).symm
      ·rw[ih s.length oA _ _ oA]
   ·rw[qW hc,qW hc]
def zys(fu:Nat)(hfu:90000000<=fu)(Qp:List Pc->Bool×List ce)(hQ:∀l,c8 l<=300000->(∀x∈l,nb x)->qft fu l=some (Qp l))(s:Bs)(h:s.length<=300000:=by omega) :
  ∃R,qsi fu s=some R/\match qp gu s with
   |none=>qc5 R|some m=>if(Qp m.2.2).1=true then R = .inr (m.1,(m.2.1,(true,(Qp m.2.2).2))) else qc5 R:=by
 have l1:=qdx tk s;have l2:=qhy 47 (ci tk s).2;have l3:=qdx tk (dj 47 (ci tk s).2).2;unfold qsi qp;rw[zmm fu hfu s,qB,qwn fu hfu 47 _,qB,zmm fu hfu _,qB]
 simp only[];generalize ha:ci tk s=A at *;generalize hb:dj 47 A.2=B at *;generalize hc:ci tk B.2=C at *
 cases h1:A.1 with
 |nil=>rw[au,zn,au rfl,qX (.inl rfl)];exact⟨_,rfl,rfl⟩|cons x1 y1=>
  rw[aw (by rfl)]
  cases h2:B.1 with
  |false=>rw[cu,zn,au rfl,qX (.inr (.inl rfl))];exact⟨_,rfl,rfl⟩|true=>
   rw[bq]
   cases h3:C.1 with
   |nil=>rw[zn,au,qX (.inr (.inr rfl))];exact⟨_,rfl,rfl⟩|cons x3 y3=>
    rw[zn,aw (by rfl),qW oC,q2h]
    obtain⟨R,g1,g2⟩:=z0i fu hfu Qp hQ [] [] (x1::y1) (x3::y3) fu C.2 [] (by simp[c8];omega) oA oC
    refine⟨R,g1,?_⟩;rw[qpa _ fu _ _ oA]at g2
    rw[qpa _ (s.length+1) _ _ oA]
    cases hp:dm gu (C.2.length+1) [] C.2 with|none=>rw[hp]at g2;exact g2|some l=>rw[hp]at g2;exact g2
def zwu(c k:UInt8)(t:Bs):Lib.indexByte (c::t) k=if c=k then 0 else if Lib.indexByte t k<0 then -1 else Lib.indexByte t k+1:=by
 rw[Lib.indexByte];by_cases h:c=k
 ·rw[qX (by simpa using h),qX h]
 ·rw[qW (by simpa using h),qW h]
  rcases ob k t with⟨a,r,rfl,ha⟩|hn
  ·rw[va k a r ha,qW oC,qW oA]
  ·rw[vb k t hn];rfl
def zvx(fu n:Nat)(k:UInt8):∀(ab aa:Bs),aa.length<n->ab.length+aa.length<100000000 ->
  qbe fu n (ab++aa) [k] (ab.length:Int)=some (if Lib.indexByte aa k<0 then -1 else(ab.length:Int)+Lib.indexByte aa k):=by
 induction n with
 |zero=>intro ab aa h;omega|succ n ih=>
  intro ab aa h hb;rw[qbe,qqn,show(([k]:Bs).length:Int)=1 from rfl]
  cases aa with
  |nil=>rw[ar _ (by simp only[qZ]at hb;omega),ao];rfl|cons c t=>
   simp only[qL]at h hb;rw[ar _,af oI,af oI,la,zwu]
   have e:List.take (((ab.length+1:Nat):Int).toNat-((ab.length:Nat):Int).toNat) (c::t)=[c]:=by
    rw[show((ab.length+1:Nat):Int).toNat-((ab.length:Nat):Int).toNat=1 by omega];rfl
   rw[e];by_cases hc:c=k
   ·rw[au (by simpa using hc),qX hc,qW oA];simp
   ·rw[aw (by simpa using hc),qW hc]
    have:=ih (ab++[c]) t oA oB
    simp only[qM,qL,qZ,qS,wM,wO]at this;rw[this];by_cases h0:Lib.indexByte t k<0
    ·rw[qX h0,qX h0,qX oA]
    ·rw[qW h0,qW h0,qW oA];congr 1;omega
def zvw(fu:Nat)(hfu:90000000<=fu)(k:UInt8)(s:Bs)(h:s.length<=4000000):y6 fu s [k] 0=some (Lib.indexByte s k):=by
 have:=zvx fu fu k [] s oA oB
 simp only[List.nil_append,qZ,Int.natCast_zero,Int.zero_add]at this;unfold y6;refine this.trans ?_;rcases ob k s with⟨a,r,rfl,ha⟩|hn
 ·rw[va k a r ha,qW oA]
 ·rw[vb k s hn];rfl
abbrev Pd:Type:=Bs×Bs×Int×Bool
def cr(p:Pc):Pd:=(p.1,p.2.2.2,p.2.1,p.2.2.1)
def z0a(fu:Nat)(hfu:90000000<=fu)(b v s:Bs)(st:Bool)(z:Pd)(h:s.length<=4000000:=by omega):∃R,qe1 fu s z (b,(v,((-1:Int),st)))=some R /\
  match(if b≠[] then qdk s else none) with
  |some k=>R=((b,v,k,st),true)|none=>R.2=false:=by
 unfold qe1;obtain⟨x,h1,h2⟩:=zzb fu oA s
 rw[h1,qB]
 cases b with
 |nil=>exact⟨_,rfl,rfl⟩|cons c b=>
  rw[qX oC]
  rw[au]
  rcases h2 with⟨g1,g2,g3⟩|⟨g1,g2⟩
  ·rw[af g2,g3,qB,g1];exact⟨_,rfl,oC⟩
  ·rw[g1];rcases g2 with g2|⟨g2,t,g3,g4⟩
   ·rw[ao];exact⟨_,rfl,rfl⟩
   ·rw[af g2,g3,qB];exact⟨_,rfl,by simpa using g4⟩
def z0b(fu:Nat)(hfu:90000000<=fu)(nm v:Bs)(h:nm.length<=4000000):∃R,qrb fu nm v=some R/\match jc nm v with
  |some p=>R=(cr p,true)|none=>R.2=false:=by
 unfold qrb;rw[zvw fu hfu 42 nm h,qB];rcases ob 42 nm with⟨t,r,rfl,ht⟩|hn
 ·simp only[qM,qL]at h;rw[va 42 t r ht,ao,ar _,af oI,af oI,qab,t7]
  have key:∀(s:Bs)(st:Bool),qe r=(s,st)->(∃R,qe1 fu s ([],([],((0:Int),false))) (t,(v,((-1:Int),st)))=some R/\match jc (t++42::r) v with
    |some p=>R=(cr p,true)| none=>R.2=false):=by
   intro s st he;have hsl:=zgy r;rw[he]at hsl;simp only at hsl;obtain⟨R,h1,h2⟩:=z0a fu hfu t v s st ([],([],((0:Int),false)))
   refine⟨R,h1,?_⟩;unfold jc gu;rw[q51 42 t r ht];simp only[he];by_cases hb:t=[]
   ·rw[qW (by simp[hb])]
    rw[qW (by simp[hb])]at h2
    exact h2
   ·rw[qX hb]at h2;unfold qdk at h2;cases hq:(jb s 1099511627776).2
    ·rw[qW (by simp[hq])]at h2
     rw[qW oC]
     exact h2
    ·rw[qX ⟨hb,rfl⟩];simp only;by_cases hlt:(jb s 1099511627776).1<1000000000
     ·rw[qX ⟨hq,hlt⟩]at h2;rw[qX hlt];exact h2
     ·rw[qW (by simp[hlt])]at h2;rw[qW hlt];exact h2
  rcases List.eq_nil_or_concat r with rfl|⟨u,c,rfl⟩
  ·rw[ao,qkm,aw rfl]
   exact key [] false rfl
  ·rw[List.concat_eq_append]at *;simp only[qM,qL,qZ]at h;rw[af oR,fk,ft _ oA,th,qB,qkm]
   by_cases hc:c=42
   ·subst hc;rw[au,fk,ft _ oA,af oA,t6]
    exact key u true (by unfold qe;simp)
   ·rw[aw (by simpa using hc)]
    exact key (u++[c]) false (by unfold qe;rw[qW (by simpa using hc)])
 ·rw[vb 42 nm hn,af oA]
  refine⟨_,rfl,?_⟩;unfold jc gu;rw[q52 42 nm hn]
  cases nm with|nil=>rfl|cons c nm=>rfl
def bad:gw:=(([],([],[])),false)
def z2t(fu:Nat)(r2:(Bs->Int->Bs->Bs->Bs->Bs->(List (Bs×Bs×Int×Bool))->Option gw))(s nm a b T S:Bs)(acc:List Pd)(hb:s.length<=4000000):∀(n:Nat)(r out:Bs),r <:+ s->r.length+1<n->out.length+r.length<100000000 ->
  y7 fu r2 n s (pos s r) nm out a b T S acc=match qv out r with
   |some x=>qbp fu r2 s (pos s x.2) nm x.1 a b T S acc|none=>some bad:=by
 intro n
 induction n using Nat.strongRecOn with
 |ind n ih=>
  intro r out hr h ho;obtain⟨n,rfl⟩:∃m,n=m+1:=⟨n-1,oA⟩
  rw[y7,qqz]
  cases r with
  |nil=>rw[ki,ao,qen,aw rfl,au];rfl|cons c t=>
   have ht:t <:+ s:=(List.suffix_cons _ _).trans hr;simp only[qL]at h ho;rw[af (pi hr),qau hr,qB,qhs,qen,uu];by_cases h1:c=34
   ·rw[qW (by simp[h1]),qX h1,aw (by have:=pi hr;simp;omega),tr hr]
   rw[qX h1,qW h1,qzg,qau hr,qB,gy,tr hr]
   have p18:∀(d:UInt8)(u:Bs),(d::u) <:+ s->qjv fu r2 (y7 fu r2 n) s (pos s (d::u)) nm out a b T S acc=y7 fu r2 n s (pos s u) nm (out++[d]) a b T S acc:=by
    intro d u hd;have hu:=hd.length_le;have g1:=xz s (d::u);have g2:=xz s u;have g3:=q8t (s:=s) (List.suffix_cons d u);rw[qjv,tr hd,af oA,q8u hd (List.suffix_cons _ _),show(d::u).take ((d::u).length-u.length)=[d] by simp,af oE]
   by_cases h2:c=92
   ·rw[qX h2,qX h2]
    cases t with
    |nil=>
     rw[ki,qeo,ao,p18 c [] hr]
     obtain⟨n,rfl⟩:∃m,n=m+1:=⟨n-1,by simp only[qZ]at h;omega⟩
     rw[y7,qqz,ki,ao,qen,aw rfl,au];rfl
    |cons d u=>
     simp only[qL]at h ho;rw[qeo,af (pi ht),tr hr,p18 d u ht]
     simp only;exact ih n oA u (out++[d]) ((List.suffix_cons _ _).trans ht) oA oB
   ·rw[qW h2,qW h2,qeo,aw rfl,p18 c t hr];exact ih n oA t (out++[c]) ht oA oB
def z4s(c:UInt8):(tk c||([42]:Bs).contains c)=d8 c:=by unfold d8;rw[show([42]:Bs).contains c=(c==42) by rw[Bool.eq_iff_iff];simp]
def zmq(c:UInt8):(tk c||([37,39,42]:Bs).contains c)=mn c:=by unfold mn;rw[show([37,39,42]:Bs).contains c=(c==37||(c==39||c==42)) by rw[Bool.eq_iff_iff];simp]
def zmr(c:UInt8):(tk c||([]:Bs).contains c)=tk c:=oC
def qpi(p:UInt8->Bool){s r:Bs}(hr:r <:+ s):(0<=pos s r/\pos s r<=pos s (r.dropWhile p)/\pos s (r.dropWhile p)<=(s.length:Int))/\List.take ((pos s (r.dropWhile p)).toNat-(pos s r).toNat) (List.drop (pos s r).toNat s)=r.takeWhile p:=by
 refine⟨⟨(xz s r).1,q8t (List.dropWhile_suffix p),(xz s _).2⟩,?_⟩;rw[q8u hr (List.dropWhile_suffix p),z4p]
def zzm(fu:Nat)(hfu:90000000<=fu)(r2:(Bs->Int->Bs->Bs->Bs->Bs->(List (Bs×Bs×Int×Bool))->Option gw))(s nm v a b T S:Bs)(acc:List Pc)(hb:s.length<=4000000)(hn:nm.length<=4000000)(ha:acc.length<=4000000)(r:Bs)(hr:r <:+ s) :
  qbp fu r2 s (pos s r) nm v a b T S (acc.map cr)=match jc nm v with
   |some p=>r2 s (pos s (be r)) a b T S ((acc++[p]).map cr)|none=>some bad:=by
 have hrm:=iq;obtain⟨R,h1,h2⟩:=z0b fu hfu nm v hn;rw[qbp,h1,qB]
 cases hp:jc nm v with
 |none=>rw[hp]at h2;simp only at h2;rw[h2,cu];rfl|some p=>
  rw[hp]at h2;simp only at h2 ⊢;subst h2;rw[bq,af oB,qay fu hfu hb hr,qB,List.map_append];rfl
def z2a(fu:Nat)(hfu:90000000<=fu)(s a b T S:Bs)(hb:s.length<=4000000):∀(n:Nat)(r:Bs)(acc:List Pc),r <:+ s->be r=r->r.length<n->acc.length+r.length<=4000000 ->
  qep fu n s (pos s r) a b T S (acc.map cr)=match dm jc n acc r with
   |none=>some bad|some l=>py fu fu 0 a b T S (l.map cr) []:=by
 intro n
 induction n with
 |zero=>intro r acc _ _ h;omega|succ n ih=>
  intro r acc hr hlt h hacc;rw[qep,qzc,dm,hlt]
  cases r with
  |nil=>rw[ki,ao]|cons c t=>
   have ht:t <:+ s:=(List.suffix_cons _ _).trans hr;simp only[qL]at h hacc;rw[af (pi hr),qau hr,qB,uu];simp only;by_cases hc:c=59
   ·rw[qW (by simp[hc]),qX hc,tr hr,qay fu hfu hb ht,qB]
    have h1:be t <:+ s:=(vh t).trans ht;rw[qpg fu hfu [42] oC hb h1 d8 z4s,qB]
    obtain⟨ok1,ok2⟩:=qpi d8 h1;have h2:(be t).dropWhile d8 <:+ s:=(List.dropWhile_suffix d8).trans h1;have hnl:((be t).takeWhile d8).length<=4000000:=by
     have:=(List.takeWhile_prefix (l:=be t) d8).length_le;have:=mg t;omega
    rw[af ok1,qay fu hfu hb h2,qB,ok2];unfold tj ci dj;simp only;have h3:be ((be t).dropWhile d8) <:+ s:=(vh _).trans h2;have hl3:(be ((be t).dropWhile d8)).length<=t.length:=by
     have g1:=mg ((be t).dropWhile d8);have g2:=(List.dropWhile_suffix (l:=be t) d8).length_le;have g3:=mg t;omega
    generalize be ((be t).dropWhile d8)=u at *;generalize (be t).takeWhile d8=nm at *
    cases u with
    |nil=>rw[ki,au,qjy,au rfl];simp;rfl|cons d u=>
     have h4:u <:+ s:=(List.suffix_cons _ _).trans h3;simp only[qL]at hl3;rw[aw (by have:=pi h3;simp;omega),qau h3,qB,qjy,uu]
     by_cases hd:d=61
     ·rw[qW (by simp[hd])]
      simp only[qX hd,if_true];rw[qzi,tr h3,qay fu hfu hb h4,qB]
      have h5:be u <:+ s:=(vh u).trans h4;have hl5:=mg u;have fin:∀(v w:Bs),w <:+ s->w.length<=u.length->qbp fu (qep fu n) s (pos s w) nm v a b T S (acc.map cr)=match(match jc nm v with
        |none=>none| some p=>dm jc n (acc++[p]) w) with
        |none=>some bad|some l=>py fu fu 0 a b T S (l.map cr) []:=by
       intro v w hw hwl;rw[zzm fu hfu _ s nm v a b T S acc hb hnl oA w hw]
       cases jc nm v with
       |none=>rfl|some p=>
        simp only;have g1:=mg w;rw[ih (be w) (acc++[p]) ((vh w).trans hw) (qhm w) oA oB]
        have e:dm jc n (acc++[p]) (be w)=dm jc n (acc++[p]) w:=by
         cases n with|zero=>rfl|succ n=>rw[dm,dm,qhm]
        rw[e]
      unfold qa4 dj
      cases hu:be u with
      |nil=>
       rw[ki,ao,qj0,aw rfl]
       have hnil:([]:Bs) <:+ s:=List.nil_suffix;have r1:=qpg fu hfu [37,39,42] oC hb hnil mn zmq
       obtain⟨q1,q2⟩:=qpi mn hnil;rw[ki]at r1 q1 q2;rw[r1,qB,af q1,q2];simp only[wJ,if_false,wQ];exact fin [] [] hnil oC
      |cons e w=>
       rw[hu]at h5 hl5;simp only[qL]at hl5;have h6:w <:+ s:=(List.suffix_cons _ _).trans h5;rw[af (pi h5),qau h5,qB,qj0];by_cases he:e=34
       ·rw[au (by simpa using he),tr h5]
        simp only[qX he,if_true];rw[z2t fu _ s nm a b T S _ hb fu w [] h6 oA oB]
        cases hq:qv [] w with
        |none=>rfl|some x=>
         have:=zka [] w x.1 x.2 hq;simp only[wQ];exact fin x.1 x.2 (this.2.trans h6) (by have:=this.2.length_le;omega)
       ·rw[aw (by simpa using he)]
        simp only[qW he,wJ,if_false,wQ];rw[qpg fu hfu [37,39,42] oC hb h5 mn zmq,qB]
        obtain⟨q1,q2⟩:=qpi mn h5;rw[af q1,q2];unfold ci;have hle:be (e::w)=e::w:=by rw[← hu,qhm]
        rw[hle];have hdl:=(List.dropWhile_suffix (l:=e::w) mn).length_le;simp only[qL]at hdl;exact fin _ _ ((List.dropWhile_suffix mn).trans h5) oA
     ·rw[qX hd];simp only[qW hd,wJ,if_false];rfl
   ·rw[qX hc,qW hc];rfl
def z2x(fu:Nat)(hfu:90000000<=fu)(s:Bs)(h:s.length<=300000):qjs fu s=match qp jc s with
  |none=>some bad|some m=>py fu fu 0 [] [] m.1 m.2.1 (m.2.2.map cr) []:=by
 have hb:s.length<=4000000:=oA
 have h0:s <:+ s:=List.suffix_refl s;have h1:be s <:+ s:=vh s;unfold qjs qp;have sk:=qay fu hfu hb h0;rw[q8s]at sk;rw[sk,qB,qpg fu hfu [] oC hb h1 tk zmr,qB]
 obtain⟨ok1,ok2⟩:=qpi tk h1;have h2:(be s).dropWhile tk <:+ s:=(List.dropWhile_suffix tk).trans h1;rw[af ok1,qay fu hfu hb h2,qB,ok2];unfold ci dj;simp only;have h3:be ((be s).dropWhile tk) <:+ s:=(vh _).trans h2;generalize be ((be s).dropWhile tk)=u at *
 cases hT:(be s).takeWhile tk with
 |nil=>rw[au,qbo,au rfl,qX (.inl rfl)];rfl|cons x y=>
  rw[aw (by rfl)]
  cases u with
  |nil=>rw[ki,au,qbo,au rfl,qX (.inr (.inl rfl))];rfl|cons d u=>
   have h4:u <:+ s:=(List.suffix_cons _ _).trans h3;rw[aw (by have:=pi h3;simp;omega),qau h3,qB,qbo,uu]
   by_cases hd:d=47
   ·rw[qW (by simp[hd]),qzf,tr h3,qay fu hfu hb h4,qB]
    simp only[qX hd];have h5:be u <:+ s:=(vh u).trans h4;rw[qpg fu hfu [] oC hb h5 tk zmr,qB]
    obtain⟨q1,q2⟩:=qpi tk h5;rw[af q1,q2];have h6:(be u).dropWhile tk <:+ s:=(List.dropWhile_suffix tk).trans h5
    cases hS:(be u).takeWhile tk with
    |nil=>rw[au,qX (.inr (.inr rfl))];rfl|cons x3 y3=>
     rw[aw (by rfl),qW oC,qay fu hfu hb h6,qB]
     have hl6:=h6.length_le;have hl7:=mg ((be u).dropWhile tk);have:=z2a fu hfu s [] [] (x::y) (x3::y3) hb fu (be ((be u).dropWhile tk)) [] ((vh _).trans h6) (qhm _) oA oB
     refine(this:_=_).trans ?_;rw[qpa _ fu _ _ oA,qpa _ (s.length+1) _ _ oA]
     have e:dm jc ((be ((be u).dropWhile tk)).length+1) [] (be ((be u).dropWhile tk))=dm jc (((be u).dropWhile tk).length+1) [] ((be u).dropWhile tk):=by
      rw[← qpa _ (((be u).dropWhile tk).length+1) _ _ oA,dm,dm,qhm]
     rw[e];cases dm jc (((be u).dropWhile tk).length+1) [] ((be u).dropWhile tk)<;>rfl
   ·rw[qX hd];simp only[qW hd];rw[qX (.inr (.inl trivial))];rfl
open Go.Sort (SWO PermIn SortedIn pdq_sorts)
open Go.Proofs (ltOf)
def ltQ(x y:Pq):ltOf kv x y=decide (x.1.2.1<y.1.2.1):=by
 have:=x.2;have:=y.2;unfold ltOf kv;have h:ae (x.1.2.1-y.1.2.1)=x.1.2.1-y.1.2.1:=by unfold ae;simp[IntKind.wrap,IntKind.bits,IntKind.signed];omega
 rw[h];by_cases q:x.1.2.1<y.1.2.1<;>simp[q]<;>omega
def z4g:SWO (ltOf kv):=⟨fun x=>by rw[ltQ];simp,fun x y z h1 h2=>by rw[ltQ]at *;simp at *;omega,fun x y z h1 h2=>by rw[ltQ]at *;simp at *;omega⟩
def zl6(l:List Pq):(jl l).Perm l/\(jl l).Pairwise (fun x y=>x.1.2.1<=y.1.2.1):=by
 obtain⟨⟨h1,_,h2⟩,h3⟩:=pdq_sorts (ltOf kv) z4g l.toArray 0 l.length (Lib.bitLen l.length) true true (Nat.zero_le _) oC (.inl rfl)
 have hsort:jl l=(Go.Sort.pdq (ltOf kv) l.toArray 0 l.length (Lib.bitLen l.length) true true).toList:=rfl;generalize Go.Sort.pdq (ltOf kv) l.toArray 0 l.length (Lib.bitLen l.length) true true=D at h1 h2 h3 hsort;have hs:D.size=l.length:=by rw[h1];simp
 rw[hsort];constructor
 ·have e:∀d:Array Pq,d.size=l.length->(d.extract 0 l.length).toList=d.toList:=fun d hd=>by rw[← hd];simp
  rw[e _ hs,e _ oC]at h2
  simpa using h2
 ·rw[List.pairwise_iff_getElem];intro i j hi hj hij;rw[Array.length_toList]at hi hj;have:=h3 i j (Nat.zero_le _) hij oA
  rw[ltQ,getElem!_pos D j hj,getElem!_pos D i hi]at this;have:=of_decide_eq_false this;simp only[Array.getElem_toList];omega
def zmt:∀l:List Pc,(∀p∈l,nb p)->∃q,t8 l=some q/\q.map (·.1)=l
 |[],_=>⟨[],rfl,rfl⟩|p::l,h=>by
  obtain⟨q,h1,h2⟩:=zmt l (fun x hx=>h x (qE _ hx))
  have hp:=h p qH;unfold nb at hp;refine⟨⟨p,oA⟩::q,?_,by simp[h2]⟩
  rw[t8,dif_pos oA,h1]
def je(l:List Pc):List Pc:=match t8 l with|some q=>(jl q).map (·.1)|none=>[]
def q9k(l:List Pc)(h:∀p∈l,nb p)(hl:l.length<=4000000:=by omega):qcl l=some (je l)/\(je l).Perm l/\(je l).Pairwise (fun x y=>x.2.1<=y.2.1):=by
 have hrm:=iq;obtain⟨q,h1,h2⟩:=zmt l h;have h3:=zl6 q;unfold qcl je;rw[h1,af oA]
 refine⟨rfl,?_,?_⟩
 ·have:=h3.1.map (·.1);rw[h2]at this;exact this
 ·exact List.pairwise_map.2 h3.2
def nj:List Pc->Int->Bs->Option Bs|[],_,out=>some out|p::q,k,out=>if p.2.1=k then nj q (k+1) (out++pt p) else none
def pg:List Pc->Int->Prop|[],_=>True|p::q,k=>p.2.1=k/\pg q (k+1)
def q7u:∀(q:List Pc)(k:Int)(out:Bs),pg q k->nj q k out=some (out++q.flatMap pt)|[],_,out,_=>by simp[nj]|p::q,k,out,h=>by rw[nj,qX h.1,q7u q _ _ h.2];simp
def q7t:∀(q:List Pc)(k:Int)(out v:Bs),nj q k out=some v->pg q k
 |[],_,_,_,_=>trivial|p::q,k,out,v,h=>by
  rw[nj]at h;by_cases hp:p.2.1=k
  ·rw[qX hp]at h;exact⟨hp,q7t q _ _ _ h⟩
  ·rw[qW hp]at h;cases h
def zim(q:List Pc)(k:Int)(out:Bs)(h:¬pg q k):nj q k out=none:=by
 cases hl:nj q k out with|none=>rfl|some v=>exact absurd (q7t q k out v hl) h
def Cov(q:List Pc)(k:Int):Prop:=∀j:Nat,j<q.length->∃p∈q,p.2.1=k+j
def pig(m:Nat):∀(l:List Pc)(k:Int),(∀j:Nat,j<m->∃p∈l,p.2.1=k+j)->m<=l.length:=by
 induction m with
 |zero=>intro l k _;omega|succ m ih=>
  intro l k h;obtain⟨p,hp,hk⟩:=h m oA
  obtain⟨a,b,rfl⟩:=List.append_of_mem hp;have:=ih (a++b) k (fun j hj=>by
   obtain⟨x,hx,hxk⟩:=h j oA
   refine⟨x,?_,hxk⟩;rcases List.mem_append.1 hx with g|g
   ·exact List.mem_append_left _ g
   ·rcases List.mem_cons.1 g with g|g
    ·subst g;omega
    ·exact List.mem_append_right _ g)
  rw[qM]at this;rw[qM,qL];omega
def zgc:∀(q:List Pc)(k:Int),q.Pairwise (fun x y=>x.2.1<=y.2.1)->Cov q k->pg q k
 |[],_,_,_=>trivial|p::r,k,hs,hc=>by
  rw[List.pairwise_cons]at hs;have ac:(p::r).length=r.length+1:=rfl;have h1:k<=p.2.1/\p.2.1<k+(r.length+1:Nat):=by
   by_cases g:k<=p.2.1/\p.2.1<k+(r.length+1:Nat)
   ·exact g
   ·exfalso;have:=pig (r.length+1) r k (fun j hj=>by
     obtain⟨x,hx,hxk⟩:=hc j oA
     rcases List.mem_cons.1 hx with e|e
     ·subst e;exact absurd ⟨oA,oA⟩ g
     ·exact⟨x,e,hxk⟩)
    omega
  have h2:p.2.1=k:=by
   obtain⟨x,hx,hxk⟩:=hc 0 oA
   rcases List.mem_cons.1 hx with e|e
   ·subst e;omega
   ·have:=hs.1 x e;omega
  refine⟨h2,zgc r (k+1) hs.2 fun j hj => ?_⟩
  obtain⟨x,hx,hxk⟩:=hc (j+1) oA
  rcases List.mem_cons.1 hx with e|e
  ·subst e;omega
  ·exact⟨x,e,oA⟩
def zjc:∀(q:List Pc)(k:Int),pg q k->∀x∈q,k<=x.2.1
 |[],_,_,_,h=>by cases h
 |p::r,k,h,x,hx=>by
  rcases List.mem_cons.1 hx with e|e
  ·subst e;exact Int.le_of_eq h.1.symm
  ·have:=zjc r _ h.2 x e;omega
def Cov.perm{q q':List Pc}{k:Int}(h:Cov q k)(hp:q.Perm q'):Cov q' k:=fun j hj=>by
 obtain⟨x,hx,e⟩:=h j (by rw[hp.length_eq];exact hj)
 exact⟨x,hp.mem_iff.1 hx,e⟩
def vd:List Pc->Option Bs|[]=>none|p::l=>if p.2.1<0 then(if l=[] then some p.2.2.2 else none) else(nj (je (p::l)) 0 []).map fun v=>vu [239,191,189] v.length false v
def qwb(p:Pc)(l:List Pc):vd (p::l)=if p.2.1<0 then(if l=[] then some p.2.2.2 else none) else(nj (je (p::l)) 0 []).map fun v=>vu [239,191,189] v.length false v:=rfl
def qdw(p:Pc)(l:List Pc):c8 (p::l)=(p.1.length+p.2.2.2.length+1)+c8 l:=by unfold c8;simp
def q9w{l l':List Pc}(h:l.Perm l'):c8 l=c8 l':=by unfold c8;exact(h.map _).sum_nat
def qh0{l:List Pc}{p:Pc}(h:p∈l):p.1.length+p.2.2.2.length+1<=c8 l:=by
 obtain⟨a,b,rfl⟩:=List.append_of_mem h;unfold c8;simp;omega
def zxj(fu n:Nat)(hfu:90000000<=fu)(z:Bs×Bs)(nm:Bs):∀(ab aa:List Pc)(out:Bs),aa.length<n->ab.length+aa.length<100000000->out.length+c8 aa<=300000 ->
  ∃R,ql9 fu n ((ab.length+aa.length:Nat):Int) (ab.length:Int) z (nm,out) (ab++aa)=some R/\match nj aa (ab.length:Int) out with
   |some v=>R=((nm,vu [239,191,189] v.length false v),true)|none=>R.2=false:=by
 induction n with
 |zero=>intro ab aa out h;omega|succ n ih=>
  intro ab aa out h hb hz;rw[ql9,q2b]
  cases aa with
  |nil=>
   rw[ao,z4x out (by simp[c8]at hz;omega)]
   exact⟨_,rfl,rfl⟩
  |cons p t=>
   rw[qdw]at hz;simp only[qL]at h hb;have hl:0<=(ab.length:Int)/\(ab.length:Int).toNat<(ab++p::t).length:=oC
   have htl:=qpp p;rw[af oG,af hl,ic,qB,dz,nj]
   by_cases hp:p.2.1=(ab.length:Int)
   ·rw[qW (by simpa using hp),qX hp,z4q fu hfu p,qB,af oE,ar _]
    have:=ih (ab++[p]) t (out++pt p) oA oB oN
    simp only[qM,qL,qZ,qS,wM,wO]at this;rw[show(ab.length+(p::t).length:Nat)=ab.length+1+t.length by simp only[qL];omega,show(ab.length:Int)+1=((ab.length+1:Nat):Int) by omega]
    exact this
   ·rw[qX hp,qW hp];exact⟨_,rfl,rfl⟩
def zxl(fu:Nat)(hfu:90000000<=fu)(p:Pc)(l:List Pc)(hz:c8 (p::l)<=300000)(hn:∀x∈p::l,nb x):∃R,ql8 fu (p::l)=some R/\match vd (p::l) with
  |some v=>R=((p.1,v),true)|none=>R.2=false:=by
 have hl:decide (0<=(0:Int)/\(0:Int).toNat<List.length (p::l))=true:=oC
 have ac:=po (p::l);unfold ql8;rw[qwb,au hl,show(p::l)[(0:Int).toNat]? = some p from rfl,qB,au hl,qB,au hl,qB]
 by_cases h0:p.2.1<0
 ·rw[af h0,qX h0];refine⟨_,rfl,?_⟩
  cases l with|nil=>rfl|cons y l=>rw[qW oC];simp;omega
 ·rw[ao h0,qW h0];obtain⟨h1,h2,h3⟩:=q9k (p::l) hn
  rw[h1,qB];obtain⟨R,g1,g2⟩:=zxj fu fu hfu ([],[]) p.1 [] (je (p::l)) [] (by rw[h2.length_eq];omega) (by rw[h2.length_eq];simp only[qZ];omega) (by rw[q9w h2];simpa using hz)
  simp only[List.nil_append,qZ,wO]at g1 g2;refine⟨R,g1,?_⟩;rw[show((0:Nat):Int)=0 from rfl]at g2
  cases hq:nj (je (p::l)) 0 [] with|none=>rw[hq]at g2;exact g2|some v=>rw[hq]at g2;exact g2
def cw(nm:Bs)(l:List Pc):List Pc:=l.filter fun x=>lk x.1 nm
def gq:List Pc->List Pc->List ce->Bool×List ce
 |_,[],out=>(true,out)|ab,p::aa,out=>if ab.any (fun x=>lk x.1 p.1)=true then gq (ab++[p]) aa out else match vd (cw p.1 (ab++p::aa)) with|none=>(false,[])|some v=>gq (ab++[p]) aa (out++[(p.1,v)])
def zxi(fu n:Nat)(hfu:90000000<=fu)(p:Pc)(hp:p.1.length<=4000000):∀(ab aa:List Pc),aa.length<n->ab.length+aa.length<100000000->(∀x∈aa,x.1.length<=4000000) ->
  ∃i:Int,qm0 fu n (ab++aa) ((ab.length+aa.length:Nat):Int) (ab.length:Int) p=some (i,p)/\decide (0<=i)=aa.any (fun x=>lk x.1 p.1):=by
 induction n with
 |zero=>intro ab aa h;omega|succ n ih=>
  intro ab aa h hb hs;rw[qm0,q3f]
  cases aa with
  |nil=>rw[ao];exact⟨_,rfl,rfl⟩|cons d aa=>
   simp only[qL]at h hb;rw[af oG,a6,qB,qmc,nz fu hfu _ _ (hs d qH) hp,qB,qB,ar _]
   obtain⟨i,h1,h2⟩:=ih (ab++[d]) aa oA oB (fun x hx=>hs x (qE _ hx))
   simp only[qM,qL,qZ,qS,wM,wO]at h1;cases e:lk d.1 p.1
   ·simp only[qF,List.any_cons,e,Bool.false_or];rw[show(ab.length+(d::aa).length:Nat)=ab.length+1+aa.length by simp only[qL];omega]
    exact⟨i,h1,h2⟩
   ·simp only[qT,List.any_cons,e,Bool.true_or];exact⟨_,rfl,decide_eq_true oA⟩
def zt1(fu:Nat)(hfu:90000000<=fu)(l:List Pc)(p:Pc)(hp:p.1.length<=4000000)(hl:l.length<=4000000)(hs:∀x∈l,x.1.length<=4000000):qs9 fu l p=some (l.any (fun x=>lk x.1 p.1),p):=by
 obtain⟨i,h1,h2⟩:=zxi fu fu hfu p hp [] l oA oB hs
 simp only[List.nil_append,qZ,wO]at h1;unfold qs9 q3e;rw[← h2];exact(congrArg (fun q=>Option.bind q fun x1=>some (decide ((0:Int)<=x1.1),x1.2)) h1).trans rfl
def q50(r0:((List (Bs×Int×Bool×Bs))->(List (Bs×Int×Bool×Bs))->Int->Int->(List (Bs×Bs))->Option qcr))(s0 s13:List Pc)(s14 s15:Int)(p:Pc)(out:List ce)(x3:(Bs×Bs)×Bool):Option qcr:=bif !x3.2 then some (false,[]) else bif decide (List.length (out++([(p.1,x3.1.2)]:List ce))<=az) then r0 s0 s13 s14 (ae (s15+(1:Int))) (out++([(p.1,x3.1.2)]:List ce)) else none
def zz8(fu:Nat)(hfu:90000000<=fu)(r0:((List (Bs×Int×Bool×Bs))->(List (Bs×Int×Bool×Bs))->Int->Int->(List (Bs×Bs))->Option qcr))(s0 s13:List Pc)(s14 s15:Int)(p:Pc)(hp:p.1.length<=4000000)(out:List ce)(n:Nat):∀(ab aa acc:List Pc),aa.length<n->ab.length+aa.length<100000000->acc.length<=ab.length->(∀x∈aa,x.1.length<=4000000) ->
  qmd fu r0 n s0 s13 s14 s15 (ab++aa) ((ab.length+aa.length:Nat):Int) (ab.length:Int) p out acc =
   (ql8 fu (acc++cw p.1 aa)).bind (q50 r0 s0 s13 s14 s15 p out):=by
 have hrm:=iq
 induction n with
 |zero=>intro ab aa acc h;omega|succ n ih=>
  intro ab aa acc h hb ha hs;rw[qmd,q2f]
  cases aa with
  |nil=>rw[ao,show cw p.1 []=[] from rfl,List.append_nil];rfl|cons d aa=>
   simp only[qL]at h hb;rw[af oG,a6,qB,qmc,nz fu hfu _ _ (hs d qH) hp,qB,qB]
   have h1:=fun acc'(ha':acc'.length<=ab.length+1)=>ih (ab++[d]) aa acc' oA oB (by simpa using ha') (fun x hx=>hs x (qE _ hx))
   simp only[qM,qL,qZ,qS,wM,wO]at h1;rw[show cw p.1 (d::aa)=if lk d.1 p.1=true then d::cw p.1 aa else cw p.1 aa by unfold cw;rw[List.filter_cons]]
   cases e:lk d.1 p.1
   ·simp only[qF,wJ,if_false];rw[qme,ar _,show(ab.length+(d::aa).length:Nat)=ab.length+1+aa.length by simp only[qL];omega]
    exact h1 acc oA
   ·simp only[qT,if_true];rw[af oB,qme,ar _,show(ab.length+(d::aa).length:Nat)=ab.length+1+aa.length by simp only[qL];omega]
    refine(h1 (acc++[d]) oB).trans ?_
    rw[qS];rfl
def q9v(f:Pc->Bool)(l:List Pc):c8 (l.filter f)<=c8 l:=by
 induction l with
 |nil=>simp|cons p l ih=>
  rw[List.filter_cons];split
  ·rw[qdw,qdw];omega
  ·rw[qdw];omega
def zzu(fu:Nat)(hfu:90000000<=fu)(l:List Pc)(hz:c8 l<=300000)(hn:∀x∈l,nb x)(n:Nat):∀(ab aa:List Pc)(out:List ce),l=ab++aa->aa.length<n->out.length<=ab.length ->
  qfu fu n l (ab++aa) ((ab.length+aa.length:Nat):Int) (ab.length:Int) out=some (gq ab aa out):=by
 have hrm:=iq;have hll:=po l;have hnm:∀x∈l,x.1.length<=4000000:=fun x hx=>by have:=qh0 hx;omega
 induction n with
 |zero=>intro ab aa out _ h;omega|succ n ih=>
  intro ab aa out hl h ho;rw[qfu,q2e]
  cases aa with
  |nil=>rw[ao];rfl|cons p aa=>
   simp only[qL]at h;have ac:l.length=ab.length+aa.length+1:=by rw[hl];simp;omega
   have hp:=hnm p (by rw[hl];simp)
   rw[af oG,a6,qB,af oA]
   have e:List.take ((ab.length:Nat):Int).toNat l=ab:=by rw[hl];exact t7 _ _
   rw[e,zt1 fu hfu ab p hp oA (fun x hx=>hnm x (by rw[hl];simp[hx])),qB,gq]
   have step:=fun o(ho:List.length o<=ab.length+1)=>ih (ab++[p]) aa o (by rw[hl];simp) oA (by simpa using ho)
   simp only[qM,qL,qZ,qS,wM,wO]at step;simp only;cases hany:ab.any (fun x=>lk x.1 p.1)
   ·rw[aw rfl,qW oC]
    have h1:=zz8 fu hfu (qfu fu n) l (ab++p::aa) ((ab.length+(p::aa).length:Nat):Int) (ab.length:Int) p hp out fu [] l [] oA oB oC hnm
    simp only[List.nil_append,qZ,wO]at h1;rw[show((0:Nat):Int)=0 from rfl]at h1
    rw[h1];have hmem:p∈cw p.1 l:=by unfold cw;rw[List.mem_filter];exact⟨by rw[hl];simp,q7k _⟩
    have hzz:=q9v (fun x=>lk x.1 p.1) l
    cases hN:cw p.1 l with
    |nil=>rw[hN]at hmem;cases hmem
    |cons y w=>
     obtain⟨R,g1,g2⟩:=zxl fu hfu y w (by rw[← hN];unfold cw;omega) (fun x hx=>hn x (by rw[← hN]at hx;exact(List.mem_filter.1 hx).1))
     rw[g1,qB];rw[← hl,hN]
     cases hj:vd (y::w) with
     |none=>rw[hj]at g2;simp only at g2;rw[q50,g2];rfl|some v=>
      rw[hj]at g2;simp only at g2;subst g2;rw[q50,bq,af oB,ar _]
      simp only;rw[show(ab.length+(p::aa).length:Nat)=ab.length+1+aa.length by simp only[qL];omega]
      have st:=step (out++[(p.1,v)]) oB
      rw[← hl]at st;exact st
   ·rw[au rfl,qX rfl,ar _,show(ab.length+(p::aa).length:Nat)=ab.length+1+aa.length by simp only[qL];omega]
    exact step out oA
def zzt(fu:Nat)(hfu:90000000<=fu)(l:List Pc)(hz:c8 l<=300000)(hn:∀x∈l,nb x):qft fu l=some (gq [] l []):=by
 have hll:=po l;have:=zzu fu hfu l hz hn fu [] l [] rfl oA oC
 simpa [qft] using this
end Go.Sym
namespace Go.Sym
def zje:∀(q:List Pc)(k:Int),pg q k->∀x∈q,∀y∈q,x.2.1=y.2.1->x=y
 |[],_,_,x,hx,_,_,_=>by cases hx
 |p::r,k,h,x,hx,y,hy,e=>by
  have hg:=zjc r _ h.2;have h1:=h.1;rcases List.mem_cons.1 hx with ex|ex
  ·rcases List.mem_cons.1 hy with ey|ey
   ·rw[ex,ey]
   ·subst ex;have:=hg y ey;omega
  ·rcases List.mem_cons.1 hy with ey|ey
   ·subst ey;have:=hg x ex;omega
   ·exact zje r _ h.2 x ex y ey e
def qi{l u w:List Pc}{x:Pc}(h:l=u++x::w):ai (l.map cr) (u.length:Int)=some (cr x):=by
 subst h;have:=a6 (u.map cr) (cr x) (w.map cr);rw[wC]at this;rw[List.map_append,List.map_cons];exact this
section ref
variable(fu:Nat)(hfu:90000000<=fu)(l ab aa:List Pc)(p:Pc)(hl:l=ab++p::aa)(hz:c8 l<=300000)(b0 b1 T S:Bs)(ps:List ce)(r4:(Int->Bs->Bs->Bs->Bs->(List (Bs×Bs×Int×Bool))->(List (Bs×Bs))->Option gw))
include hfu hl hz
def q9c:∀x∈l,x.1.length<=4000000:=fun x hx=>by have _:=hfu;have _:=hl;have:=qh0 hx;omega
def rp6(n:Nat):∀(u w:List Pc)(seen:Bool),ab=u++w->w.length<n ->
  qjz fu r4 n (ab.length:Int) seen (u.length:Int) b0 b1 T S (l.map cr) ps=ug fu r4 fu (ab.length:Int) (seen||w.any (fun x=>lk p.1 x.1)) (0:Int) (0:Int) b0 b1 T S (l.map cr) ps:=by
 have hnm:=q9c fu hfu l ab aa p hl hz;have hll:=po l;have ac:l.length=ab.length+aa.length+1:=by rw[hl];simp;omega
 induction n with
 |zero=>intro u w seen _ h;omega|succ n ih=>
  intro u w seen hp h;rw[qjz,qze];have hpl:ab.length=u.length+w.length:=by rw[hp];simp
  cases w with
  |nil=>rw[ao (by simp only[qZ]at hpl;omega)];simp|cons x w=>
   simp only[qL]at h hpl;have st:=fun sn=>ih (u++[x]) w sn (by rw[hp];simp) oA
   simp only[qM,qL,qZ,wO]at st;rw[af oA,List.any_cons]
   have hx:x∈l:=by rw[hl,hp];simp
   cases seen
   ·rw[aw rfl,jk,qi hl,qB,jk,qi (show l=u++x::(w++p::aa) by rw[hl,hp];simp),qB]
    show(fg fu p.1 x.1).bind _=_;rw[se fu hfu _ _ (hnm p (by rw[hl];simp)) (hnm x hx),qB,qju,ar _,st]
    simp
   ·rw[au rfl,qju,ar _,st]
    simp
def rp8(n:Nat):∀(u w:List Pc)(seen:Bool)(c:Nat),l=u++w->w.length<n->c<=u.length ->
  ug fu r4 n (ab.length:Int) seen (c:Int) (u.length:Int) b0 b1 T S (l.map cr) ps=ug fu r4 1 (ab.length:Int) seen ((c+(w.filter (fun x=>lk p.1 x.1)).length:Nat):Int) (l.length:Int) b0 b1 T S (l.map cr) ps:=by
 have hnm:=q9c fu hfu l ab aa p hl hz;have hll:=po l
 induction n with
 |zero=>intro u w seen c _ h;omega|succ n ih=>
  intro u w seen c hp h hc;have hpl:l.length=u.length+w.length:=by rw[hp];simp
  cases w with
  |nil=>
   rw[List.append_nil]at hp;subst hp;rw[ug,ug];simp only[List.filter_nil,qZ,Nat.add_zero];have hend:¬((l.length:Int)<(List.length (l.map cr):Int)):=by rw[wC];omega
   rw[qem,qem,ao hend,ao hend]
  |cons x w=>
   simp only[qL]at h hpl;rw[ug,qem];have st:=fun c'(hc':c'<=u.length+1)=>ih (u++[x]) w seen c' (by rw[hp];simp) oA (by simpa using hc')
   simp only[qM,qL,qZ,wO]at st;have hx:x∈l:=by rw[hp];simp
   rw[af oP,jk,qi hl,qB,jk,qi hp,qB]
   show(fg fu p.1 x.1).bind _=_;rw[se fu hfu _ _ (hnm p (by rw[hl];simp)) (hnm x hx),qB,List.filter_cons]
   cases hk:lk p.1 x.1
   ·rw[aw rfl,qjt,ar _,st c oA];rfl
   ·rw[au rfl,qjt,ar _,ar _,st (c+1) oA]
    simp only[if_true,qL];rw[show c+1+(w.filter (fun x=>lk p.1 x.1)).length=c+((w.filter (fun x=>lk p.1 x.1)).length+1) by omega]
def zle(r13:(Int->Int->Bs->Int->Bs->Bs->Bs->Bs->(List (Bs×Bs×Int×Bool))->(List (Bs×Bs))->Option gw))(c:Int)(v:Bs)(nn:Int)(n:Nat):∀(u w:List Pc)(j:Int),l=u++w->w.length<n ->
  ∃j',mu fu r4 r13 n (ab.length:Int) c v nn j (u.length:Int) b0 b1 T S (l.map cr) ps=mu fu r4 r13 1 (ab.length:Int) c v nn j' (l.length:Int) b0 b1 T S (l.map cr) ps /\
   ((j'=j/\∀x∈w,¬(lk p.1 x.1=true/\x.2.1=nn))\/∃x∈w,lk p.1 x.1=true/\x.2.1=nn/\ai (l.map cr) j'=some (cr x)):=by
 have hnm:=q9c fu hfu l ab aa p hl hz;have hll:=po l
 induction n with
 |zero=>intro u w j _ h;omega|succ n ih=>
  intro u w j hp h;have hpl:l.length=u.length+w.length:=by rw[hp];simp
  cases w with
  |nil=>
   rw[List.append_nil]at hp;subst hp;refine⟨j,?_,.inl ⟨rfl,oC⟩⟩
   have hend:¬((l.length:Int)<(List.length (l.map cr):Int)):=by rw[wC];omega
   rw[mu,mu,qbn,qbn,ao hend,ao hend]
  |cons x w=>
   simp only[qL]at h hpl;rw[mu,qbn];have st:=fun j'=>ih (u++[x]) w j' (by rw[hp];simp) oA
   simp only[qM,qL,qZ,wO]at st;have hx:x∈l:=by rw[hp];simp
   rw[af oP,jk,qi hl,qB,jk,qi hp,qB]
   have hsk:¬(lk p.1 x.1=true/\x.2.1=nn)->∃j',mu fu r4 r13 n (ab.length:Int) c v nn j ((u.length+1:Nat):Int) b0 b1 T S (l.map cr) ps=mu fu r4 r13 1 (ab.length:Int) c v nn j' (l.length:Int) b0 b1 T S (l.map cr) ps /\
     ((j'=j/\∀y∈x::w,¬(lk p.1 y.1=true/\y.2.1=nn))\/∃y∈x::w,lk p.1 y.1=true/\y.2.1=nn/\ai (l.map cr) j'=some (cr y)):=fun hno=>by
    obtain⟨j',g1,g2⟩:=st j;refine⟨j',g1,?_⟩;rcases g2 with⟨g2,g3⟩|⟨y,g2,g3⟩
    ·exact .inl ⟨g2,fun y hy=>(List.mem_cons.1 hy).elim (fun e=>e▸hno) (g3 y)⟩
    ·exact .inr ⟨y,qE _ g2,g3⟩
   show ∃j',(fg fu p.1 x.1).bind _=_/\_;rw[se fu hfu _ _ (hnm p (by rw[hl];simp)) (hnm x hx),qB]
   cases hk:lk p.1 x.1
   ·rw[aw rfl,qjw,aw rfl,qeq,ar _]
    exact hsk (by simp[hk])
   ·rw[au rfl,jk,qi hp,qB,qjw];show ∃j',(bif x.2.1==nn then _ else _)=_/\_
    rw[d6];by_cases hn:x.2.1=nn
    ·rw[qX hn,qeq,ar _]
     obtain⟨j',g1,g2⟩:=st (u.length:Int);refine⟨j',g1,.inr ?_⟩;rcases g2 with⟨g2,g3⟩|⟨y,g2,g3⟩
     ·exact⟨x,qH,hk,hn,by rw[g2];exact qi hp⟩
     ·exact⟨y,qE _ g2,g3⟩
    ·rw[qW hn,qeq,ar _]
     exact hsk (by simp[hn])
omit hl in
def zgx(r13:(Int->Int->Bs->Int->Bs->Bs->Bs->Bs->(List (Bs×Bs×Int×Bool))->(List (Bs×Bs))->Option gw))(a c:Int)(v:Bs)(nn:Nat)(j:Int)(x:Pc)(hx:x∈l)(hn:x.2.1=(nn:Int))(hj:ai (l.map cr) j=some (cr x))(hv:v.length<=100000000000)(hnn:nn<=4000000) :
  mu fu r4 r13 1 a c v (nn:Int) j (l.length:Int) b0 b1 T S (l.map cr) ps=r13 a c (v++pt x) ((nn+1:Nat):Int) b0 b1 T S (l.map cr) ps:=by
 have hxl:=qh0 hx;have h0:0<=j:=by
  by_cases h:0<=j
  ·exact h
  ·unfold ai at hj;rw[qW h]at hj;cases hj
 rw[mu,qbn,ao oP,ao,jk,hj,qB,jk,hj,qB]
 have p22:∀t:Bs,t.length<=4000000->qer fu r4 r13 a c v (nn:Int) t b0 b1 T S (l.map cr) ps=r13 a c (v++t) ((nn+1:Nat):Int) b0 b1 T S (l.map cr) ps:=fun t ht=>by
  rw[qer,af oO,qzh,ar _]
 have p23:∀t:Bs,t.length<=4000000->qjx fu r4 r13 a c v (nn:Int) t b0 b1 T S (l.map cr) ps=r13 a c (v++fp t) ((nn+1:Nat):Int) b0 b1 T S (l.map cr) ps:=fun t ht=>by
  rw[qjx,z5d fu hfu t ht,qB,p22 _ (by have:=zjy _ t (wF _);omega)]
 unfold pt qxk;show(bif x.2.2.1 then(bif(nn:Int)==0 then(bif decide ((6:Int)<=(x.2.2.2.length:Int)) then(bif decide (0<=(6:Int)/\(6:Int)<=(List.length x.2.2.2:Int)) then(rq fu (List.take (6:Int).toNat x.2.2.2)).bind fun x7=>uf fu r4 r13 a c v (nn:Int) x.2.2.2 (x7==([117,116,102,56,39,39]:Bs)) b0 b1 T S (l.map cr) ps else none) else uf fu r4 r13 a c v (nn:Int) x.2.2.2 false b0 b1 T S (l.map cr) ps) else uf fu r4 r13 a c v (nn:Int) x.2.2.2 false b0 b1 T S (l.map cr) ps) else qer fu r4 r13 a c v (nn:Int) x.2.2.2 b0 b1 T S (l.map cr) ps)=_
 cases hs:x.2.2.1
 ·rw[aw rfl,p22 _ oA,qW oC]
 rw[au rfl,qX rfl,d6,hn];by_cases hz0:(nn:Int)=0
 ·rw[qX hz0];by_cases h6:6<=x.2.2.2.length
  ·have h6':(List.take (6:Int).toNat x.2.2.2).length=6:=by show(List.take 6 _).length=6;rw[List.length_take];omega
   rw[af oA,af oA,ya fu _ oA (by rw[h6'];simp[maxLen]),qB,uf]
   show(bif lk (x.2.2.2.take 6) [117,116,102,56,39,39] then _ else _)=_
   cases hk:lk (x.2.2.2.take 6) [117,116,102,56,39,39]
   ·rw[aw rfl,p23 _ oA,qW oC]
   ·rw[au rfl,af oA,qX ⟨hz0,h6,rfl⟩]
    exact p23 (x.2.2.2.drop 6) oB
  ·rw[ao,uf,aw rfl,p23 _ oA,qW oA]
 ·rw[qW hz0,uf,aw rfl,p23 _ oA,qW oA]
def zvk(r13:(Int->Int->Bs->Int->Bs->Bs->Bs->Bs->(List (Bs×Bs×Int×Bool))->(List (Bs×Bs))->Option gw))(c:Int)(v:Bs)(nn:Int):mu fu r4 r13 1 (ab.length:Int) c v nn (-1) (l.length:Int) b0 b1 T S (l.map cr) ps=some bad:=by
 have _:=hfu;have _:=hl;have _:=hz;rw[mu,qbn,ao oP,af oA];rfl
def z2j(q:List Pc)(hq:pg q 0)(hqm:∀x,x∈q↔(x∈l/\lk p.1 x.1=true))(n:Nat):∀(done rest:List Pc)(v:Bs),q=done++rest->rest.length<n->v.length+c8 rest<=300000->pg rest (done.length:Int)->q.length<=300000 ->
  ol fu r4 n (ab.length:Int) (q.length:Int) v (done.length:Int) b0 b1 T S (l.map cr) ps=ol fu r4 1 (ab.length:Int) (q.length:Int) (v++rest.flatMap pt) (q.length:Int) b0 b1 T S (l.map cr) ps:=by
 have hll:=po l
 induction n with
 |zero=>intro done rest v _ h;omega|succ n ih=>
  intro done rest v hd h hv hnum hqb;have hql:q.length=done.length+rest.length:=by rw[hd];simp
  cases rest with
  |nil=>
   rw[List.append_nil]at hd;subst hd;have hend:¬((q.length:Int)<(q.length:Int)):=oA
   rw[ol,ol,qbm,qbm,ao hend,ao hend];simp
  |cons x t=>
   simp only[qL]at h hql;rw[qdw]at hv;have hxq:x∈q:=by rw[hd];simp
   have hxl:=(hqm x).1 hxq;have hxn:x.2.1=(done.length:Int):=hnum.1;rw[ol,qbm,af oA]
   obtain⟨j',g1,g2⟩:=zle fu hfu l ab aa p hl hz b0 b1 T S ps r4 (ol fu r4 n) (q.length:Int) v (done.length:Int) fu [] l (-1) rfl oA
   rw[show(([]:List Pc).length:Int)=0 from rfl]at g1
   rw[g1];rcases g2 with⟨_,g3⟩|⟨y,g2,g3,g4,g5⟩
   ·exact absurd ⟨hxl.2,hxn⟩ (g3 x hxl.1)
   ·have hyq:y∈q:=(hqm y).2 ⟨g2,g3⟩;have hyx:y=x:=zje q 0 hq y hyq x hxq (by rw[g4,hxn])
    subst hyx;rw[zgx fu hfu l hz b0 b1 T S ps r4 _ _ _ v done.length j' y g2 g4 g5 oA oA]
    have htl:=qpp y;have st:=ih (done++[y]) t (v++pt y) (by rw[hd];simp) oA oN (by rw[qM,wD];have:=hnum.2;rw[show((done.length+1:Nat):Int)=(done.length:Int)+1 by omega];exact this) hqb
    simp only[qM,qL,qZ,wO]at st;refine st.trans ?_;rw[List.flatMap_cons,qS]
def z2k(cnt k:Nat)(hk:k<cnt)(hno:∀x∈l,¬(lk p.1 x.1=true/\x.2.1=(k:Int)))(hc:cnt<=300000)(n:Nat):∀(nn:Nat)(v:Bs),nn<=k->cnt-nn<n->v.length<=nn*300000 ->
  ol fu r4 n (ab.length:Int) (cnt:Int) v (nn:Int) b0 b1 T S (l.map cr) ps=some bad:=by
 have hll:=po l
 induction n with
 |zero=>intro nn v _ h;omega|succ n ih=>
  intro nn v hnk h hv;rw[ol,qbm,af oA]
  obtain⟨j',g1,g2⟩:=zle fu hfu l ab aa p hl hz b0 b1 T S ps r4 (ol fu r4 n) (cnt:Int) v (nn:Int) fu [] l (-1) rfl oA
  rw[show(([]:List Pc).length:Int)=0 from rfl]at g1
  rw[g1];rcases g2 with⟨e,_⟩|⟨y,g2,g3,g4,g5⟩
  ·rw[e];exact zvk fu hfu l ab aa p hl hz b0 b1 T S ps r4 _ _ v _
  ·have hne:nn≠k:=fun e=>by subst e;exact hno y g2 ⟨g3,g4⟩
   have hyl:=qh0 g2;have htl:=qpp y;rw[zgx fu hfu l hz b0 b1 T S ps r4 _ _ _ v nn j' y g2 g4 g5 oA oA]
   exact ih (nn+1) (v++pt y) oA oA oN
end ref
def zy1{l ab aa:List Pc}{p:Pc}(hl:l=ab++p::aa)(h:ab.any (fun x=>lk x.1 p.1)=false):cw p.1 l=p::cw p.1 aa:=by
 subst hl;unfold cw;rw[List.filter_append,List.filter_cons,qX (q7k p.1)];rw[List.filter_eq_nil_iff.2]
 ·rfl
 ·intro x hx;rw[List.any_eq_false]at h;exact h x hx
def z2p(fu:Nat)(hfu:90000000<=fu)(l:List Pc)(hz:c8 l<=300000)(hn:∀x∈l,nb x)(b0 b1 T S:Bs)(n:Nat):∀(ab aa:List Pc)(ps:List ce),l=ab++aa->aa.length<n->ps.length<=ab.length ->
  py fu n (ab.length:Int) b0 b1 T S (l.map cr) ps=some (if(gq ab aa ps).1=true then((T,(S,(gq ab aa ps).2)),true) else bad):=by
 have hrm:=iq;have hll:=po l
 induction n with
 |zero=>intro ab aa ps _ h;omega|succ n ih=>
  intro ab aa ps hl h hps;have ac:l.length=ab.length+aa.length:=by rw[hl];simp
  rw[py,qzd]
  cases aa with
  |nil=>rw[ao (by rw[wC];simp only[qZ]at ac;omega)];rfl|cons p aa=>
   simp only[qL]at h ac;have st:=fun o(ho:List.length o<=ab.length+1)=>ih (ab++[p]) aa o (by rw[hl];simp) oA (by simpa using ho)
   simp only[qM,qL,qZ,wO]at st;rw[af oP]
   have h6:=rp6 fu hfu l ab aa p hl hz b0 b1 T S ps (py fu n) fu [] ab false rfl oA
   rw[show(([]:List Pc).length:Int)=0 from rfl]at h6
   have h8:=rp8 fu hfu l ab aa p hl hz b0 b1 T S ps (py fu n) fu [] l (false||ab.any (fun x=>lk p.1 x.1)) 0 rfl oA oC
   rw[show(([]:List Pc).length:Int)=0 from rfl,show((0:Nat):Int)=0 from rfl]at h8
   rw[h6,h8];have hcm:(fun x:Pc=>lk p.1 x.1)=(fun x:Pc=>lk x.1 p.1):=funext fun x=>q7j _ _
   rw[hcm,Bool.false_or,wO,ug,qem,ao oP]
   have hP:gq ab (p::aa) ps=(if ab.any (fun x=>lk x.1 p.1)=true then gq (ab++[p]) aa ps else match vd (cw p.1 l) with
    |none=>(false,[])| some v=>gq (ab++[p]) aa (ps++[(p.1,v)])):=by subst hl;rfl
   rw[hP];cases hany:ab.any (fun x=>lk x.1 p.1)
   ·rw[aw rfl,qW (c:=(false=true)) oC,jk,qi hl,qB]
    have hnf:=zy1 hl hany;have hA:(l.filter fun x=>lk x.1 p.1)=p::cw p.1 aa:=hnf
    rw[hA,hnf,qwb];have hAz:c8 (p::cw p.1 aa)<=300000:=by have:=q9v (fun x=>lk x.1 p.1) l;rw[hA]at this;omega
    have hAl:=po (p::cw p.1 aa);have hAm:∀x,x∈p::cw p.1 aa↔(x∈l/\lk p.1 x.1=true):=fun x=>by
     rw[← hA,List.mem_filter,q7j]
    show(bif decide (p.2.1<0) then _ else _)=_
    by_cases h0:p.2.1<0
    ·rw[af h0,qX h0,dz];by_cases h1:cw p.1 aa=[]
     ·rw[qW (by rw[h1];simp),qX h1,jk,qi hl,qB,jk,qi hl,qB,af oB,ar _]
      exact st (ps++[(p.1,p.2.2.2)]) oB
     ·rw[qX (by
       cases hh:cw p.1 aa with
       |nil=>exact absurd hh h1| cons=>simp only[qL];omega),qW h1];rfl
    ·rw[ao h0,qW h0];obtain⟨_,h2,h3⟩:=q9k (p::cw p.1 aa) (fun x hx=>hn x ((hAm x).1 hx).1)
     by_cases hnum:pg (je (p::cw p.1 aa)) 0
     ·rw[q7u _ _ _ hnum,wQ];have hm:∀x,x∈je (p::cw p.1 aa)↔(x∈l/\lk p.1 x.1=true):=fun x=>by rw[h2.mem_iff];exact hAm x
      have hsz:=q9w h2;have:=z2j fu hfu l ab aa p hl hz b0 b1 T S ps (py fu n) (je (p::cw p.1 aa)) hnum hm fu [] (je (p::cw p.1 aa)) [] rfl (by rw[h2.length_eq];omega) (by rw[hsz];simpa using hAz) hnum (by rw[h2.length_eq];omega)
      rw[show(([]:List Pc).length:Int)=0 from rfl,h2.length_eq]at this
      rw[this,ol,qbm,ao,jk,qi hl,qB]
      have hvl:∀q:List Pc,(q.flatMap pt).length<=c8 q:=by
       intro q
       induction q with
       |nil=>simp|cons y q ih2=>
        have:=qpp y;rw[List.flatMap_cons,qM,qdw];omega
      have hv:=hvl (je (p::cw p.1 aa));simp only[List.nil_append];rw[z1p fu oA _,qB,af oB,ar _]
      exact st (ps++[(p.1,_)]) oB
     ·rw[zim _ _ _ hnum,Option.map_none];have hncov:¬Cov (p::cw p.1 aa) 0:=fun hc=>hnum (zgc _ 0 h3 (hc.perm h2.symm))
      obtain⟨k,hk1,hk2⟩:∃k:Nat,k<(p::cw p.1 aa).length/\∀x∈p::cw p.1 aa,x.2.1≠(0:Int)+k:=by
       apply Classical.byContradiction;intro hq;apply hncov;intro j hj;apply Classical.byContradiction;intro hq2;exact hq ⟨j,hj,fun x hx e=>hq2 ⟨x,hx,e⟩⟩
      have:=z2k fu hfu l ab aa p hl hz b0 b1 T S ps (py fu n) (p::cw p.1 aa).length k hk1 (fun x hx hc=>hk2 x ((hAm x).2 ⟨hx,hc.1⟩) (by rw[hc.2];omega)) oA fu 0 [] oA oA oC
      rw[show((0:Nat):Int)=0 from rfl]at this
      rw[this];rfl
   ·rw[au rfl,qX (c:=(true=true)) rfl,ar _]
    exact st ps oA
def lx(s:List UInt8)(i:Nat):Bool:=bl (s.getD i 0) && !bl (s.getD (i-1) 0)
def cb(s:List UInt8):Nat->Nat->Nat->Nat|0,_,b=>b|m+1,i,b=>cb s m (i+1) (if lx s i && !(decide (0<b)&&decide (78<i)) then i else b)
def zf0(s:List UInt8):∀m i b,0<b->78<i->cb s m i b=b
 |0,_,_,_,_=>rfl|m+1,i,b,h1,h2=>by
  rw[cb,decide_eq_true h1,decide_eq_true h2];simp only[Bool.and_self,Bool.not_true,Bool.and_false,wJ,if_false];exact zf0 s m (i+1) b h1 oA
def q5s(s:List UInt8):∀m i b,cb s m i b=b\/(i<=cb s m i b/\cb s m i b<i+m/\lx s (cb s m i b)=true)
 |0,_,_ => .inl rfl|m+1,i,b=>by
  rw[cb];split
  ·rename_i h;simp only[qA]at h;rcases q5s s m (i+1) i with e|⟨h1,h2,h3⟩
   ·rw[e];exact .inr ⟨wF _,oA,h.1⟩
   ·exact .inr ⟨oA,oA,h3⟩
  ·rcases q5s s m (i+1) b with e|⟨h1,h2,h3⟩
   ·exact .inl e
   ·exact .inr ⟨oA,oA,h3⟩
def qvx(s:List UInt8)(i:Nat)(h:i<s.length):s.getD i 0=s[i]:=by simp[List.getD_eq_getElem?_getD,h]
def z0l(fu n:Nat):∀(s:List UInt8)(m i b:Nat),i+m=s.length->1<=i->m<n->s.length<1000000000->qly fu n s (b:Int) (i:Int)=some ((cb s m i b:Nat):Int):=by
 induction n with
 |zero=>intro s m i b _ _ h;omega|succ n ih=>
  intro s m i b hi h1 hm hb;rw[qly,q10]
  cases m with
  |zero=>rw[ao];rfl|succ m=>
   have hlt:i<s.length:=oA
   have hlt':i-1<s.length:=oA
   rw[af oA,vc _ _ hlt,qB,qn4,qB,cb]
   unfold lx;rw[qvx _ _ hlt,qvx _ _ hlt'];unfold qsa;cases bl s[i]
   ·rw[cu,au,ar _]
    exact ih s m (i+1) b oA oA oA hb
   ·rw[bq,show ae ((i:Int)-1)=((i-1:Nat):Int) by rw[bt];omega,vc _ _ hlt',qB,qn4,qB]
    cases bl s[i-1]
    ·rw[aw (by rfl),ar _,bp,bp]
     by_cases q1:0<b
     ·rw[qX oA,decide_eq_true q1]
      by_cases q2:78<i
      ·rw[qX oA,decide_eq_true q2]
       simp only[Bool.and_self,Bool.not_true,Bool.and_false,wJ,if_false];rw[zf0 s m (i+1) b q1 oA]
      ·rw[qW oA,decide_eq_false q2]
       exact ih s m (i+1) i oA oA oA hb
     ·rw[qW oA,decide_eq_false q1]
      exact ih s m (i+1) i oA oA oA hb
    ·rw[au,ar _]
     exact ih s m (i+1) b oA oA oA hb
def im(s:List UInt8)(k:Nat):Nat:=cb s (s.length-k) k 0
def z0k(fu:Nat)(s:List UInt8)(k:Nat)(h:s.length<fu)(hb:s.length<1000000000)(hk:k<=s.length)(h0:1<=s.length):qr9 fu s (k:Int)=some ((im s (max k 1):Nat):Int):=by
 unfold qr9 im;have e:(if(1:Int)>(k:Int) then(1:Int) else(k:Int))=((max k 1:Nat):Int):=by
  split
  ·rename_i h;have:k=0:=oA
   subst this;rfl
  ·rename_i h;rw[Nat.max_eq_left oA]
 rw[e];exact z0l fu fu s (s.length-max k 1) (max k 1) 0 oA oA oA hb
def ia:Nat->List UInt8->Nat->List (List UInt8)|0,s,_=>[s]|n+1,s,k=>if 78<s.length then(if im s k=0 then[s] else s.take (im s k)::ia n (s.drop (im s k)) 1) else[s]
def q5p(s:List UInt8)(k:Nat)(_h1:1<=k)(h:im s k≠0):k<=im s k/\im s k<s.length/\lx s (im s k)=true:=by
 unfold im at *;rcases q5s s (s.length-k) k 0 with e|⟨h2,h3,h4⟩
 ·exact absurd e h
 ·exact⟨h2,oA,h4⟩
def vg:Nat->List (List UInt8)->Option Nat|_,[]=>none|i,l::ls=>if 998<l.length then some i else vg (i+1) ls
def qan(ls:List (List UInt8)):(Int×Int)×List (List UInt8):=match vg 0 ls with|some i=>((1,(i:Int)),[])|none=>((0,0),ls)
def zt4(fu n:Nat)(m16:Int×Int):∀(ab aa:List (List UInt8)),aa.length<n->ab.length+aa.length<1000000000 ->
  qlx fu n ((ab.length+aa.length:Nat):Int) (ab.length:Int) m16 (ab++aa)=some (match vg ab.length aa with|some i=>((1,(i:Int)),[])|none=>((0,0),ab++aa)):=by
 induction n with
 |zero=>intro ab aa h;omega|succ n ih=>
  intro ab aa h hb;rw[qlx,q1y]
  cases aa with
  |nil=>rw[ao];rfl|cons c aa=>
   simp only[qL]at h hb ⊢;rw[af oA,jk,a6,qB,bp,vg]
   by_cases hc:998<c.length
   ·rw[qX oA,qX hc];rfl
   ·rw[qW oA,qW hc,ar _]
    have:=ih (ab++[c]) aa oA oB
    simp only[qS,wM,qM,qL,qZ]at this;rw[show ab.length+(0+1)+aa.length=ab.length+(aa.length+1) by omega]at this
    exact this
def zhp(fu:Nat)(m16:Int×Int)(s:List UInt8)(out:List (List UInt8))(h:out.length+1<fu:=by omega)(hb:out.length<900000000:=by omega):qlw fu s m16 out=some (qan (out++[s])):=by
 unfold qlw;rw[af oK]
 have:=zt4 fu fu m16 [] (out++[s]) (by simpa using h) oB
 simp only[List.nil_append,qZ,wO]at this;exact this
def zv4(fu n:Nat)(m16:Int×Int):∀(m:Nat)(s:List UInt8)(k k':Nat)(out:List (List UInt8)),s.length<=m->s.length<n->max k 1=k'->(78<s.length->k<=s.length)->s.length+out.length+1<fu->s.length+out.length<500000000 ->
  qlv fu n s (k:Int) m16 out=some (qan (out++ia m s k')):=by
 induction n with
 |zero=>intro m s k k' out _ h;omega|succ n ih=>
  intro m s k k' out hm h hk hk2 hf hb;rw[qlv,q1x,bp];by_cases hl:78<s.length
  ·obtain⟨m,rfl⟩:∃j,m=j+1:=⟨m-1,oA⟩
   rw[qX oA,z0k fu s k oA oA (hk2 hl) oA,hk,qB,d6,ia,qX hl]
   by_cases h0:im s k'=0
   ·rw[qX oA,qX h0]
    exact zhp fu m16 s out
   ·obtain⟨h1,h2,_⟩:=q5p s k' oA h0
    rw[qW oA,qW h0,af oA,af oK,af oA]
    have:=ih m (s.drop (im s k')) 0 1 (out++[s.take (im s k')]) (by rw[List.length_drop];omega) (by rw[List.length_drop];omega) rfl (by intro;omega) (by rw[List.length_drop,qM,wD];omega) (by rw[List.length_drop,qM,wD];omega)
    simpa using this
  ·rw[qW oA]
   have e:ia m s k'=[s]:=by cases m with|zero=>rfl|succ m=>rw[ia,qW hl]
   rw[e];exact zhp fu m16 s out
def b9(n v:List UInt8):List UInt8:=n++[58,32]++v
def fb(n v:List UInt8):List (List UInt8):=ia (b9 n v).length (b9 n v) (n.length+2)
def pb(n v:List UInt8):(Int×Int)×List (List UInt8):=if qg n v=0 then qan (fb n v) else((qg n v,-1),[])
def qvt{s:List UInt8}(h:ke s=true):s.length<=60:=by
 unfold ke at h;simp only[qA,decide_eq_true_eq]at h;exact h.1.2
def q6m{n v:List UInt8}(h:qg n v=0):ke n=true/\v.length<=4000/\qdb v=true:=by
 unfold qg at h;split at h
 ·rename_i h1;split at h
  ·exact absurd h oF
  ·rename_i h2;split at h
   ·rename_i h3;exact⟨h1,oA,h3⟩
   ·exact absurd h oF
 ·exact absurd h oF
def q6x(fu:Nat)(n v:List UInt8)(hfu:10000<=fu:=by omega)(hv:v.length<fu:=by omega)(hvb:v.length<1000000000:=by omega):qfk fu n v=some (pb n v):=by
 unfold qfk pb;rw[zv1 fu n,qB]
 by_cases h0:qg n v=0
 ·obtain⟨h1,h2,h3⟩:=q6m h0;have hn:=qvt h1;rw[qX h0,h1,bq,ao,zhv fu v oA hv hvb,qB,h3,bq,af oE,af oE]
  have:=zv4 fu fu (0,0) (b9 n v).length (b9 n v) (n.length+2) (n.length+2) [] (wF _) (by simp[b9]<;>omega) oA (by intro;simp[b9]<;>omega) (by simp[b9]<;>omega) (by simp[b9]<;>omega)
  rw[show ae ((n.length:Int)+2)=((n.length+2:Nat):Int) by rw[bt];omega]
  exact this
 ·rw[qW h0];unfold qg at h0 ⊢;cases hn:ke n
  ·rfl
  ·rw[hn]at h0;simp only[if_true]at h0 ⊢;rw[bq,bp];by_cases hl:4000<v.length
   ·rw[qX oA,qX hl];rfl
   ·rw[qW hl]at h0;rw[qW oA,qW hl,zhv fu v oA hv hvb,qB]
    cases hv3:qdb v
    ·rfl
    ·rw[hv3]at h0;exact absurd rfl h0
def pts(s:List UInt8)(i m:Nat):List Nat:=(List.range' i m).filter (lx s)
def q8z(s:List UInt8)(i m:Nat):pts s i (m+1)=(if lx s i then[i] else[])++pts s (i+1) m:=by
 unfold pts;rw[List.range'_succ,List.filter_cons];split<;>rfl
def z0u(s:List UInt8)(i m k:Nat):pts s i (m+k)=pts s i m++pts s (i+m) k:=by
 unfold pts;rw[← List.filter_append];congr 1;rw[List.range'_append_1]
def z0w(s:List UInt8)(i m:Nat):(pts s i m).length<=m:=by
 unfold pts;have:=List.length_filter_le (lx s) (List.range' i m);simpa using this
def jd(at_ b p:Nat):Nat:=if at_<p/\(p-at_<=78\/b=0) then p-at_ else b
def zxb(s:List UInt8)(a i:Nat)(h:a<i):lx (s.drop a) (i-a)=lx s i:=by
 unfold lx;simp only[List.getD_eq_getElem?_getD,List.getElem?_drop];rw[show a+(i-a)=i by omega,show a+(i-a-1)=i-1 by omega]
def q9e(s:List UInt8)(a:Nat):∀m i b,a<i->(pts s i m).foldl (jd a) b=cb (s.drop a) m (i-a) b
 |0,_,_,_=>rfl|m+1,i,b,h=>by
  rw[q8z,List.foldl_append,cb,zxb s a i h,show i-a+1=i+1-a by omega,← q9e s a m (i+1) _ oA]
  congr 1;cases lx s i
  ·rfl
  ·simp only[if_true,List.foldl_cons,List.foldl_nil,jd,Bool.true_and];by_cases q1:0<b
   ·by_cases q2:78<i-a
    ·rw[qW oA,qW (by simp[q1,q2])]
    ·rw[qX oA,qX oB]
   ·rw[qX oA,qX oB]
def zlh(s:List UInt8)(a:Nat):∀m i b,i+m<=a+1->(pts s i m).foldl (jd a) b=b
 |0,_,_,_=>rfl|m+1,i,b,h=>by
  rw[q8z,List.foldl_append];have e:(if lx s i=true then[i] else[]).foldl (jd a) b=b:=by
   split
   ·simp only[List.foldl_cons,List.foldl_nil,jd];rw[qW oA]
   ·rfl
  rw[e];exact zlh s a m (i+1) b oA
def z2z(s:List UInt8)(a k0:Nat)(h1:1<=k0)(h:a=0\/k0<=a)(ha:a<s.length)(hk:k0<=s.length):(pts s k0 (s.length-k0)).foldl (jd a) 0=im (s.drop a) (if a=0 then k0 else 1):=by
 unfold im;by_cases h0:a=0
 ·subst h0;rw[qX rfl,q9e s 0 _ k0 0 oA]
  simp
 ·rw[qW h0,show s.length-k0=(a+1-k0)+(s.length-a-1) by omega,z0u,List.foldl_append,zlh s a (a+1-k0) k0 0 oA,show k0+(a+1-k0)=a+1 by omega,q9e s a _ _ _ oA,List.length_drop]
  rw[show a+1-a=1 by omega]
def plc(a b:Nat):Int:=if b=0 then -1 else((a+b:Nat):Int)
def zw1(fu:Nat)(r2:List UInt8->Int->List Int->List (List UInt8)->Option (List (List UInt8)))(n:Nat):∀(s:List UInt8)(a b:Nat)(ab:List Int)(aa:List Nat)(out:List (List UInt8)),aa.length<n->ab.length+aa.length<1000000000->(∀p∈aa,p<s.length)->a<=s.length->s.length<1000000000->a+b<=s.length->out.length<1000000000 ->
  qbf fu r2 n s (a:Int) (plc a b) (ab.length:Int) (ab++aa.map Nat.cast) out=(if aa.foldl (jd a) b=0 then some (out++[s.drop a]) else r2 s ((a+aa.foldl (jd a) b:Nat):Int) (ab++aa.map Nat.cast) (out++[(s.drop a).take (aa.foldl (jd a) b)])):=by
 induction n with
 |zero=>intro s a b ab aa out h;omega|succ n ih=>
  intro s a b ab aa out h hb hp ha hs hab ho;rw[qbf,qyv]
  cases aa with
  |nil=>
   rw[ao,List.foldl_nil,bp]
   unfold plc;by_cases h0:b=0
   ·rw[qX h0,qX oA,qX h0,af oA,af oK]
    simp
   ·rw[qW h0,qW oA,qW h0,af oA,af oK]
    rw[show((a+b:Nat):Int).toNat-(a:Int).toNat=b by omega]
    simp
  |cons p aa=>
   simp only[qL]at h hb;have hp0:=hp p qH;rw[List.map_cons];have hl:((ab++(p:Int)::aa.map Nat.cast).length:Int)=((ab.length+aa.length+1:Nat):Int):=by simp;omega
   rw[hl,af oA]
   have hlt:(0<=(ab.length:Int)/\(ab.length:Int).toNat<(ab++(p:Int)::aa.map Nat.cast).length):=oC
   rw[af hlt,ic,qB,List.foldl_cons];have fin:∀b',a+b'<=s.length->qbf fu r2 n s (a:Int) (plc a b') (ae ((ab.length:Int)+1)) (ab++(p:Int)::aa.map Nat.cast) out=(if aa.foldl (jd a) b'=0 then some (out++[s.drop a]) else r2 s ((a+aa.foldl (jd a) b':Nat):Int) (ab++(p:Int)::aa.map Nat.cast) (out++[(s.drop a).take (aa.foldl (jd a) b')])):=by
    intro b' hb';have:=ih s a b' (ab++[(p:Int)]) aa out oA oB (fun q hq=>hp q (qE _ hq)) ha hs hb' ho
    rw[ar _]
    simpa using this
   unfold qjj qqt;rw[bp];by_cases q1:a<p
   ·have e1:ae ((p:Int)-(a:Int))=((p-a:Nat):Int):=by rw[bt];omega
    have e2:(p:Int)=plc a (p-a):=by unfold plc;rw[qW oA];omega
    rw[qX oA,e1,bp]
    by_cases q2:p-a<=78
    ·rw[qX oA,au,show jd a b p=p-a by unfold jd;rw[qX ⟨q1,.inl q2⟩],← fin (p-a) oA,← e2]
    ·rw[qW oA]
     by_cases q3:b=0
     ·rw[au (by unfold plc;rw[qX q3];rfl),show jd a b p=p-a by unfold jd;rw[qX ⟨q1,.inr q3⟩],← fin (p-a) oA,← e2]
     ·rw[aw (by unfold plc;rw[qW q3];exact decide_eq_false oA),show jd a b p=b by unfold jd;rw[qW oA],fin b hab]
   ·rw[qW oA,aw (by rfl),show jd a b p=b by unfold jd;rw[qW oA],fin b hab]
def zjq(fu n:Nat)(s:List UInt8)(k0:Nat)(hk1:1<=k0)(hk:k0<=s.length)(hs:s.length<500000000)(hfu:s.length<fu):∀(m a:Nat)(out:List (List UInt8)),s.length-a<=m->s.length-a<n->(a=0\/k0<=a)->a<s.length->out.length+(s.length-a)<500000000 ->
  wi fu n s (a:Int) ((pts s k0 (s.length-k0)).map Nat.cast) out=some (out++ia m (s.drop a) (if a=0 then k0 else 1)):=by
 induction n with
 |zero=>intro m a out _ h;omega|succ n ih=>
  intro m a out hm h hz ha ho;rw[wi,qqq,show ae ((s.length:Int)-(a:Int))=((s.length-a:Nat):Int) by rw[bt];omega,bp]
  have ac:(s.drop a).length=s.length-a:=List.length_drop;by_cases hl:78<s.length-a
  ·obtain⟨m,rfl⟩:∃j,m=j+1:=⟨m-1,oA⟩
   have hpl:=z0w s k0 (s.length-k0);have hin:=zw1 fu (wi fu n) fu s a 0 [] (pts s k0 (s.length-k0)) out oA oB (fun p hp=>by
    unfold pts at hp;rw[List.mem_filter,List.mem_range'_1]at hp;omega) oA oA oA oA
   rw[z2z s a k0 hk1 hz ha hk]at hin;simp only[List.nil_append,qZ]at hin;rw[qX oA,ia,ac,qX hl]
   have hin:qbf fu (wi fu n) fu s (a:Int) (-1) 0 ((pts s k0 (s.length-k0)).map Nat.cast) out=_:=hin;rw[hin];by_cases h0:im (s.drop a) (if a=0 then k0 else 1)=0
   ·rw[qX h0,qX h0]
   ·obtain⟨h1,h2,_⟩:=q5p (s.drop a) (if a=0 then k0 else 1) (by split<;>omega) h0
    rw[qW h0,qW h0];generalize hB:im (s.drop a) (if a=0 then k0 else 1)=B at *
    have:=ih m (a+B) (out++[(s.drop a).take B]) oA oA (.inr (by
     split at h1
     ·omega
     ·rcases hz with hz|hz<;>omega)) oA (by rw[qM,wD];split at h1<;>omega)
    rw[qW (by split at h1<;>omega)]at this
    rw[this];simp[List.drop_drop]
  ·rw[qW oA,af oA,af oK]
   have e:ia m (s.drop a) (if a=0 then k0 else 1)=[s.drop a]:=by cases m with|zero=>rfl|succ m=>rw[ia,ac,qW hl]
   rw[e];simp
def z0v(fu n:Nat):∀(s:List UInt8)(m i:Nat)(acc:List Int),i+m=s.length->1<=i->m<n->s.length<1000000000->acc.length+m<1000000000 ->
  qed fu n s (i:Int) acc=wi fu fu s 0 (acc++(pts s i m).map Nat.cast) []:=by
 induction n with
 |zero=>intro s m i acc _ _ h;omega|succ n ih=>
  intro s m i acc hi h1 hm hb ha;rw[qed,qqp]
  cases m with
  |zero=>rw[ao];simp[pts]|succ m=>
   have hlt:i<s.length:=oA
   have hlt':i-1<s.length:=oA
   rw[af oA,vc _ _ hlt,qB,yc,qB,q8z]
   unfold qqr qqs;rw[show lx s i=(bl s[i] && !bl s[i-1]) by unfold lx;rw[qvx _ _ hlt,qvx _ _ hlt']]
   cases bl s[i]
   ·rw[aw (by rfl),aw (by rfl),ar _]
    exact ih s m (i+1) acc oA oA oA hb oA
   ·rw[au,show ae ((i:Int)-1)=((i-1:Nat):Int) by rw[bt];omega,vc _ _ hlt',qB,yc,qB]
    cases bl s[i-1]
    ·rw[cu,af oK,ar _]
     have:=ih s m (i+1) (acc++[(i:Int)]) oA oA oA hb oB
     simpa using this
    ·rw[bq,ar _]
     exact ih s m (i+1) acc oA oA oA hb oA
def ztq(n v:List UInt8):im (b9 n v) (n.length+2)=im (b9 n v) (n.length+3):=by
 unfold im
 cases v with
 |nil=>rw[show(b9 n []).length=n.length+2 by simp[b9]];simp[cb]|cons c v=>
  have hl:(b9 n (c::v)).length=n.length+3+v.length:=by simp[b9];omega
  rw[hl,show n.length+3+v.length-(n.length+2)=v.length+1 by omega,show n.length+3+v.length-(n.length+3)=v.length by omega,cb]
  have:lx (b9 n (c::v)) (n.length+2)=false:=by
   unfold lx;have e:(b9 n (c::v)).getD (n.length+2-1) 0=32:=by
    rw[show b9 n (c::v)=(n++[58])++32::c::v by simp[b9],show n.length+2-1=(n++[58]).length by simp]
    simp[List.getD_eq_getElem?_getD]
   rw[e];cases bl ((b9 n (c::v)).getD (n.length+2) 0)<;>rfl
  rw[this];rfl
def zv0(n v:List UInt8):ia (b9 n v).length (b9 n v) (n.length+3)=fb n v:=by
 unfold fb
 cases h:(b9 n v).length with|zero=>rfl|succ m=>rw[ia,ia,ztq]
def zho(fu:Nat)(n v:List UInt8)(h:n.length+v.length+3<fu:=by omega)(hb:n.length+v.length<400000000:=by omega):qji fu n v=some (fb n v):=by
 unfold qji;have hl:(b9 n v).length=n.length+2+v.length:=by simp[b9];omega
 rw[af oE,af oE]
 rw[show n++([58,32]:List UInt8)++v=b9 n v from rfl,show ae ((n.length:Int)+3)=((n.length+3:Nat):Int) by rw[bt];omega]
 cases v with
 |nil=>
  obtain⟨k,rfl⟩:∃k,fu=k+1:=⟨fu-1,oA⟩
  simp only[qZ]at h hl;rw[qed,qqp,ao]
  -- too short for points
  by_cases hn:78<n.length+2
  ·have:=zjq (k+1) (k+1) (b9 n []) (n.length+2) oA oA oA oA (b9 n []).length 0 [] oA oA (.inl rfl) oA oB
   rw[show(b9 n []).length-(n.length+2)=0 by omega]at this
   exact this
  ·rw[wi,qqq,show ae (((b9 n []).length:Int)-0)=((b9 n []).length:Int) by rw[bt];omega,ao,af oA,af (by simp[az])]
   unfold fb;rw[show ia (b9 n []).length (b9 n []) (n.length+2)=[b9 n []] by
    rw[hl,show n.length+2+0=n.length+1+1 by omega,ia,qW oA]]
   rfl
 |cons c v=>
  simp only[qL]at h hb hl;have:=z0v fu fu (b9 n (c::v)) v.length (n.length+3) [] oA oA oA oA oB
  rw[this,List.nil_append,← zv0];have:=zjq fu fu (b9 n (c::v)) (n.length+3) oA oA oA oA (b9 n (c::v)).length 0 [] oA oA (.inl rfl) oA oB
  rw[show(b9 n (c::v)).length-(n.length+3)=v.length by omega]at this
  exact this
def z1b(fu n:Nat)(m16:Int×Int):∀(ab aa:List (List UInt8)),aa.length<n->ab.length+aa.length<1000000000 ->
  qjh fu n (ab.length:Int) m16 (ab++aa)=some (match vg ab.length aa with|some i=>(1,(i:Int))|none=>(0,0)):=by
 induction n with
 |zero=>intro ab aa h;omega|succ n ih=>
  intro ab aa h hb;rw[qjh,qyu]
  cases aa with
  |nil=>rw[ao];rfl|cons c aa=>
   simp only[qL]at h hb;rw[cn,af oA,jk,a6,qB,bp,vg]
   by_cases hc:998<c.length
   ·rw[qX oA,qX hc];rfl
   ·rw[qW oA,qW hc,ar _]
    have:=ih (ab++[c]) aa oA oB
    simpa using this
def q6w:∀(m:Nat)(s:List UInt8)(k:Nat),s.length<=m->1<=k->(ia m s k).length<=s.length+1
 |0,s,_,_,_=>by simp[ia]|m+1,s,k,h,hk=>by
  rw[ia];split
  ·split
   ·simp
   ·rename_i h0;obtain⟨h1,h2,_⟩:=q5p s k hk h0;have:=q6w m (s.drop (im s k)) 1 (by rw[List.length_drop];omega) oA
    rw[List.length_drop]at this;rw[qL];omega
  ·simp
def zx8(ls:List (List UInt8)):(qan ls).1=(match vg 0 ls with|some i=>(1,(i:Int))|none=>(0,0)):=by
 unfold qan;split<;>simp_all
def zv2(fu:Nat)(n v:List UInt8)(hfu:10000<=fu:=by omega)(hn:n.length<fu:=by omega)(hv:v.length<fu:=by omega)(hnb:n.length<1000000000:=by omega)(hvb:v.length<1000000000:=by omega):qqo fu n v=some (pb n v).1:=by
 unfold qqo pb;rw[z1c fu n v oA hn hv hnb hvb,qB,dz]
 by_cases h0:qg n v=0
 ·obtain⟨h1,h2,_⟩:=q6m h0;have hl:=qvt h1;rw[qW oA,qX h0,zho fu n v,qB,zx8]
  have:=q6w (b9 n v).length (b9 n v) (n.length+2) (wF _) oA
  have hle:(b9 n v).length=n.length+2+v.length:=by simp[b9];omega
  have:=z1b fu fu (0,0) [] (fb n v) (by unfold fb;omega) (by unfold fb;simp;omega)
  exact this
 ·rw[qX h0,qW h0];rfl
def zh5{α:Type}(ab:List α)(c d:α)(aa:List α):ai (ab++c::d::aa) ((ab.length+1:Nat):Int)=some d:=by
 have:=a6 (ab++[c]) d aa;simpa using this
def iy(c:UInt8)(r:List UInt8):Bool:=c==13&&r.head? == some 10
def qv7{c:UInt8}{r:List UInt8}(h:iy c r=true):c=13/\∃r',r=10::r':=by
 unfold iy at h;simp only[qA,beq_iff_eq]at h;refine⟨h.1,?_⟩
 cases r with|nil=>simp at h|cons d r=>simp at h;exact⟨r,by rw[h.2]⟩
def eo:List UInt8->List UInt8|[]=>[]|c::r=>if iy c r then 13::10::eo r.tail else if c=13\/c=10 then 13::10::eo r else c::eo r
termination_by l=>l.length
decreasing_by all_goals (simp only[qL,List.length_tail];omega)
def zke(ab:List UInt8)(c:UInt8)(r:List UInt8)(hb:ab.length<100000000:=by omega):ue (ab++c::r) (ab.length:Int)=some (iy c r):=by
 unfold ue iy;rw[ar _]
 cases r with
 |nil=>rw[ao];cases c==13<;>rfl
 |cons d r=>
  rw[af (by simp<;>omega),a6,qB]
  cases c==13
  ·rfl
  ·rw[au,zh5,qB]
   cases h:d==10<;>simp_all
def bs(col:Nat):List UInt8->Int|[]=>0|c::r=>if iy c r then bs 0 r.tail else if c=13\/c=10 then 11 else if 998<=col then 1 else bs (col+1) r
termination_by l=>l.length
decreasing_by all_goals (simp only[qL,List.length_tail];omega)
def qun(col:Nat):bs col []=0:=by rw[bs]
def q5q(col:Nat)(c:UInt8)(r:List UInt8):bs col (c::r)=if iy c r then bs 0 r.tail else if c=13\/c=10 then 11 else if 998<=col then 1 else bs (col+1) r:=by rw[bs]
def qgq(x:Int):Int×Int:=if x=11 then(11,-5) else if x=1 then(1,-6) else(0,0)
def zfm(fu n:Nat):∀(ab aa:List UInt8)(col:Nat),aa.length<n->ab.length+aa.length<100000000->col<=2000 ->
  qb2 fu n (ab++aa) (col:Int) (ab.length:Int)=some (bs col aa):=by
 induction n with
 |zero=>intro ab aa col h;omega|succ n ih=>
  intro ab aa col h hb hcol;rw[qb2,q09]
  cases aa with
  |nil=>rw[ao,qun]|cons c r=>
   simp only[qL]at h hb;have fin:∀f,f=iy c r->qfh fu (qb2 fu n) (ab++c::r) (col:Int) (ab.length:Int) c f=some (bs col (c::r)):=by
    intro f hf;unfold qfh;rw[q5q,hf];cases hc:iy c r
    ·rw[aw (by rfl),qW oF]
     unfold q1a;rw[gy,gy];by_cases h13:c=13
     ·rw[qX h13,qX (.inl h13)]
     ·rw[qW h13];by_cases h10:c=10
      ·rw[qX h10,qX (.inr h10)]
      ·rw[qW h10,qW (by simp[h13,h10]),ar _,bp]
       by_cases hq:998<=col
       ·rw[qX oA,qX hq]
       ·rw[qW oA,qW hq,ar _]
        have:=ih (ab++[c]) r (col+1) oA oB oA
        simpa using this
    ·obtain⟨rfl,r',rfl⟩:=qv7 hc;simp only[qL]at h hb;rw[au,qX rfl,ar _,ar _,show ab.length+1+1=ab.length+2 from rfl]
     have:=ih (ab++[13,10]) r' 0 oA oB oA
     simpa using this
   rw[cn,af oA,a6,qB,gy]
   by_cases h13:c=13
   ·subst h13;rw[qX rfl,ar _]
    cases r with
    |nil=>rw[ao];exact fin false rfl|cons d r=>
     rw[af oG,zh5,qB]
     exact fin _ (by unfold iy;cases h:d==10<;>simp_all)
   ·rw[qW h13];exact fin false (by unfold iy;rw[beq_false_of_ne h13];rfl)
def ztk(fu:Nat)(s:List UInt8)(h:s.length<fu:=by omega)(hb:s.length<100000000:=by omega):qsq fu s=some (qgq (bs 0 s)):=by
 unfold qsq qfg qgq;have:=zfm fu fu [] s 0 h (by simpa using hb) oA
 have this:qb2 fu fu s 0 0=some (bs 0 s):=this;rw[this,qB,d6,d6];split
 ·rfl
 ·split<;>rfl
def zfp(n:Nat):∀(s:List UInt8)(col:Nat),s.length<=n->bs col s=0\/bs col s=1\/bs col s=11:=by
 induction n with
 |zero=>intro s col h;have:=List.length_eq_zero_iff.1 (Nat.le_zero.1 h);subst this;rw[qun];exact .inl rfl|succ n ih=>
  intro s col h
  cases s with
  |nil=>rw[qun];exact .inl rfl|cons c r=>
   simp only[qL]at h;rw[q5q];split
   ·exact ih _ _ (by rw[List.length_tail];omega)
   ·split
    ·exact .inr (.inr rfl)
    ·split
     ·exact .inr (.inl rfl)
     ·exact ih _ _ oA
def z09(fu n:Nat)(m16:Int×Int):∀(ab aa:List UInt8)(col b:Nat),aa.length<n->ab.length+aa.length<100000000->b+col=ab.length ->
  qkt fu n (ab++aa) (b:Int) (ab.length:Int) m16=some (qgq (bs col aa)):=by
 induction n with
 |zero=>intro ab aa col b h;omega|succ n ih=>
  intro ab aa col b h hb hcol;rw[qkt,q0g]
  cases aa with
  |nil=>rw[ao,qun];rfl|cons c r=>
   simp only[qL]at h hb;rw[cn,af oA,zke ab c r,qB,q5q]
   cases hc:iy c r
   ·rw[aw (by rfl),qW oF,a6,qB,qB,gy]
    unfold qrg;by_cases h13:c=13
    ·rw[qX h13,qX (.inl h13)];rfl
    ·rw[qW h13,gy];by_cases h10:c=10
     ·rw[qX h10,qX (.inr h10)];rfl
     ·rw[qW h10,qW (by simp[h13,h10]),show ae ((ab.length:Int)-(b:Int))=(col:Int) by rw[bt];omega,bp]
      by_cases hq:998<=col
      ·rw[qX oA,qX hq];rfl
      ·rw[qW oA,qW hq,ar _]
       have:=ih (ab++[c]) r (col+1) b oA oB oB
       simpa using this
   ·obtain⟨rfl,r',rfl⟩:=qv7 hc;simp only[qL]at h hb;rw[au,qX rfl,ar _,ar _,show ab.length+1+1=ab.length+2 from rfl]
    have:=ih (ab++[13,10]) r' 0 (ab.length+2) oA oB oC
    simpa using this
def zkc(fu:Nat)(s:List UInt8)(h:s.length<fu:=by omega)(hb:s.length<100000000:=by omega):qrf fu s=some (qgq (bs 0 s)):=by
 have:=z09 fu fu (0,0) [] s 0 0 h (by simpa using hb) rfl
 exact this
abbrev aq:Type:=List UInt8×List UInt8
def oq(l:List aq):Prop:=l.length<=10000000/\∀x∈l,x.1.length<=10000000/\x.2.length<=10000000
def oq.tail{x:aq}{l:List aq}(h:oq (x::l)):oq l:=⟨by have:=h.1;simp only[qL]at this;omega,fun y hy=>h.2 y (qE _ hy)⟩
def ff:Nat->List aq->Int×Int|_,[]=>(0,0)|i,x::l=>if(pb x.1 x.2).1.1≠0 then((pb x.1 x.2).1.1,(i:Int)) else ff (i+1) l
def o8(l:List aq):Int×Int:=if 60<l.length then(2,-1) else ff 0 l
def zwt(fu n:Nat)(hfu:90000000<=fu)(m16:Int×Int):∀(ab aa:List aq),aa.length<n->ab.length+aa.length<100000000->oq aa ->
  ql1 fu n (ab++aa) ((ab.length+aa.length:Nat):Int) (ab.length:Int) m16=some (ff ab.length aa):=by
 induction n with
 |zero=>intro ab aa h;omega|succ n ih=>
  intro ab aa h hb hs;rw[ql1,q13]
  cases aa with
  |nil=>rw[ao];rfl|cons x aa=>
   simp only[qL]at h hb ⊢;obtain⟨q1,q2⟩:=hs.2 x qH;rw[af oA,a6,qB,q6x fu x.1 x.2,qB,ji,qB,dz,ff]
   split
   ·rfl
   ·rw[ar _]
    have:=ih (ab++[x]) aa oA oB hs.tail
    simp only[qS,wM,qM,qL,qZ]at this;rw[show ab.length+(0+1)+aa.length=ab.length+(aa.length+1) by omega]at this
    exact this
def zh2(fu:Nat)(hfu:90000000<=fu)(l:List aq)(hs:oq l):qfm fu l=some (o8 l):=by
 unfold qfm o8;rw[bp];split
 ·rw[qX oA];rfl
 ·rw[qW oA]
  have:=zwt fu fu hfu (0,0) [] l (by have:=hs.1;omega) (by have:=hs.1;simp;omega) hs
  simp only[List.nil_append,qZ,wO]at this;exact this
def z15(fu n:Nat)(hfu:90000000<=fu)(m16:Int×Int):∀(ab aa:List aq),aa.length<n->ab.length+aa.length<100000000->oq aa ->
  qjg fu n (ab++aa) (ab.length:Int) m16=some (ff ab.length aa):=by
 induction n with
 |zero=>intro ab aa h;omega|succ n ih=>
  intro ab aa h hb hs;rw[qjg,qyt]
  cases aa with
  |nil=>rw[ao];rfl|cons x aa=>
   simp only[qL]at h hb ⊢;obtain⟨q1,q2⟩:=hs.2 x qH;rw[qam,qL,af oA,a6,qB,qB,zv2 fu x.1 x.2,qB,dz,ff]
   split
   ·rfl
   ·rw[ar _]
    have:=ih (ab++[x]) aa oA oB hs.tail
    simpa using this
def zk6(fu:Nat)(hfu:90000000<=fu)(l:List aq)(hs:oq l):qjf fu l=some (o8 l):=by
 unfold qjf o8;rw[bp];split
 ·rw[qX oA];rfl
 ·rw[qW oA]
  have:=z15 fu fu hfu (0,0) [] l (by have:=hs.1;omega) (by have:=hs.1;simp;omega) hs
  exact this
def ph(x:aq):Prop:=qg x.1 x.2=0/\vg 0 (fb x.1 x.2)=none
def zji{x:aq}(h:ph x):pb x.1 x.2=((0,0),fb x.1 x.2):=by
 unfold pb qan;rw[qX h.1,h.2]
def zv5{x:aq}(h:(pb x.1 x.2).1.1=0:=by omega):ph x:=by
 unfold pb qan at h;by_cases h0:qg x.1 x.2=0
 ·refine⟨h0,?_⟩;rw[qX h0]at h;split at h
  ·exact absurd h oC
  ·rename_i h1;exact h1
 ·rw[qW h0]at h;exact absurd h h0
def zg5:∀(i:Nat)(l:List aq),(ff i l).1=0->∀x∈l,ph x
 |_,[],_,_,h=>by cases h
 |i,y::l,h,x,hx=>by
  rw[ff]at h;split at h
  ·rename_i h1;exact absurd h h1
  ·rename_i h1;rcases List.mem_cons.1 hx with rfl|hx
   ·exact zv5
   ·exact zg5 (i+1) l h x hx
def zjk:∀(i:Nat)(l:List aq),(∀x∈l,ph x)->ff i l=(0,0)
 |_,[],_=>rfl|i,y::l,h=>by
  rw[ff,zji (h y qH),qW oC]
  exact zjk (i+1) l fun x hx=>h x (qE _ hx)
def qvk{l:List aq}(h:(o8 l).1=0):o8 l=(0,0)/\l.length<=60/\∀x∈l,ph x:=by
 unfold o8 at h ⊢;split at h
 ·exact absurd h oF
 ·rename_i hl;have:=zg5 0 l h;rw[qW hl];exact⟨zjk 0 l this,oA,this⟩
def iz(ls:List (List UInt8)):List UInt8:=ls.flatMap fun s=>s++[13,10]
def qc6(l:List aq):List UInt8:=l.flatMap fun x=>iz (fb x.1 x.2)
def hbytes(l:List aq):List UInt8:=qc6 l++[13,10]
def zhm:∀(m:Nat)(s:List UInt8)(k:Nat),(ia m s k).flatten=s
 |0,s,_=>by simp[ia]|m+1,s,k=>by
  rw[ia];split
  ·split
   ·simp
   ·rw[List.flatten_cons,zhm m,List.take_append_drop]
  ·simp
def zij:∀ls:List (List UInt8),(iz ls).length=ls.flatten.length+2*ls.length
 |[]=>rfl|s::ls=>by
  have:=zij ls;unfold iz at this ⊢;rw[List.flatMap_cons,List.flatten_cons,qM,qM,this];simp only[qM,qL,qZ];omega
def qhq{x:aq}(h:ph x):x.1.length<=60/\x.2.length<=4000/\(fb x.1 x.2).length<=5000/\(iz (fb x.1 x.2)).length<=20000:=by
 obtain⟨h1,h2,_⟩:=q6m h.1;have hl:=qvt h1;have hle:(b9 x.1 x.2).length=x.1.length+2+x.2.length:=by simp[b9];omega
 have h3:=q6w (b9 x.1 x.2).length (b9 x.1 x.2) (x.1.length+2) (wF _) oA
 have h4:(fb x.1 x.2).flatten.length=(b9 x.1 x.2).length:=by unfold fb;rw[zhm]
 have h5:(fb x.1 x.2).length<=5000:=by unfold fb;omega
 exact⟨hl,h2,h5,by rw[zij];omega⟩
def zg4:∀l:List aq,(∀x∈l,ph x)->(qc6 l).length<=20000*l.length
 |[],_=>wF _|x::l,h=>by
  have:=zg4 l fun y hy=>h y (qE _ hy)
  obtain⟨_,_,_,h4⟩:=qhq (h x qH);unfold qc6 at this ⊢;rw[List.flatMap_cons,qM,qL];omega
def z5z(fu:Nat)(r0:List aq->Int->Int->(List aq×List UInt8)->List UInt8->Option (List UInt8))(s11:List aq)(s12 s13:Int)(m16:List aq×List UInt8)(n:Nat):∀(ab aa:List (List UInt8))(out:List UInt8),aa.length<n->ab.length+aa.length<100000000->out.length+(iz aa).length<1000000000 ->
  qfx fu r0 n s11 s12 s13 ((ab.length+aa.length:Nat):Int) (ab.length:Int) m16 (ab++aa) out=r0 s11 s12 (ae (s13+1)) m16 (out++iz aa):=by
 induction n with
 |zero=>intro ab aa out h;omega|succ n ih=>
  intro ab aa out h hb ho;rw[qfx,q2q]
  cases aa with
  |nil=>rw[ao];simp[iz]|cons x aa=>
   have hc:iz (x::aa)=x++[13,10]++iz aa:=by simp[iz]
   rw[hc]at ho ⊢;simp only[qL,qM,qZ]at h hb ho;rw[show(x::aa).length=aa.length+1 from rfl,af oA,jk,a6,qB,af oK,af oK,ar _]
   have:=ih (ab++[x]) aa (out++x++[13,10]) oA oB oB
   simp only[qS,wM,qM,qL,qZ]at this;rw[show ab.length+(0+1)+aa.length=ab.length+(aa.length+1) by omega]at this
   simpa using this
def z58(fu n:Nat)(hfu:90000000<=fu)(m16:List aq×List UInt8)(hm:m16.2.length<=100000000):∀(ab aa:List aq)(out:List UInt8),aa.length<n->ab.length+aa.length<1000->(∀x∈aa,ph x)->out.length<=20000*ab.length ->
  qcc fu n (ab++aa) ((ab.length+aa.length:Nat):Int) (ab.length:Int) m16 out=some (out++hbytes aa++m16.2):=by
 induction n with
 |zero=>intro ab aa out h;omega|succ n ih=>
  intro ab aa out h hb hok ho;rw[qcc,q2p]
  cases aa with
  |nil=>
   rw[ao,af oK,af oK];simp[hbytes,qc6]
  |cons x aa=>
   have hx:=hok x qH;obtain⟨l1,l2,l3,l4⟩:=qhq hx;have hc:hbytes (x::aa)=iz (fb x.1 x.2)++hbytes aa:=by simp[hbytes,qc6]
   rw[hc];simp only[qL]at h hb ⊢;rw[af oA,a6,qB,q6x fu x.1 x.2,qB,zji hx]
   have:=z5z fu (qcc fu n) (ab++x::aa) ((ab.length+(aa.length+1):Nat):Int) (ab.length:Int) m16 fu [] (fb x.1 x.2) out oA oB oA
   simp only[List.nil_append,qZ,wO]at this;have this:qfx fu (qcc fu n) fu (ab++x::aa) ((ab.length+(aa.length+1):Nat):Int) (ab.length:Int) ((fb x.1 x.2).length:Int) 0 m16 (fb x.1 x.2) out=_:=this;rw[this,ar _]
   have:=ih (ab++[x]) aa (out++iz (fb x.1 x.2)) oA oB (fun y hy=>hok y (qE _ hy)) oB
   simp only[qS,wM,qM,qL,qZ]at this;rw[show ab.length+(0+1)+aa.length=ab.length+(aa.length+1) by omega]at this
   simpa using this
def z57(fu:Nat)(hfu:90000000<=fu)(l:List aq)(b:List UInt8)(hl:l.length<=60)(hok:∀x∈l,ph x)(hb:b.length<=100000000:=by omega):q2o fu (l,b)=some (hbytes l++b):=by
 have:=z58 fu fu hfu (l,b) hb [] l [] oA oB hok oC
 simp only[List.nil_append,qZ,wO]at this;exact this
def zwo(fu:Nat)(r0:List aq->List UInt8->Int->Option (List UInt8))(s0:List aq)(s4:Int)(n:Nat):∀(ab aa:List (List UInt8))(out:List UInt8),aa.length<n->ab.length+aa.length<100000000->out.length+(iz aa).length<1000000000 ->
  qee fu r0 n s0 out s4 (ab.length:Int) (ab++aa)=r0 s0 (out++iz aa) (ae (s4+1)):=by
 induction n with
 |zero=>intro ab aa out h;omega|succ n ih=>
  intro ab aa out h hb ho;rw[qee,qyy]
  cases aa with
  |nil=>rw[ao];simp[iz]|cons x aa=>
   have hc:iz (x::aa)=x++[13,10]++iz aa:=by simp[iz]
   rw[hc]at ho ⊢;simp only[qL,qM,qZ]at h hb ho;rw[cn,af oA,jk,a6,qB,af oE,af oE,ar _]
   have:=ih (ab++[x]) aa (out++x++[13,10]) oA oB oB
   simpa using this
def zwk(fu n:Nat)(hfu:90000000<=fu):∀(ab aa:List aq)(out:List UInt8),aa.length<n->ab.length+aa.length<1000->(∀x∈aa,ph x)->out.length<=20000*ab.length ->
  qbg fu n (ab++aa) out (ab.length:Int)=some (out++hbytes aa):=by
 induction n with
 |zero=>intro ab aa out h;omega|succ n ih=>
  intro ab aa out h hb hok ho;rw[qbg,qyx]
  cases aa with
  |nil=>
   rw[ao,af oE,af oQ];simp[hbytes,qc6]
  |cons x aa=>
   have hx:=hok x qH;obtain⟨l1,l2,l3,l4⟩:=qhq hx;have hc:hbytes (x::aa)=iz (fb x.1 x.2)++hbytes aa:=by simp[hbytes,qc6]
   rw[hc];simp only[qL]at h hb ⊢;rw[qam,qL,af oA,a6,qB,qB,zho fu x.1 x.2,qB]
   have:=zwo fu (qbg fu n) (ab++x::aa) (ab.length:Int) fu [] (fb x.1 x.2) out oA oB oA
   have this:qee fu (qbg fu n) fu (ab++x::aa) out (ab.length:Int) 0 (fb x.1 x.2)=_:=this;rw[this,ar _]
   have:=ih (ab++[x]) aa (out++iz (fb x.1 x.2)) oA oB (fun y hy=>hok y (qE _ hy)) oB
   simpa using this
def zwj(fu:Nat)(hfu:90000000<=fu)(l:List aq)(hl:l.length<=60)(hok:∀x∈l,ph x):qyw fu l=some (hbytes l):=by
 have:=zwk fu fu hfu [] l [] oA oB hok oC
 exact this
def zwl{l:List aq}(hl:l.length<=60)(hok:∀x∈l,ph x):(hbytes l).length<=2000000:=by
 have:=zg4 l hok;unfold hbytes;rw[qM];simp only[qL,qZ];omega
def qn(m:List aq×List UInt8):Int×Int:=if(o8 m.1).1≠0 then o8 m.1 else if 12000<(hbytes m.1).length+m.2.length then(1,-4) else qgq (bs 0 m.2)
def ot(m:List aq×List UInt8):Prop:=oq m.1/\m.2.length<=80000000
def z5l(fu:Nat)(hfu:90000000<=fu)(m:List aq×List UInt8)(hs:ot m):qsp fu m=some (qn m):=by
 obtain⟨l,b⟩:=m;obtain⟨h1,h2⟩:=hs;simp only at h1 h2;unfold qsp qn;rw[zh2 fu hfu l h1,qB,ji,qB,dz];simp only;split
 ·rfl
 ·rename_i h0;obtain⟨_,k1,k2⟩:=qvk (l:=l) oA
  rw[z57 fu hfu l b k1 k2,qB,bp,qM]
  split
  ·rw[qX oA];rfl
  ·rw[qW oA,ztk fu b];rfl
def zvr(fu:Nat)(hfu:90000000<=fu)(m:List aq×List UInt8)(hs:ot m):qrn fu m=some (qn m):=by
 obtain⟨l,b⟩:=m;obtain⟨h1,h2⟩:=hs;simp only at h1 h2;unfold qrn qn;rw[zk6 fu hfu l h1,qB,dz];simp only;split
 ·rfl
 ·rename_i h0;obtain⟨_,k1,k2⟩:=qvk (l:=l) oA
  have hl:=zwl k1 k2;rw[bp];split
  ·rw[qX oA];rfl
  ·rw[zwj fu hfu l k1 k2,qB,bt,bp]
   split
   ·rw[qX oA];rfl
   ·rw[qW oA,zkc fu b];rfl
def zyw{m:List aq×List UInt8}(h:(qn m).1=0):qn m=(0,0)/\m.1.length<=60/\(∀x∈m.1,ph x)/\(hbytes m.1).length+m.2.length<=12000/\bs 0 m.2=0:=by
 unfold qn at h ⊢;split at h
 ·rename_i h1;exact absurd h h1
 ·rename_i h1;obtain⟨_,k1,k2⟩:=qvk (l:=m.1) oA
  split at h
  ·exact absurd h oF
  ·rename_i h2;have h3:bs 0 m.2=0:=by
    rcases zfp m.2.length m.2 0 (wF _) with e|e|e
    ·exact e
    ·rw[e]at h;exact absurd h oF
    ·rw[e]at h;exact absurd h oF
   rw[qW h1,qW h2,h3];exact⟨rfl,k1,k2,oA,rfl⟩
def su(t:List UInt8):List UInt8:=if t.getLast? = some 13 then t.dropLast else t
def zt5(t:List UInt8):(su t).length<=t.length:=by unfold su;split<;>simp
def ln(r:List UInt8):List UInt8×Nat:=if(10:UInt8)∈r then(su (r.takeWhile (· != 10)),(r.takeWhile (· != 10)).length+1) else(r,r.length)
def zmo(k:UInt8)(t r:List UInt8)(h:∀x∈t,x≠k):(t++k::r).takeWhile (· != k)=t:=by
 induction t with
 |nil=>simp|cons c t ih=>
  rw[wK,List.takeWhile_cons,show(c != k)=true by simpa using h c qH,qX rfl,ih fun x hx=>h x (qE _ hx)]
def zvc(k:UInt8)(t r:List UInt8)(h:∀x∈t,x≠k):(t++k::r).dropWhile (· != k)=k::r:=by
 induction t with
 |nil=>simp|cons c t ih=>
  rw[wK,List.dropWhile_cons,show(c != k)=true by simpa using h c qH,qX rfl,ih fun x hx=>h x (qE _ hx)]
def qwd(t r:List UInt8)(h:∀x∈t,x≠10):ln (t++10::r)=(su t,t.length+1):=by
 unfold ln;rw[qX oC,zmo 10 t r h]
def qwe(r:List UInt8)(h:∀x∈r,x≠10):ln r=(r,r.length):=by
 unfold ln;rw[qW (fun hm=>h 10 hm rfl)]
def q7l(r:List UInt8):(ln r).2<=r.length/\(ln r).1.length<=(ln r).2:=by
 rcases ob 10 r with⟨t,q,rfl,h⟩|h
 ·rw[qwd t q h];have:=zt5 t;simp only[qM,qL];omega
 ·rw[qwe r h];exact⟨wF _,wF _⟩
def q7n(r:List UInt8)(h0:r≠[]):1<=(ln r).2:=by
 rcases ob 10 r with⟨t,q,rfl,h⟩|h
 ·rw[qwd t q h];simp
 ·rw[qwe r h];cases r with|nil=>exact absurd rfl h0|cons c r=>simp
def qpu(t:List UInt8)(hb:t.length<1000000000):zj t [13]=some (su t):=by
 unfold zj qfj qll su;rcases List.eq_nil_or_concat t with rfl|⟨u,c,rfl⟩
 ·rfl
 ·rw[List.concat_eq_append]at *;simp only[qM,qL,qZ]at hb;rw[fk,show(([13]:List UInt8).length:Int)=1 from rfl,ft _ oA,af oA,af oA,qB,qB]
  have e:List.drop ((u.length:Nat):Int).toNat (u++[c])=[c]:=la u [c];rw[e,List.getLast?_concat,List.dropLast_concat,t6];by_cases h:c=13
  ·subst h;rw[au,af oA,qX rfl]
  ·rw[aw (by simpa using h),qW (by simpa using h)]
def zx6(r:List UInt8)(hb:r.length<1000000000:=by omega):qsf r=some ((ln r).1,((ln r).2:Int)):=by
 unfold qsf;rcases ob 10 r with⟨t,q,rfl,h⟩|h
 ·rw[show wu (t++10::q) 10=some (Lib.indexByte (t++10::q) 10) from rfl,va 10 t q h,qB,qwd t q h]
  simp only[qM,qL]at hb;rw[ao,af oI,af oF,t7,qpu t oA,qB,ar _]
 ·rw[show wu r 10=some (Lib.indexByte r 10) from rfl,vb 10 r h,qB,qwe r h]
  rfl
def nf(s:List UInt8):Option aq:=if(58:UInt8)∈s/\ke (ch (s.takeWhile (· != 58)))=true then some (ch (s.takeWhile (· != 58)),(s.dropWhile (· != 58)).tail) else none
def q6u(t r:List UInt8)(h:∀x∈t,x≠58):nf (t++58::r)=if ke (ch t)=true then some (ch t,r) else none:=by
 unfold nf;rw[zmo 58 t r h,zvc 58 t r h];simp
def q6v(s:List UInt8)(h:∀x∈s,x≠58):nf s=none:=by
 unfold nf;rw[qW (fun hm=>h 58 hm.1 rfl)]
def zum(t r:List UInt8)(h:∀x∈t,x≠58)(hb:t.length+r.length<100000000:=by omega):wy (t++58::r) [58]=some (t,r,true):=by
 unfold wy ql2 qfn;rw[aw (by rfl)]
 unfold qfo;have hl:=cn t 58 r;by_cases he:([58]:List UInt8)=t++58::r
 ·have ht:t=[]:=by
   cases t with|nil=>rfl|cons c t=>injection he with h1 h2;exact absurd h1.symm (h c qH)
  subst ht;have hr:r=[]:=by injection he with _ h2;exact h2.symm
  subst hr;rfl
 ·rw[aw (by simpa using he),au,show ai [(58:UInt8)] (0:Int)=some 58 from rfl,qB,show ql3 (t++58::r) 58=some (Lib.indexByte (t++58::r) 58) from rfl,va 58 t r h,qB,qB]
  rw[af oA,af oA,show(([58]:List UInt8).length:Int)=1 from rfl,ar _,af oA,t7,qab]
  rfl
def zun(s:List UInt8)(h:∀x∈s,x≠58):wy s [58]=some (s,[],false):=by
 unfold wy ql2 qfn;rw[aw (by rfl)]
 unfold qfo;by_cases he:([58]:List UInt8)=s
 ·subst he;exact absurd rfl (h 58 oC)
 ·rw[aw (by simpa using he),au,show ai [(58:UInt8)] (0:Int)=some 58 from rfl,qB,show ql3 s 58=some (Lib.indexByte s 58) from rfl,vb 58 s h,qB]
  rfl
def zv3(n:List UInt8):((pb n []).1.1=0)↔ke n=true:=by
 unfold pb qg;cases h:ke n
 ·simp
 ·have hl:=qvt h;have e:fb n []=[b9 n []]:=by
   unfold fb;have h2:(b9 n []).length=n.length+2:=by simp[b9]
   rw[h2,ia,qW oA]
  rw[e];unfold qan vg;have h2:(b9 n []).length=n.length+2:=by simp[b9]
  rw[qW (show ¬998<(b9 n []).length by omega)]
  simp[vg,qdb,qac]
def zwp(fu:Nat)(hfu:10000<=fu)(n:List UInt8):qsg fu n=some (ke n):=by
 unfold qsg;rw[q6x fu n [] hfu oB oC,qB,ji,qB]
 congr 1;have:=zv3 n;cases h:ke n
 ·rw[h]at this;have:(pb n []).1.1≠0:=fun e=>by simpa using this.1 e
  simp[this]
 ·rw[this.2 h];rfl
def zta(fu:Nat)(hfu:10000<=fu)(s:List UInt8)(h:s.length<fu:=by omega)(hb:s.length<100000000:=by omega) :
  ∃x ok,qse fu s=some (x,ok)/\nf s=if ok then some x else none:=by
 unfold qse;rcases ob 58 s with⟨t,q,rfl,hn⟩|hn
 ·simp only[qM,qL]at h hb;rw[zum t q hn,qB]
  simp only;rw[qpt fu t oA oA oA,qB,au,zwp fu hfu,qB,q6u t q hn]
  exact⟨_,_,rfl,rfl⟩
 ·rw[zun s hn,qB];simp only;rw[qpt fu s oA h oA,qB,aw (by rfl),q6v s hn]
  exact⟨_,_,rfl,rfl⟩
def db(c:UInt8):UInt8:=if c=0\/c=13 then 32 else c
def nw:List UInt8:=(List.range 256).map fun i=>db (UInt8.ofNat i)
def z4i:∀n:_root_.Fin 256,nw[(UInt8.ofNat n.val).toNat]? = some (db (UInt8.ofNat n.val)):=by decide +kernel
def qxm(c:UInt8):nw[c.toNat]? = some (db c):=jh (fun c=>nw[c.toNat]? = some (db c)) z4i c
def zy6:qm6 [[0],[32],[13],[32]]=some (0,0,0,[[0],[32],[13],[32]]):=by rfl
def ztt(n:Nat):qti (n+300) 0 1 0 [[0],[32],[13],[32]]=some (0,1,0,nw,[]):=oD
def z1t(fu n:Nat):∀(ab aa:List UInt8),aa.length<n->ab.length+aa.length<1000000000->0<ab.length+aa.length ->
  qnc fu n (ab++aa) (ab.length:Int) nw (ab.map db++aa)=some ((ab++aa).map db,nw):=by
 induction n with
 |zero=>intro ab aa h;omega|succ n ih=>
  intro ab aa h hb h0;rw[qnc,q30]
  cases aa with
  |nil=>rw[ao,af (by simpa using h0)];simp|cons c aa=>
   simp only[qL]at h hb;rw[cn,af oA,a6,qB,qxm,qB,uu]
   have next:=ih (ab++[c]) aa oA oB oB
   by_cases hc:db c≠c
   ·rw[qX hc,af (by simp<;>omega)]
    unfold qnb;have g:=ic (ab.map db) c aa;have s:=pm (ab.map db) c (db c) aa;rw[wC]at g s;have hg:(0<=(ab.length:Int)/\(ab.length:Int).toNat<(ab.map db++c::aa).length):=oC
    rw[qxm,qB,af hg,g,qB,s,ar _]
    simpa using next
   ·rw[qW hc,ar _]
    have hc:db c=c:=Decidable.not_not.1 hc;simp only[List.map_append,List.map_cons,List.map_nil,hc,qS,wM,qM,qL,qZ]at next
    simpa [hc] using next
def z1s(fu n:Nat):∀(ab aa:List UInt8),aa.length<n->ab.length+aa.length<fu->ab.length+aa.length<1000000000->(∀x∈ab,db x=x) ->
  qna fu n (ab++aa) (ab.length:Int) nw=some ((ab++aa).map db,nw):=by
 induction n with
 |zero=>intro ab aa h;omega|succ n ih=>
  intro ab aa h hf hb hp;have hpm:ab.map db=ab:=by
   have:ab.map db=ab.map id:=List.map_congr_left fun x hx=>hp x hx
   rw[this,List.map_id]
  rw[qna,q3z]
  cases aa with
  |nil=>rw[ao];simp[hpm]|cons c aa=>
   simp only[qL]at h hf hb;rw[cn,af oA,a6,qB,qxm,qB,uu]
   by_cases hc:db c≠c
   ·rw[qX hc,af oQ]
    unfold qnb;have hg:(0<=(ab.length:Int)/\(ab.length:Int).toNat<(ab++c::aa).length):=oC
    rw[qxm,qB,af hg,ic,qB,pm,ar _]
    have:=z1t fu fu (ab++[c]) aa oA oB oB
    simpa [hpm] using this
   ·rw[qW hc,ar _]
    have hc:db c=c:=Decidable.not_not.1 hc;have:=ih (ab++[c]) aa oA oB oB (fun x hx=>by
     rcases List.mem_append.1 hx with hx|hx
     ·exact hp x hx
     ·rw[List.mem_singleton.1 hx,hc])
    simpa using this
def zkt(fu:Nat)(s:List UInt8)(h:s.length<fu)(hb:s.length<1000000000):qm9 fu s nw=some (s.map db,nw):=by
 have:=z1s fu fu [] s h (by simpa using h) (by simpa using hb) (fun x hx=>by cases hx)
 exact this
def zvy(fu:Nat)(hfu:300<=fu)(s:List UInt8)(h:s.length<fu)(hb:s.length<1000000000):qcj fu s 0 0 0 [[0],[32],[13],[32]]=some (s.map db,1,0,0,nw):=by
 obtain⟨n,rfl⟩:∃n,fu=n+300:=⟨fu-300,oA⟩
 unfold qcj;rw[au,ztt,qB,au,zkt _ s h hb];rfl
def zxw(fu:Nat)(s:List UInt8)(h:s.length<fu)(hb:s.length<1000000000):qck fu s 1 0 0 nw=some (s.map db,1,0,0,nw):=by
 unfold qck;rw[au,zkt _ s h hb];rfl
def ne(v:List UInt8):List UInt8:=gz (v.map db)
def qus(x:aq):aq:=(x.1,ne x.2)
def zgf(v:List UInt8):(ne v).length<=v.length:=by unfold ne;have:=z43 (v.map db);simpa using this
def ym:Nat->List aq->Option Nat|_,[]=>none|i,x::l=>if 4000<(ne x.2).length then some i else ym (i+1) l
def o9(a:Nat)(ab aa:List aq):Int×(Int×Int)×List aq:=match ym ab.length aa with|some i=>(0,(1,(i:Int)),[])|none=>((a:Int),(0,0),ab++aa.map qus)
def lu(a:Nat)(out:List aq):Int×(Int×Int)×List aq:=if 60<out.length then(0,(2,-2),[]) else o9 a [] out
def uq(out:List aq)(s:List UInt8):List aq:=match out.getLast? with|some x=>out.dropLast++[(x.1,x.2++s)]|none=>out
def q46(out:List aq)(x:aq)(s:List UInt8):uq (out++[x]) s=out++[(x.1,x.2++s)]:=by
 unfold uq;rw[List.getLast?_concat,List.dropLast_concat]
def hd:Nat->List UInt8->Nat->List aq->Nat×List aq
 |0,_,a,out=>(a,out)|n+1,r,a,out=>
  if r=[] then(a,out) else
  if(ln r).1=[] then(a+(ln r).2,out) else
  if bl ((ln r).1.headD 0)=true/\out≠[] then hd n (r.drop (ln r).2) (a+(ln r).2) (uq out (ln r).1) else
  match nf (ln r).1 with|none=>(a,out)|some x=>hd n (r.drop (ln r).2) (a+(ln r).2) (out++[x])
def du(b:List UInt8):Int×(Int×Int)×List aq:=if 12000<b.length then(0,(1,-1),[]) else lu (hd b.length b 0 []).1 (hd b.length b 0 []).2
def lm(a:Nat)(l:List aq):Prop:=l.length<=a/\∀x∈l,x.1.length<=a/\x.2.length<=a
def zzq(fu n:Nat)(hfu:300<=fu)(s6:Nat)(m16:Int×Int):∀(ab aa:List aq),aa.length<n->ab.length+aa.length<100000000->(∀x∈aa,x.2.length<fu/\x.2.length<100000000) ->
  ql0 fu n (s6:Int) ((ab.length+aa.length:Nat):Int) (ab.length:Int) m16 (ab++aa) 1 0 0 nw=some (o9 s6 ab aa):=by
 induction n with
 |zero=>intro ab aa h;omega|succ n ih=>
  intro ab aa h hb hs;rw[ql0,q12]
  cases aa with
  |nil=>rw[ao];simp[dh,o9,ym]|cons x aa=>
   simp only[qL]at h hb;obtain⟨q1,q2⟩:=hs x qH;have hg:(0<=(ab.length:Int)/\(ab.length:Int).toNat<(ab++x::aa).length):=oC
   rw[show(x::aa).length=aa.length+1 from rfl,af oA,af hg,ic,qB,zxw fu x.2 q1 oA,qB]
   simp only;rw[zlx fu (x.2.map db) oA (by simpa using q1) oB,qB,bp,o9,ym]
   by_cases hc:4000<(ne x.2).length
   ·have hc':(4000:Int)<((gz (x.2.map db)).length:Int):=by unfold ne at hc;omega
    rw[qX hc',qX hc];rfl
   ·have hc':¬(4000:Int)<((gz (x.2.map db)).length:Int):=by unfold ne at hc;omega
    rw[qW hc',qW hc,af hg,qB,pm,ar _]
    have:=ih (ab++[qus x]) aa oA oB (fun y hy=>hs y (qE _ hy))
    simp only[qS,wM,qM,qL,qZ]at this;rw[show ab.length+(0+1)+aa.length=ab.length+(aa.length+1) by omega]at this
    refine Eq.trans this ?_;simp[o9]
def q8f(fu:Nat)(hfu:300<=fu)(s6:Nat)(m16:Int×Int)(out:List aq)(hs:∀x∈out,x.2.length<fu/\x.2.length<100000000):qfl fu (s6:Int) m16 out=some (lu s6 out):=by
 unfold qfl lu;rw[bp];split
 ·rw[qX oA];rfl
 ·rename_i hl;rw[qW oA,zy6,qB]
  simp only;obtain⟨n,hn⟩:∃n,fu=n+1:=⟨fu-1,oA⟩
  have e:zm fu fu (s6:Int) (out.length:Int) m16 0 0 0 [[0],[32],[13],[32]] out=qlz fu (zm fu n) (s6:Int) (out.length:Int) m16 0 0 0 [[0],[32],[13],[32]] out:=by
   have:∀k,k=n+1->zm fu k (s6:Int) (out.length:Int) m16 0 0 0 [[0],[32],[13],[32]] out=qlz fu (zm fu n) (s6:Int) (out.length:Int) m16 0 0 0 [[0],[32],[13],[32]] out:=by
    rintro k rfl;rw[zm]
   exact this fu hn
  rw[e,qlz]
  cases out with
  |nil=>rw[ao];rfl|cons x aa=>
   obtain⟨q1,q2⟩:=hs x qH;simp only[qL]at hl;have hg:(0<=(0:Int)/\(0:Int).toNat<(x::aa).length):=oC
   rw[af oG,af hg,show(x::aa)[(0:Int).toNat]? = some x from rfl,qB,zvy fu hfu x.2 q1 oA,qB]
   simp only;rw[zlx fu (x.2.map db) oA (by simpa using q1) oB,qB,bp,o9,qZ,ym]
   by_cases hc:4000<(ne x.2).length
   ·have hc':(4000:Int)<((gz (x.2.map db)).length:Int):=by unfold ne at hc;omega
    rw[qX hc',qX hc];rfl
   ·have hc':¬(4000:Int)<((gz (x.2.map db)).length:Int):=by unfold ne at hc;omega
    rw[qW hc',qW hc,af hg,qB];have:=zzq fu fu hfu s6 m16 [qus x] aa oA oU (fun y hy=>hs y (qE _ hy))
    simp only[qL,qZ,wM]at this;rw[show 0+1+aa.length=aa.length+1 by omega]at this
    exact this
def zew(out:List aq)(x:aq)(_s:List UInt8)(h:out.length<1000000000:=by omega) :
  (ae (((out++[x]).length:Int)-1)).toNat=out.length:=by
 rw[fk,ft _ h];omega
def lm.mono{a b:Nat}{l:List aq}(h:lm a l)(hab:a<=b):lm b l:=⟨Nat.le_trans h.1 hab,fun x hx=>⟨Nat.le_trans (h.2 x hx).1 hab,Nat.le_trans (h.2 x hx).2 hab⟩⟩
def lm.app{a k:Nat}{l:List aq}(h:lm a l)(hne:l≠[])(s:List UInt8)(hs:s.length<=k):lm (a+k) (uq l s):=by
 rcases List.eq_nil_or_concat l with rfl|⟨t,x,rfl⟩
 ·exact absurd rfl hne
 ·rw[List.concat_eq_append]at *;rw[q46];refine⟨by have:=h.1;simp only[qM,qL,qZ]at this ⊢;omega,fun y hy => ?_⟩
  rcases List.mem_append.1 hy with hy|hy
  ·have:=h.2 y (List.mem_append_left _ hy);omega
  ·have:=h.2 x oC
   rw[List.mem_singleton.1 hy];simp only[qM];omega
def zhk{s:List UInt8}{x:aq}(h:nf s=some x):x.1.length<=s.length/\x.2.length<=s.length/\ke x.1=true:=by
 rcases ob 58 s with⟨t,q,rfl,hn⟩|hn
 ·rw[q6u t q hn]at h;split at h
  ·rename_i hf;cases h
   have:=vn t;simp only[qM,qL];exact⟨oA,oA,hf⟩
  ·cases h
 ·rw[q6v s hn]at h;cases h
def lm.snoc{a k:Nat}{l:List aq}(h:lm a l){x:aq}(hk:1<=k)(h1:x.1.length<=k)(h2:x.2.length<=k):lm (a+k) (l++[x]):=by
 refine⟨by have:=h.1;simp only[qM,qL,qZ];omega,fun y hy => ?_⟩
 rcases List.mem_append.1 hy with hy|hy
 ·have:=h.2 y hy;omega
 ·rw[List.mem_singleton.1 hy];omega
def z1k(fu n:Nat)(hfu:90000000<=fu)(m16:Int×Int)(s0:List UInt8)(hs:s0.length<=12000):∀(m a:Nat)(out:List aq),(s0.drop a).length<=m->(s0.drop a).length<n->a<=s0.length->lm a out ->
  qb6 fu n s0 (a:Int) m16 out=some (lu (hd m (s0.drop a) a out).1 (hd m (s0.drop a) a out).2):=by
 induction n with
 |zero=>intro m a out _ h;omega|succ n ih=>
  intro m a out hm h ha hA;have small:∀(b:Nat)(l:List aq),b<=30000->lm b l->∀x∈l,x.2.length<fu/\x.2.length<100000000:=fun b l hb hl x hx=>by have:=(hl.2 x hx).2;omega
  rw[qb6,q11];by_cases h0:s0.drop a=[]
  ·have hl:(s0.drop a).length=0:=by rw[h0];rfl
   rw[List.length_drop]at hl;rw[ao,q8f fu oA a m16 out (small a out oA hA),h0]
   cases m with|zero=>rfl|succ m=>rw[hd,qX rfl]
  ·have hl:1<=(s0.drop a).length:=by
    cases hq:s0.drop a with|nil=>exact absurd hq h0|cons _ _=>simp
   obtain⟨m,rfl⟩:∃j,m=j+1:=⟨m-1,oA⟩
   have ac:(s0.drop a).length=s0.length-a:=List.length_drop;have k0:=q7n (s0.drop a) h0;obtain⟨k1,k2⟩:=q7l (s0.drop a);have ea:(s0.drop a).drop (ln (s0.drop a)).2=s0.drop (a+(ln (s0.drop a)).2):=by rw[List.drop_drop]
   rw[af oA,af oA,show((a:Nat):Int).toNat=a by omega,zx6 (s0.drop a),qB,hd,qW h0,ea]
   simp only;generalize hln:ln (s0.drop a)=p at *;obtain⟨t,k⟩:=p;simp only at k0 k1 k2 ea ⊢;have ek:ae ((a:Int)+(k:Int))=((a+k:Nat):Int):=by rw[bt];omega
   by_cases ht:t=[]
   ·rw[qX ht,ht,au,ek]
    exact q8f fu oA (a+k) m16 out (small a out oA hA)
   ·rw[qW ht,aw (by simpa using ht)]
    have hidx:ai t (0:Int)=some (t.headD 0):=by
     cases t with|nil=>exact absurd rfl ht|cons c t=>rfl
    rw[hidx,qB,qn4,qB];have begin:(match nf t with|none=>some (lu a out)|some x=>some (lu (hd m (s0.drop (a+k)) (a+k) (out++[x])).1 (hd m (s0.drop (a+k)) (a+k) (out++[x])).2))=qsd fu (qb6 fu n) s0 (a:Int) t (k:Int) m16 out:=by
     unfold qsd;obtain⟨x,ok,e1,e2⟩:=zta fu oA t
     rw[e1,qB,e2];cases ok
     ·rw[cu];exact(q8f fu oA a m16 out (small a out oA hA)).symm
     ·have hx:nf t=some x:=e2;obtain⟨x1,x2,_⟩:=zhk hx;have ho:=hA.1;rw[bq,af oK,ek]
      have:=ih m (a+k) (out++[x]) (by rw[List.length_drop];omega) (by rw[List.length_drop];omega) oA (hA.snoc k0 oA oA)
      exact this.symm
    have more:out≠[]->qb7 fu (qb6 fu n) s0 (a:Int) t (k:Int) true m16 out=some (lu (hd m (s0.drop (a+k)) (a+k) (uq out t)).1 (hd m (s0.drop (a+k)) (a+k) (uq out t)).2):=by
     intro hne;have hA2:=hA.app hne t k2;unfold qb7;have ho:=hA.1;rcases List.eq_nil_or_concat out with rfl|⟨u,x,rfl⟩
     ·exact absurd rfl hne
     ·rw[List.concat_eq_append]at *;simp only[qM,qL,qZ]at ho;have hx:=(hA.2 x oC).2
      have hw:=zew u x t
      have hw2:ae (((u++[x]).length:Int)-1)=(u.length:Int):=by rw[fk,ft _ oA]
      have hg:(0<=ae (((u++[x]).length:Int)-1)/\(ae (((u++[x]).length:Int)-1)).toNat<(u++[x]).length):=by rw[hw2];simp
      rw[au,af hg,hw,show(u++[x])[u.length]? = some x by simp,qB,af oO,af (by rw[hw]at hg;exact hg),qB,ek]
      rw[show List.set (u++[x]) u.length (x.1,x.2++t)=uq (u++[x]) t by rw[q46];simp]
      exact ih m (a+k) (uq (u++[x]) t) (by rw[List.length_drop];omega) (by rw[List.length_drop];omega) oA hA2
    cases hb:bl (t.headD 0)
    ·rw[aw (by rfl),qW oC]
     unfold qb7;rw[aw (by rfl),← begin]
     cases nf t<;>rfl
    ·rw[au]
     by_cases hne:out=[]
     ·subst hne;rw[qW oC]
      unfold qb7;rw[ao,← begin]
      cases nf t<;>rfl
     ·rw[qX ⟨rfl,hne⟩,show(decide ((0:Int)<(out.length:Int)))=true by
       cases out with
       |nil=>exact absurd rfl hne| cons _ _=>exact decide_eq_true oG]
      exact more hne
def z1j(fu:Nat)(hfu:90000000<=fu)(b:List UInt8):qsc fu b=some (du b):=by
 unfold qsc du;rw[bp];split
 ·rw[qX oA];rfl
 ·rw[qW oA]
  have:=z1k fu fu hfu (0,0) b oA b.length 0 [] oC oB oA ⟨wF _,fun x hx=>by cases hx⟩
  simpa using this
def zhc(fu n:Nat):∀(ab t aa:List UInt8),(∀x∈t,x≠58)->(aa=[]\/∃r,aa=58::r)->t.length<n->ab.length+t.length+aa.length<100000000 ->
  qbe fu n (ab++(t++aa)) [58] (ab.length:Int)=some (if aa=[] then -1 else((ab.length+t.length:Nat):Int)):=by
 induction n with
 |zero=>intro ab t aa _ _ h;omega|succ n ih=>
  intro ab t aa ht hs h hb;rw[qbe,qqn,show((([58]:List UInt8).length:Nat):Int)=1 from rfl,ar _]
  have one:∀(c:UInt8)(r:List UInt8),(List.take (((ab.length+1:Nat):Int).toNat-((ab.length:Nat):Int).toNat) (List.drop ((ab.length:Nat):Int).toNat (ab++c::r)))=[c]:=by
   intro c r;rw[la,show((ab.length+1:Nat):Int).toNat-((ab.length:Nat):Int).toNat=1 by omega];rfl
  cases t with
  |nil=>
   rcases hs with rfl|⟨r,rfl⟩
   ·rw[ao (by simp<;>omega)];rfl
   ·have hl:((ab++([]++58::r)).length:Int)=((ab.length+r.length+1:Nat):Int):=by simp;omega
    rw[hl,af oA,af oA]
    rw[show ab++([]++58::r)=ab++58::r from rfl,one 58 r,au]
    rfl
  |cons c t=>
   have hc:=ht c qH;simp only[qL]at h hb;have hl:((ab++(c::t++aa)).length:Int)=((ab.length+t.length+aa.length+1:Nat):Int):=by simp;omega
   rw[hl,af oA,af oA]
   rw[show ab++(c::t++aa)=ab++c::(t++aa) from rfl,one c (t++aa),aw (by simpa using hc)]
   have:=ih (ab++[c]) t aa (fun x hx=>ht x (qE _ hx)) hs oA oB
   simp only[qS,wM,qM,qL,qZ]at this;rw[this,show ab.length+(0+1)+t.length=ab.length+(t.length+1) by omega];rfl
def zvt(fu:Nat)(t r:List UInt8)(h:∀x∈t,x≠58)(hf:t.length<fu:=by omega)(hb:t.length+r.length<10000000:=by omega):y6 fu (t++58::r) [58] 0=some (t.length:Int):=by
 have:=zhc fu fu [] t (58::r) h (.inr ⟨r,rfl⟩) hf oB
 rw[qW oC]at this
 unfold y6;simpa using this
def zvv(fu:Nat)(s:List UInt8)(h:∀x∈s,x≠58)(hf:s.length<fu:=by omega)(hb:s.length<10000000:=by omega):y6 fu s [58] 0=some (-1):=by
 have:=zhc fu fu [] s [] h (.inl rfl) hf oB
 rw[qX rfl,List.append_nil]at this;exact this
def zzn(fu:Nat)(r0:List UInt8->Int->(Int×Int)->List aq->Option ju)(s0:List UInt8)(s6 s9:Int)(s10:List UInt8)(s11:Int)(m16:Int×Int)(m17:List aq)(n:Nat):∀(s:List UInt8),s.length<n->s.length<100000000 ->
  qj8 fu r0 n s0 s6 s9 s10 s11 s m16 m17=qeu fu r0 (fun _ _ _ _ _ _ _ _=>none) s0 s6 s9 s10 s11 (ch s) false m16 m17:=by
 induction n with
 |zero=>intro s h;omega|succ n ih=>
  intro s h hb;rw[qj8,qzq];rcases List.eq_nil_or_concat s with rfl|⟨t,c,rfl⟩
  ·rw[ao];rfl
  ·rw[List.concat_eq_append]at *;simp only[qM,qL,qZ]at h hb;rw[fk,af oA,ft _ oA,th,qB,yc,qB,yf]
   cases bl c
   ·rfl
   ·unfold qeu;rw[au]
    unfold qzu;rw[fk,ft _ oA,af oA,t6,ih t oA oA,qX rfl]
    rfl
def zzo(fu:Nat)(r4:Int->Int->(Int×Int)->List aq->Option ju)(s6:Int)(P:List aq)(x:aq)(S:List aq)(m16:Int×Int)(n:Nat):∀(ab aa:List UInt8),aa.length<n->ab.length+aa.length<fu->ab.length+aa.length<100000000 ->
  qbs fu r4 n s6 (P.length:Int) (ab.length:Int) m16 (P++x::S) (ab++aa)=if 4000<(gz (ab++aa.map db)).length then some (0,((1,(P.length:Int)),[])) else r4 s6 (ae ((P.length:Int)+1)) m16 (P++(x.1,gz (ab++aa.map db))::S):=by
 induction n with
 |zero=>intro ab aa h;omega|succ n ih=>
  intro ab aa h hf hb;rw[qbs,qzr];have hg:(0<=(P.length:Int)/\(P.length:Int).toNat<(P++x::S).length):=oC
  cases aa with
  |nil=>
   rw[ao,List.append_nil,zkb fu ab (by simpa using hf) (by simp at hb;omega),qB,af hg,ic,qB,pm]
   have hg2:(0<=(P.length:Int)/\(P.length:Int).toNat<(P++(x.1,gz ab)::S).length):=oC
   rw[af hg2,ic,qB,bp];simp only[List.map_nil,List.append_nil];split
   ·rw[qX oA];rfl
   ·rw[qW oA]
  |cons c aa=>
   simp only[qL]at h hf hb;have hc:(0<=(ab.length:Int)/\(ab.length:Int).toNat<(ab++c::aa).length):=oC
   have fin:∀d,d=db c->qbs fu r4 n s6 (P.length:Int) (ae ((ab.length:Int)+1)) m16 (P++x::S) (ab++d::aa)=if 4000<(gz (ab++(c::aa).map db)).length then some (0,((1,(P.length:Int)),[])) else r4 s6 (ae ((P.length:Int)+1)) m16 (P++(x.1,gz (ab++(c::aa).map db))::S):=by
    intro d hd;have:=ih (ab++[d]) aa oA oB oB
    rw[ar _]
    subst hd;simpa using this
   rw[cn,af oA,af hc,ic,qB,gy]
   unfold qq6 qq7;by_cases h0:c=0
   ·rw[qX h0,au,af hc,ic,qB,pm]
    exact fin 32 (by unfold db;rw[qX (.inl h0)])
   ·rw[qW h0,af hc,qB];by_cases h13:c=13
    ·rw[au (by simpa using h13),af hc,ic,qB,pm]
     exact fin 32 (by unfold db;rw[qX (.inr h13)])
    ·rw[aw (by simpa using h13)]
     exact fin c (by unfold db;rw[qW (by simp[h0,h13])])
def zzp(fu n:Nat)(s6:Nat)(m16:Int×Int):∀(ab aa:List aq),aa.length<n->ab.length+aa.length<100000000->(∀x∈aa,x.2.length<fu/\x.2.length<100000000) ->
  qbv fu n (s6:Int) (ab.length:Int) m16 (ab++aa)=some (o9 s6 ab aa):=by
 induction n with
 |zero=>intro ab aa h;omega|succ n ih=>
  intro ab aa h hb hs;rw[qbv,qzs]
  cases aa with
  |nil=>rw[ao];simp[o9,ym]|cons x aa=>
   simp only[qL]at h hb;obtain⟨q1,q2⟩:=hs x qH;have hg:(0<=(ab.length:Int)/\(ab.length:Int).toNat<(ab++x::aa).length):=oC
   have e:=zzo fu (qbv fu n) (s6:Int) ab x aa m16 fu [] x.2 q1 (by simpa using q1) (by simpa using q2)
   simp only[List.nil_append,qZ]at e;have e:qbs fu (qbv fu n) fu (s6:Int) (ab.length:Int) 0 m16 (ab++x::aa) x.2=_:=e;rw[qam,qL,af oA,af hg,ic,qB,af oQ,e,o9,ym]
   rw[show(gz (x.2.map db))=ne x.2 from rfl]
   by_cases hc:4000<(ne x.2).length
   ·rw[qX hc,qX hc]
   ·rw[qW hc,qW hc,ar _]
    have:=ih (ab++[qus x]) aa oA oB (fun y hy=>hs y (qE _ hy))
    simp only[qS,wM,qM,qL,qZ]at this;refine Eq.trans this ?_;simp[o9]
def qwt(fu:Nat)(hfu:100<=fu)(s6:Nat)(m16:Int×Int)(out:List aq)(hs:∀x∈out,x.2.length<fu/\x.2.length<100000000):qbt fu (s6:Int) m16 out=some (lu s6 out):=by
 unfold qbt lu;rw[bp];split
 ·rw[qX oA];rfl
 ·rename_i hl;rw[qW oA]
  have:=zzp fu fu s6 m16 [] out oA oB hs
  exact this
def zjs(fu:Nat)(r0:List UInt8->Int->(Int×Int)->List aq->Option ju)(a:Int)(m16:Int×Int)(m17:List aq)(n:Nat):∀(ab t aa:List UInt8),(∀x∈t,x≠10)->(aa=[]\/∃r,aa=10::r)->t.length<n->ab.length+t.length+aa.length<100000000 ->
  za fu r0 n (ab++(t++aa)) a (ab.length:Int) m16 m17=qbu fu r0 (fun _ _ _ _ _=>none) (ab++(t++aa)) a ((ab.length+t.length:Nat):Int) false m16 m17:=by
 induction n with
 |zero=>intro ab t aa _ _ h;omega|succ n ih=>
  intro ab t aa ht hs h hb;rw[za,qzp]
  cases t with
  |nil=>
   rcases hs with rfl|⟨r,rfl⟩
   ·rw[ao];rfl
   ·rw[show ab++([]++10::r)=ab++10::r from rfl,cn,af oA,a6,qB,show((10:UInt8) != 10)=false from rfl];rfl
  |cons c t=>
   have hc:=ht c qH;simp only[qL]at h hb;have hl:((ab++(c::t++aa)).length:Int)=((ab.length+t.length+aa.length+1:Nat):Int):=by simp;omega
   rw[hl,af oA,show ab++(c::t++aa)=ab++c::(t++aa) from rfl,a6,qB,show(c != 10)=true by simpa using hc]
   have:=ih (ab++[c]) t aa (fun x hx=>ht x (qE _ hx)) hs oA oB
   simp only[qS,wM,qM,qL,qZ]at this;have e:qbu fu r0 (za fu r0 n) (ab++c::(t++aa)) a (ab.length:Int) true m16 m17=za fu r0 n (ab++c::(t++aa)) a (ae ((ab.length:Int)+1)) m16 m17:=rfl;rw[e,ar _,show ab.length+1=ab.length+(0+1) by omega,this,show ab.length+(0+1)+t.length=ab.length+(t.length+1) by omega];rfl
def zx7(fu:Nat)(r0:List UInt8->Int->(Int×Int)->List aq->Option ju)(m16:Int×Int)(m17:List aq)(ab r:List UInt8)(hf:r.length<fu:=by omega)(hb:ab.length+r.length<10000000:=by omega) :
  za fu r0 fu (ab++r) (ab.length:Int) (ab.length:Int) m16 m17=qex fu r0 (ab++r) (ab.length:Int) ((ab.length+(ln r).1.length:Nat):Int) ((ab.length+(ln r).2:Nat):Int) m16 m17/\List.take (ln r).1.length r=(ln r).1:=by
 rcases ob 10 r with⟨t,q,rfl,h⟩|h
 ·simp only[qM,qL]at hf hb;have ac:((ab++(t++10::q)).length:Int)=((ab.length+t.length+q.length+1:Nat):Int):=by simp;omega
  rw[qwd t q h];simp only;refine⟨?_,?_⟩
  ·rw[zjs fu r0 (ab.length:Int) m16 m17 fu ab t (10::q) h (.inr ⟨q,rfl⟩) oA oB]
   unfold qbu;rw[aw (by rfl),ac,af oA]
   have p7:∀e:Nat,qew fu r0 (ab++(t++10::q)) (ab.length:Int) ((ab.length+t.length:Nat):Int) (e:Int) m16 m17=qex fu r0 (ab++(t++10::q)) (ab.length:Int) (e:Int) ((ab.length+(t.length+1):Nat):Int) m16 m17:=by
    intro e;unfold qew;rw[ac,d6,qW oA,ar _];rfl
   unfold qev;rcases List.eq_nil_or_concat t with rfl|⟨u,c,rfl⟩
   ·rw[ao,aw (by rfl)]
    exact p7 ab.length
   ·rw[List.concat_eq_append]at *;simp only[qM,qL,qZ]at hf hb p7 ⊢;rw[af oA,show ae (((ab.length+(u.length+(0+1)):Nat):Int)-1)=(((ab++u).length:Nat):Int) by rw[bt];simp;omega]
    rw[show ab++(u++[c]++10::q)=(ab++u)++c::10::q by simp,a6,qB]
    rw[show(ab++u)++c::10::q=ab++(u++[c]++10::q) by simp]
    by_cases hc:c=13
    ·rw[au (by simpa using hc),show((ab++u).length:Int)=((ab.length+u.length:Nat):Int) by simp,p7 (ab.length+u.length)]
     rw[show su (u++[c])=u by unfold su;rw[List.getLast?_concat,hc];simp]
    ·rw[aw (by simpa using hc),p7 (ab.length+(u.length+(0+1)))]
     rw[show su (u++[c])=u++[c] by unfold su;rw[List.getLast?_concat,qW (by simpa using hc)]]
     simp
  ·unfold su;split
   ·rename_i hl;rcases List.eq_nil_or_concat t with rfl|⟨u,c,rfl⟩
    ·simp at hl
    ·rw[List.concat_eq_append];simp
   ·simp
 ·rw[qwe r h];simp only;refine⟨?_,List.take_length⟩;have:=zjs fu r0 (ab.length:Int) m16 m17 fu ab r [] h (.inl rfl) hf oB
  rw[List.append_nil]at this;rw[this];unfold qbu;have ac:((ab++r).length:Int)=((ab.length+r.length:Nat):Int):=oC
  rw[aw (by rfl),ac,ao]
  unfold qev qew;rw[aw (by rfl),ac,d6,qX rfl]
def z2w(fu n:Nat)(hfu:90000000<=fu)(m16:Int×Int):∀(m:Nat)(ab r:List UInt8)(out:List aq),r.length<=m->r.length<n->ab.length+r.length<=12000->lm ab.length out ->
  y9 fu n (ab++r) (ab.length:Int) m16 out=some (lu (hd m r ab.length out).1 (hd m r ab.length out).2):=by
 induction n with
 |zero=>intro m ab r out _ h;omega|succ n ih=>
  intro m ab r out hm h hs hA;have small:∀(b:Nat)(l:List aq),b<=30000->lm b l->∀x∈l,x.2.length<fu/\x.2.length<100000000:=fun b l hb hl x hx=>by have:=(hl.2 x hx).2;omega
  rw[y9,qzo];by_cases h0:r=[]
  ·subst h0;rw[ao,qwt fu oA ab.length m16 out (small _ out (by simp at hs;omega) hA)]
   cases m with|zero=>rfl|succ m=>rw[hd,qX rfl]
  ·have hl:1<=r.length:=by
    cases r with|nil=>exact absurd rfl h0|cons _ _=>simp
   obtain⟨m,rfl⟩:∃j,m=j+1:=⟨m-1,oA⟩
   have k0:=q7n r h0;obtain⟨k1,k2⟩:=q7l r;obtain⟨l1,l2⟩:=zx7 fu (y9 fu n) m16 out ab r
   rw[qam,af oA,l1,hd,qW h0]
   unfold qex;rw[qam,af oA,la,show((ab.length+(ln r).1.length:Nat):Int).toNat-(ab.length:Int).toNat=(ln r).1.length by omega,l2]
   generalize hln:ln r=p at *;obtain⟨t,k⟩:=p;simp only at k0 k1 k2 l2 ⊢;have hsplit:ab++r=(ab++r.take k)++r.drop k:=oC
   have hpl:(ab++r.take k).length=ab.length+k:=by simp;omega
   have next:∀out',lm (ab.length+k) out'->y9 fu n (ab++r) ((ab.length+k:Nat):Int) m16 out'=some (lu (hd m (r.drop k) (ab.length+k) out').1 (hd m (r.drop k) (ab.length+k) out').2):=by
    intro out' hA';have:=ih m (ab++r.take k) (r.drop k) out' (by rw[List.length_drop];omega) (by rw[List.length_drop];omega) (by rw[hpl,List.length_drop];omega) (by rw[hpl];exact hA')
    rw[hpl,← hsplit]at this;exact this
   by_cases ht:t=[]
   ·rw[qX ht,ht,au]
    exact qwt fu oA (ab.length+k) m16 out (small (ab.length+k) out oA (hA.mono oA))
   ·rw[qW ht,aw (by simpa using ht)]
    have hidx:ai t (0:Int)=some (t.headD 0):=by
     cases t with|nil=>exact absurd rfl ht|cons c t=>rfl
    have begin:qey fu (y9 fu n) (ab++r) (ab.length:Int) ((ab.length+k:Nat):Int) t false m16 out=(match nf t with|none=>some (lu ab.length out)|some x=>some (lu (hd m (r.drop k) (ab.length+k) (out++[x])).1 (hd m (r.drop k) (ab.length+k) (out++[x])).2)):=by
     unfold qey qzt;rw[aw (by rfl)]
     rcases ob 58 t with⟨u,q,rfl,hn⟩|hn
     ·simp only[qM,qL]at k2;have hu:=vn u;have ho:=hA.1;rw[zvt fu u q hn,qB,ao,af oI,t7,zzn fu _ _ _ _ _ _ _ _ fu u oA oA,q6u u q hn]
      unfold qeu;rw[aw (by rfl),zk9 fu (ch u),qB]
      cases hf:ke (ch u)
      ·rw[cu,qW oF]
       exact qwt fu oA ab.length m16 out (small _ out oA hA)
      ·rw[bq,qX rfl,ar _,af oI,qab,af oK]
       exact next _ (hA.snoc k0 (by show(ch u).length<=k;omega) (by show q.length<=k;omega))
     ·rw[zvv fu t hn,qB,af oF,q6v t hn]
      exact qwt fu oA ab.length m16 out (small _ out oA hA)
    by_cases hne:out=[]
    ·rw[hne,ao,qW oC]
     rw[hne]at begin;rw[begin];cases nf t<;>rfl
    ·rw[af (by
      cases out with
      |nil=>exact absurd rfl hne| cons _ _=>simp only[qL];omega),hidx,qB,yc,qB]
     cases hb:bl (t.headD 0)
     ·rw[begin,qW oC]
      cases nf t<;>rfl
     ·rw[qX ⟨rfl,hne⟩];have hA2:=hA.app hne t k2;unfold qey;have ho:=hA.1;rcases List.eq_nil_or_concat out with rfl|⟨u,x,rfl⟩
      ·exact absurd rfl hne
      ·rw[List.concat_eq_append]at *;simp only[qM,qL,qZ]at ho;have hx:=(hA.2 x oC).2
       have hw:=zew u x t
       have hw2:ae (((u++[x]).length:Int)-1)=(u.length:Int):=by rw[fk,ft _ oA]
       have hg:(0<=ae (((u++[x]).length:Int)-1)/\(ae (((u++[x]).length:Int)-1)).toNat<(u++[x]).length):=by rw[hw2];simp
       rw[au,af hg,hw,show(u++[x])[u.length]? = some x by simp,qB,af oO,af (by rw[hw]at hg;exact hg),qB]
       rw[show List.set (u++[x]) u.length (x.1,x.2++t)=uq (u++[x]) t by rw[q46];simp]
       exact next _ hA2
def z2v(fu:Nat)(hfu:90000000<=fu)(b:List UInt8):qq5 fu b=some (du b):=by
 unfold qq5 du;rw[bp];split
 ·rw[qX oA];rfl
 ·rw[qW oA]
  have:=z2w fu fu hfu (0,0) b.length [] b [] (wF _) oA oB ⟨wF _,fun x hx=>by cases hx⟩
  exact this
def qv0:∀(m:Nat)(r:List UInt8)(a:Nat)(out:List aq),lm a out->a<=(hd m r a out).1/\(hd m r a out).1<=a+r.length/\lm (hd m r a out).1 (hd m r a out).2
 |0,r,a,out,h=>⟨wF _,by show a<=_;omega,h⟩|m+1,r,a,out,h=>by
  rw[hd];split
  ·exact⟨wF _,oJ,h⟩
  ·rename_i h0;have k0:=q7n r h0;obtain⟨k1,k2⟩:=q7l r;split
   ·exact⟨oJ,oJ,h.mono oJ⟩
   ·split
    ·rename_i hb;obtain⟨q1,q2,q3⟩:=qv0 m (r.drop (ln r).2) (a+(ln r).2) (uq out (ln r).1) (h.app hb.2 _ k2);rw[List.length_drop]at q2;exact⟨oA,oA,q3⟩
    ·split
     ·exact⟨wF _,oJ,h⟩
     ·rename_i x hx;obtain⟨x1,x2,_⟩:=zhk hx;obtain⟨q1,q2,q3⟩:=qv0 m (r.drop (ln r).2) (a+(ln r).2) (out++[x]) (h.snoc k0 oA oA)
      rw[List.length_drop]at q2;exact⟨oA,oA,q3⟩
def z1i{b:List UInt8}(h:(du b).2.1.1=0):b.length<=12000/\(du b).1=((hd b.length b 0 []).1:Int)/\(hd b.length b 0 []).1<=b.length/\oq (du b).2.2:=by
 unfold du at h ⊢;split at h
 ·exact absurd h oC
 ·rename_i hl;rw[qW hl];obtain⟨q1,q2,q3⟩:=qv0 b.length b 0 [] ⟨wF _,fun x hx=>by cases hx⟩
  unfold lu at h ⊢;split at h
  ·exact absurd h oC
  ·rename_i h60;rw[qW h60];unfold o9 at h ⊢;split at h
   ·exact absurd h oC
   ·refine⟨oA,rfl,oA,?_⟩
    simp only[List.nil_append];refine⟨oP,fun x hx => ?_⟩
    obtain⟨y,hy,rfl⟩:=List.mem_map.1 hx;obtain⟨y1,y2⟩:=q3.2 y hy;have:=zgf y.2;exact⟨by show y.1.length<=_;omega,by show(ne y.2).length<=_;omega⟩

def cg(l:List aq)(n:List UInt8):List (List UInt8):=(l.filter fun x=>x.1.map lo==n.map lo).map (·.2)
def yj(x:aq)(l:List aq)(n:List UInt8):cg (x::l) n=if(x.1.map lo==n.map lo)=true then x.2::cg l n else cg l n:=by
 unfold cg;rw[List.filter_cons];split<;>rfl
def z5r(fu n:Nat)(hfu:90000000<=fu)(nm:List UInt8)(hn:nm.length<=1000):∀(ab aa:List aq)(out:List (List UInt8)),aa.length<n->ab.length+aa.length<100000000->oq aa->out.length+aa.length<1000000000 ->
  qe0 fu n (ab++aa) nm (ab.length:Int) out=some (out++cg aa nm):=by
 induction n with
 |zero=>intro ab aa out h;omega|succ n ih=>
  intro ab aa out h hb hs hk;rw[qe0,qz3]
  cases aa with
  |nil=>rw[ao];simp[cg]|cons x aa=>
   simp only[qL]at h hb hk;obtain⟨q1,q2⟩:=hs.2 x qH;have next:∀out':List (List UInt8),out'.length<=out.length+1->qe0 fu n (ab++x::aa) nm (ae ((ab.length:Int)+1)) out'=some (out'++cg aa nm):=by
    intro out' hj;have:=ih (ab++[x]) aa out' oA oB hs.tail oA
    rw[ar _]
    simpa using this
   rw[qam,qL,af oA,a6,qB,qt8 fu _ _ oA oA oM oM,qB,yj]
   cases hc:x.1.map lo==nm.map lo
   ·rw[aw (by rfl),qW oF]
    exact next out oA
   ·rw[au,qX rfl,qB,af oK,next _ oC]
    simp
def zab(fu:Nat)(hfu:90000000<=fu)(l:List aq)(nm:List UInt8)(hn:nm.length<=1000)(hs:oq l):qkh fu l nm=some (cg l nm):=by
 have h1:=hs.1;have:=z5r fu fu hfu nm hn [] l [] oA oB hs oB
 exact this
def z0s(f:Bs->Bs->Option Pc):∀(n:Nat)(acc:List Pc)(s:Bs)(l:List Pc),dm f n acc s=some l->∃t,l=acc++t:=by
 intro n
 induction n with
 |zero=>intro acc s l h;cases h
 |succ n ih=>
  intro acc s l h;rw[dm]at h
  cases ht:be s with
  |nil=>rw[ht]at h;cases h;exact⟨[],oC⟩
  |cons c t=>
   rw[ht]at h;simp only at h;by_cases hc:c=59
   ·rw[qX hc]at h
    cases hx:tj t with
    |none=>rw[hx]at h;cases h
    |some x=>
     rw[hx]at h;simp only at h
     cases hp:f x.1.1 x.1.2 with
     |none=>rw[hp]at h;cases h
     |some p=>
      rw[hp]at h;simp only at h;obtain⟨u,e⟩:=ih _ _ _ h;exact⟨p::u,by rw[e];simp⟩
   ·rw[qW hc]at h;cases h
def small(p:Pc):Prop:=p.2.1<1000000000
def z0r:∀(n:Nat)(acc:List Pc)(s:Bs),(∀p∈acc,small p)->(∀l,dm gu n acc s=some l->(∀p∈l,small p)->dm jc n acc s=some l) /\
  (∀l,dm gu n acc s=some l->(∃p∈l,¬small p)->dm jc n acc s=none)/\(dm gu n acc s=none->dm jc n acc s=none):=by
 intro n
 induction n with
 |zero=>intro acc s _;exact⟨fun l h=>(nomatch h),fun l h=>(nomatch h),fun _=>rfl⟩
 |succ n ih=>
  intro acc s ha;rw[dm,dm]
  cases ht:be s with
  |nil=>exact⟨fun l h _=>h,fun l h hb=>(by cases h;obtain⟨p,hp,hq⟩:=hb;exact absurd (ha p hp) hq),fun h=>h⟩
  |cons c t=>
   simp only;by_cases hc:c=59
   ·rw[qX hc,qX hc]
    cases hx:tj t with
    |none=>exact⟨fun l h=>(nomatch h),fun l h=>(nomatch h),fun _=>rfl⟩
    |some x=>
     simp only;unfold jc
     cases hp:gu x.1.1 x.1.2 with
     |none=>exact⟨fun l h=>(nomatch h),fun l h=>(nomatch h),fun _=>rfl⟩
     |some p=>
      simp only;by_cases hs:p.2.1<1000000000
      ·simp only[qX hs];exact ih (acc++[p]) x.2 (fun y hy=>(List.mem_append.1 hy).elim (ha y) (fun e=>by rw[List.mem_singleton.1 e];exact hs))
      ·simp only[qW hs];refine⟨fun l h hall => ?_,fun _ _ _=>by first|rfl|trivial,fun _=>by first|rfl|trivial⟩
       obtain⟨u,e⟩:=z0s gu n _ _ _ h;exact absurd (hall p (by rw[e];simp)) hs
   ·rw[qW hc,qW hc];exact⟨fun l h=>(nomatch h),fun l h=>(nomatch h),fun _=>rfl⟩
def z0t:∀(n:Nat)(acc:List Pc)(s:Bs)(l:List Pc),dm gu n acc s=some l->c8 l<=c8 acc+s.length/\((∀p∈acc,nb p)->∀p∈l,nb p):=by
 intro n
 induction n with
 |zero=>intro acc s l h;cases h
 |succ n ih=>
  intro acc s l h;have hl:=mg s;rw[dm]at h
  cases ht:be s with
  |nil=>rw[ht]at h;cases h;exact⟨Nat.le_add_right _ _,fun h=>h⟩
  |cons c t=>
   rw[ht]at h hl;simp only[qL]at h hl;by_cases hc:c=59
   ·rw[qX hc]at h
    cases hx:tj t with
    |none=>rw[hx]at h;cases h
    |some x=>
     rw[hx]at h;simp only at h;have hxl:=(q7i (n:=x.1.1) (v:=x.1.2) (t:=x.2) hx).1
     cases hp:gu x.1.1 x.1.2 with
     |none=>rw[hp]at h;cases h
     |some p=>
      rw[hp]at h;simp only at h;obtain⟨g1,g2,g3,g4,_⟩:=zjz hp;obtain⟨e1,e2⟩:=ih _ _ _ h;rw[zmj,g2]at e1;exact⟨oA,fun hh=>e2 (fun y hy=>(List.mem_append.1 hy).elim (hh y) (fun e=>by rw[List.mem_singleton.1 e];exact⟨g3,g4⟩))⟩
   ·rw[qW hc]at h;cases h
def zjd:∀(q:List Pc)(k:Int),pg q k->∀x∈q,x.2.1<k+q.length
 |[],_,_,_,h=>by cases h
 |p::r,k,h,x,hx=>by
  simp only[qL];rcases List.mem_cons.1 hx with e|e
  ·subst e;have:=h.1;omega
  ·have:=zjd r _ h.2 x e;omega
def zil{a b c:Bs}(h1:lk a b=true)(h2:lk b c=true):lk a c=true:=by
 unfold lk at *;simp only[beq_iff_eq]at *;rw[h1,h2]
def zy2(l:List Pc){a b:Bs}(h:lk a b=true):cw a l=cw b l:=by
 unfold cw;congr 1;funext x;rw[Bool.eq_iff_iff];exact⟨fun g=>zil g h,fun g=>zil g (by rw[q7j];exact h)⟩
def zzv(l:List Pc):∀(aa ab:List Pc)(out:List ce),l=ab++aa->(gq ab aa out).1=true->(∀x∈ab,vd (cw x.1 l)≠none)->∀x∈l,vd (cw x.1 l)≠none:=by
 intro aa
 induction aa with
 |nil=>intro ab out hl _ hp;rw[hl,List.append_nil];rw[hl,List.append_nil]at hp;exact hp|cons p aa ih=>
  intro ab out hl h hp;rw[gq]at h;by_cases hany:ab.any (fun x=>lk x.1 p.1)=true
  ·rw[qX hany]at h;refine ih (ab++[p]) out (by rw[hl];simp) h (fun x hx => ?_)
   rcases List.mem_append.1 hx with g|g
   ·exact hp x g
   ·rw[List.mem_singleton.1 g];obtain⟨y,hy,hk⟩:=List.any_eq_true.1 hany;rw[← zy2 l hk];exact hp y hy
  ·rw[qW hany,← hl]at h
   cases hj:vd (cw p.1 l) with
   |none=>rw[hj]at h;cases h
   |some v=>
    rw[hj]at h;refine ih (ab++[p]) _ (by rw[hl];simp) h (fun x hx => ?_)
    rcases List.mem_append.1 hx with g|g
    ·exact hp x g
    ·rw[List.mem_singleton.1 g,hj];simp
def zxk(A:List Pc)(hn:∀x∈A,nb x)(hl:A.length<=300000)(h:vd A≠none):∀x∈A,small x:=by
 cases A with
 |nil=>intro x hx;cases hx
 |cons p l=>
  rw[qwb]at h;by_cases h0:p.2.1<0
  ·rw[qX h0]at h;by_cases h1:l=[]
   ·subst h1;intro x hx;rw[List.mem_singleton.1 hx];unfold small;omega
   ·rw[qW h1]at h;exact absurd rfl h
  ·rw[qW h0]at h;obtain⟨_,h2,_⟩:=q9k (p::l) hn
   have hnum:pg (je (p::l)) 0:=by
    by_cases hq:pg (je (p::l)) 0
    ·exact hq
    ·rw[zim _ _ _ hq]at h;exact absurd rfl h
   intro x hx;have:=zjd _ 0 hnum x (h2.mem_iff.2 hx);rw[h2.length_eq]at this;unfold small;omega
def zzw(l:List Pc)(hn:∀x∈l,nb x)(hl:l.length<=300000)(hb:∃p∈l,¬small p):(gq [] l []).1=false:=by
 cases h:(gq [] l []).1
 ·rfl
 ·obtain⟨p,hp,hq⟩:=hb;have:=zzv l l [] [] rfl h oC p hp
  refine absurd (zxk (cw p.1 l) (fun x hx=>hn x (List.mem_filter.1 hx).1) ?_ this p (List.mem_filter.2 ⟨hp,q7k _⟩)) hq
  have:=List.length_filter_le (fun x:Pc=>lk x.1 p.1) l
  unfold cw;omega
def xv(s:Bs):Option eg:=match qp gu s with|none=>none|some m=>if(gq [] m.2.2 []).1=true then some (m.1,(m.2.1,(gq [] m.2.2 []).2)) else none
def zjv{f:Bs->Bs->Option Pc}{s:Bs}{m:Bs×Bs×List Pc}(h:qp f s=some m):∃c,dm f (s.length+1) [] c=some m.2.2/\c.length+m.1.length+m.2.1.length<=s.length:=by
 have l1:=qdx tk s;have l2:=qhy 47 (ci tk s).2;have l3:=qdx tk (dj 47 (ci tk s).2).2;unfold qp at h;simp only at h;split at h
 ·cases h
 ·cases hp:dm f (s.length+1) [] (ci tk (dj 47 (ci tk s).2).2).2 with
  |none=>rw[hp]at h;cases h
  |some l=>
   rw[hp]at h;cases h;exact⟨_,hp,oJ⟩
def zjw{s:Bs}{m:Bs×Bs×List Pc}(h:qp gu s=some m):c8 m.2.2<=s.length/\∀p∈m.2.2,nb p:=by
 obtain⟨c,h1,h2⟩:=zjv h;obtain⟨g1,g2⟩:=z0t _ _ _ _ h1;exact⟨by simp[c8]at g1 ⊢;omega,g2 oC⟩
def zzx(l:List Pc)(hz:c8 l<=300000):∀(aa ab:List Pc)(out:List ce),l=ab++aa->out.length<=ab.length->(∀x∈out,x.1.length<=4000000/\x.2.length<=4000000)->ou (gq ab aa out).2:=by
 have hll:=po l;intro aa
 induction aa with
 |nil=>intro ab out hl ho hs;rw[hl]at hll;simp at hll;exact⟨by rw[gq];simp only;rw[hl]at hz;simp at hz;omega,hs⟩|cons p aa ih=>
  intro ab out hl ho hs;rw[gq];have hpl:=qh0 (show p∈l by rw[hl];simp)
  split
  ·exact ih (ab++[p]) out (by rw[hl];simp) oB hs
  ·rw[← hl]
   cases hj:vd (cw p.1 l) with
   |none=>exact⟨oC,oC⟩|some v=>
    refine ih (ab++[p]) _ (by rw[hl];simp) oB (fun x hx => ?_)
    rcases List.mem_append.1 hx with g|g
    ·exact hs x g
    ·rw[List.mem_singleton.1 g];refine⟨oJ,?_⟩
     simp only;have hzf:=q9v (fun x=>lk x.1 p.1) l
     have hN:cw p.1 l=l.filter fun x=>lk x.1 p.1:=rfl
     rw[hN]at hj;generalize l.filter (fun x=>lk x.1 p.1)=A at hj hzf
     cases A with
     |nil=>cases hj
     |cons a A=>
      rw[qwb]at hj;split at hj
      ·split at hj
       ·cases hj
        have:=qh0 (qH (a:=a) (l:=A));omega
       ·cases hj
      ·cases hL:nj (je (a::A)) 0 [] with
       |none=>rw[hL]at hj;cases hj
       |some w=>
        rw[hL]at hj;cases hj;have:=z5s w.length false w;have hw:w.length<=c8 (je (a::A)):=by
         have hnum:=q7t _ _ _ _ hL;rw[q7u _ _ _ hnum]at hL;cases hL
         generalize je (a::A)=q;clear hnum
         induction q with
         |nil=>simp|cons y q ih2=>
          have:=qpp y;simp only[List.nil_append]at ih2 ⊢;rw[List.flatMap_cons,qM,qdw];omega
        have hq:c8 (je (a::A))<=c8 (a::A):=by
         unfold je
         cases ht:t8 (a::A) with
         |none=>simp[c8]|some q=>
          have h1:=(zl6 q).1.map (·.1);simp only;rw[q9w h1]
          have e:q.map (·.1)=a::A:=by
           clear h1 hL hzf hw this;generalize a::A=B at ht
           induction B generalizing q with
           |nil=>cases ht;rfl
           |cons b B ih3=>
            rw[t8]at ht;split at ht
            ·cases hB:t8 B with
             |none=>rw[hB]at ht;cases ht
             |some r=>rw[hB]at ht;cases ht;simp[ih3 r hB]
            ·cases ht
          rw[e];exact wF _
        show(vu [239,191,189] w.length false w).length<=4000000;omega
def q7y{s:Bs}{m:eg}(h:xv s=some m)(hs:s.length<=300000:=by omega):SmD m:=by
 unfold xv at h
 cases hp:qp gu s with
 |none=>rw[hp]at h;cases h
 |some x=>
  rw[hp]at h;simp only at h;split at h
  ·cases h
   obtain⟨c,_,h2⟩:=zjv hp;obtain⟨h3,_⟩:=zjw hp;exact⟨oJ,oJ,zzx x.2.2 oA x.2.2 [] [] rfl oC oC⟩
  ·cases h
def zyv(fu:Nat)(hfu:90000000<=fu)(s:Bs)(h:s.length<=300000:=by omega):qjs fu s=some (match xv s with|some m=>(m,true)|none=>bad):=by
 rw[z2x fu hfu s h];unfold xv;have hR:=fun c=>z0r (s.length+1) [] c oC
 unfold qp;simp only;by_cases hc:(ci tk s).1=[]\/(dj 47 (ci tk s).2).1=false\/(ci tk (dj 47 (ci tk s).2).2).1=[]
 ·rw[qX hc,qX hc]
 ·rw[qW hc,qW hc];obtain⟨r1,r2,r3⟩:=hR (ci tk (dj 47 (ci tk s).2).2).2
  cases hp:dm gu (s.length+1) [] (ci tk (dj 47 (ci tk s).2).2).2 with
  |none=>rw[r3 hp];rfl|some l=>
   simp only[wQ];have hsz:c8 l<=s.length/\∀p∈l,nb p:=zjw (s:=s) (m:=((ci tk s).1,(ci tk (dj 47 (ci tk s).2).2).1,l)) (by unfold qp;simp only;rw[qW hc,hp];rfl)
   have hll:=po l;by_cases hall:∀p∈l,small p
   ·rw[r1 l hp hall];simp only[wQ];have:=z2p fu hfu l oA hsz.2 [] [] (ci tk s).1 (ci tk (dj 47 (ci tk s).2).2).1 fu [] l [] rfl oA oC
    rw[show(([]:List Pc).length:Int)=0 from rfl]at this
    rw[this];cases (gq [] l []).1<;>rfl
   ·have hb:∃p∈l,¬small p:=by
     apply Classical.byContradiction;intro hq;exact hall (fun p hp2=>Classical.byContradiction fun hq2=>hq ⟨p,hp2,hq2⟩)
    rw[r2 l hp hb,zzw l hsz.2 oA hb];rfl
def xy(s:Bs):Option eg:=if 4000<s.length then none else match xv s with|none=>none|some m=>if(ig m).1≠0 then none else some m
def zyk(fu:Nat)(hfu:90000000<=fu)(s:Bs)(h:s.length<=4000000):∃R,ql6 fu s=some R/\match xy s with
  |some m=>R = .inr (m.1,(m.2.1,(0,(0,m.2.2))))|none=>∃f:Int×Int,R = .inl ([],([],f))/\f.1≠0:=by
 unfold ql6 xy;by_cases h4:4000<s.length
 ·rw[af oA,qX h4];exact⟨_,rfl,_,rfl,oF⟩
 rw[ao,qW h4]
 obtain⟨R,g1,g2⟩:=zys fu hfu (fun l=>gq [] l []) (fun l hl hn=>zzt fu hfu l hl hn) s
 rw[g1,qB];have hfail:qc5 R->∃R',(bz R (fun a3=>bif !a3.2.2 then(cd (11:Int) (-5:Int)).bind fun x5=>some (.inl (([]:Bs),(([]:Bs),x5))) else(wv fu (a3.1,(a3.2.1,[]))).bind fun x6=>(ef x6).bind fun x7=>bif x7 then(cd x6.1 (-6:Int)).bind fun x8=>some (.inl (([]:Bs),(([]:Bs),x8))) else(dh).bind fun x9=>some (.inl (a3.1,(a3.2.1,x9)))) (fun b4=>bif !b4.2.2.1 then(cd (11:Int) (-5:Int)).bind fun x10=>some (.inl (([]:Bs),(([]:Bs),x10))) else(wv fu (b4.1,(b4.2.1,b4.2.2.2))).bind fun x11=>(ef x11).bind fun x12=>bif x12 then(cd x11.1 (-6:Int)).bind fun x13=>some (.inl (([]:Bs),(([]:Bs),x13))) else(dh).bind fun x14=>some (.inr (b4.1,(b4.2.1,(x14.1,(x14.2,b4.2.2.2)))))):Option zd2)=some R'/\∃f:Int×Int,R' = .inl ([],([],f))/\f.1≠0:=by
  intro hf
  cases R with|inl x=>unfold qc5 at hf;simp only at hf;simp only[bz,hf];exact⟨_,rfl,_,rfl,oF⟩|inr x=>unfold qc5 at hf;simp only at hf;simp only[bz,hf];exact⟨_,rfl,_,rfl,oF⟩
 unfold xv
 cases hp:qp gu s with
 |none=>rw[hp]at g2;exact hfail g2|some m=>
  rw[hp]at g2;simp only at g2 ⊢;by_cases ht:(gq [] m.2.2 []).1=true
  ·rw[qX ht]at g2;subst g2;have hsz:=q7y (s:=s) (m:=(m.1,(m.2.1,(gq [] m.2.2 []).2))) (by unfold xv;rw[hp];simp only;rw[qX ht]) oA
   simp only[bz,qX ht];rw[bq,q70 fu hfu _ hsz,qB,ji,qB,dz];by_cases h0:(ig (m.1,(m.2.1,(gq [] m.2.2 []).2))).1≠0
   ·rw[qX h0,qX h0];exact⟨_,rfl,_,rfl,h0⟩
   ·rw[qW h0,qW h0];exact⟨_,rfl,rfl⟩
  ·rw[qW ht]at g2 ⊢;exact hfail g2
def z0j{s:Bs}{m:eg}(h:xy s=some m):SmD m/\(ig m).1=0:=by
 unfold xy at h;split at h
 ·cases h
 ·rename_i h4
  cases hm:xv s with
  |none=>rw[hm]at h;cases h
  |some x=>
   rw[hm]at h;simp only at h;split at h
   ·cases h
   ·rename_i h0;cases h
    exact⟨q7y hm,Classical.byContradiction h0⟩
open Go.Lib (decDigits itoa validD)
def dgH(c:UInt8):UInt8:=(rx (yi c (min (4:Int).toNat 8))).getD 0
def dgL(c:UInt8):UInt8:=(rx c).getD 0
def zuy:∀n:_root_.Fin 256,rx (yi (UInt8.ofNat n.val) (min (4:Int).toNat 8))=some (dgH (UInt8.ofNat n.val))/\rx (UInt8.ofNat n.val)=some (dgL (UInt8.ofNat n.val)):=by decide +kernel
def two(c:UInt8):Bs:=[dgH c,dgL c]
def q95(c:UInt8):(two c).length=2:=rfl
def zuz(c:UInt8):rx (yi c (min (4:Int).toNat 8))=some (dgH c)/\rx c=some (dgL c)/\[dgH c,dgL c]=two c:=
 have h:=jh (fun c=>rx (yi c (min (4:Int).toNat 8))=some (dgH c)/\rx c=some (dgL c)) zuy c
 ⟨h.1,h.2,rfl⟩
def qxr:∀n:_root_.Fin 256,uh (UInt8.ofNat n.val)=some (two (UInt8.ofNat n.val)):=by decide +kernel
def zm1(c:UInt8):uh c=some (two c):=jh (fun c=>uh c=some (two c)) qxr c
def ko(c:UInt8):Bs:=if tk c=true then[c] else 37::two c
def zaa(c:UInt8):1<=(ko c).length/\(ko c).length<=3:=by
 unfold ko;split
 ·simp
 ·rw[qL,q95];omega
def io(cur:Bs):Bs->List Bs|[]=>[cur]|c::t=>if cur.length+(ko c).length<=60 then io (cur++ko c) t else cur::io (ko c) t
def qwu:∀(t cur:Bs),(io cur t).length<=t.length+1/\1<=(io cur t).length
 |[],_=>by simp[io]|c::t,cur=>by
  rw[io];split
  ·have:=qwu t (cur++ko c);simp only[qL];omega
  ·have:=qwu t (ko c);simp only[qL];omega
def qwv:∀(t cur:Bs),cur.length<=60->∀x∈io cur t,x.length<=60
 |[],cur,h,x,hx=>by rw[io,List.mem_singleton]at hx;rw[hx];exact h|c::t,cur,h,x,hx=>by
  have hu:=zaa c;rw[io]at hx;split at hx
  ·exact qwv t _ oN x hx
  ·rcases List.mem_cons.1 hx with e|e
   ·rw[e];exact h
   ·exact qwv t _ oA x e
def nr(nm:Bs):Nat->List Bs->Bs|_,[]=>[]|n,p::ps=>(((((([59,32]:Bs)++nm)++([42]:Bs))++decDigits n)++([42,61]:Bs))++p)++nr nm (n+1) ps
def zjf(nm:Bs)(hn:nm.length<=1000):∀(ps:List Bs)(n:Nat),n+ps.length<=100000000->(∀x∈ps,x.length<=60)->(nr nm n ps).length<=ps.length*1200
 |[],_,_,_=>by simp[nr]|p::ps,n,h,hs=>by
  simp only[qL]at h;have h1:=zjf nm hn ps (n+1) oA (fun x hx=>hs x (qE _ hx))
  have h2:=hs p qH;have h3:=qoc 9 n oA oA
  rw[nr];simp only[qM,qL,qZ];omega
def z0c(fu n:Nat):∀(ab aa cur:Bs)(done:List Bs),aa.length<n->ab.length+aa.length<1000000->done.length<=ab.length->cur.length<=60 ->
  qfw fu n (ab++aa) ((ab.length+aa.length:Nat):Int) (ab.length:Int) (done++[cur])=some (done++io cur aa):=by
 have hrm:=iq
 induction n with
 |zero=>intro ab aa cur done h;omega|succ n ih=>
  intro ab aa cur done h hb hd hc;rw[qfw,q2j]
  cases aa with
  |nil=>rw[ao];rfl|cons c t=>
   simp only[qL]at h hb;have hu:=zaa c;have e:(ab.length+(c::t).length:Nat)=ab.length+1+t.length:=by simp only[qL];omega
   have p1:qmh fu (qfw fu n) (ab++c::t) (ko c) ((ab.length+(c::t).length:Nat):Int) (ab.length:Int) (done++[cur])=some (done++io cur (c::t)):=by
    have hl:(((done++[cur]).length:Nat):Int)-1=(done.length:Int):=oC
    rw[qmh,hl,bt,af oC,ic,qB,qx _ _,io,ar _,e]
    have st:=fun cur' done'(h1:done'.length<=ab.length+1)(h2:cur'.length<=60)=>ih (ab++[c]) t cur' done' oA oB (by simpa using h1) h2
    simp only[qM,qL,qZ,qS,wM,wO]at st;by_cases h60:cur.length+(ko c).length<=60
    ·rw[af oA,qX h60,af oC,qB,af oO,af oC,qB,pm]
     exact st (cur++ko c) done oA oN
    ·rw[ao,qW h60,af oR]
     have:=st (ko c) (done++[cur]) oB oA
     refine this.trans ?_;simp
   rw[af oG,ar _,af oI,a6,qB,qpq,qB,qpj]
   rw[ko]at p1;obtain⟨d1,d2,d3⟩:=zuz c;cases hk:tk c
   ·rw[cu,qB,d1,qB,qB,d2,qB];rw[hk,qW oC,← d3]at p1
    exact p1
   ·rw[bq];rw[hk,qX rfl]at p1;exact p1
def tp:Bs:=[117,116,102,56,39,39]
def zyt(fu:Nat)(hfu:90000000<=fu)(v:Bs)(h:v.length<=500000:=by omega):qsk fu v=some (io tp v):=by
 have:=z0c fu fu [] v tp [] oA oB oC oF
 simpa [qsk,tp] using this
def ip(c:UInt8):Bool:=decide (32<=c)&&decide (c<=126)
def z0p(c:UInt8):qma c=some (ip c):=by unfold qma ip;by_cases h:(32:UInt8)<=c<;>simp[h]
def zsb(fu:Nat)(s:Bs)(h:s.length<fu:=by omega)(hb:s.length<9223372036854775807:=by omega):qry fu s=some (s.all ip):=by
 have e:∀n,qlk fu n=qcw qma n:=by
  intro n;induction n with|zero=>rfl|succ n ih=>rw[qlk,ih];funext a b c;rfl
 unfold qry;rw[e];exact q43 _ _ z0p _ _ h hb
def quo(s:Bs):Bs:=fe 92 34 [92,92] [92,34] s
def q81(s:Bs):(quo s).length<=2*s.length:=by
 unfold quo;rw[qvf oF]
 have h1:=List.count_le_length (a:=(92:UInt8)) (l:=s);unfold kw;have:List.count 92 s+List.count 34 s<=s.length:=by
  induction s with
  |nil=>simp|cons c s ih=>
   have h1:=List.count_le_length (a:=(92:UInt8)) (l:=s);have:=ih h1;simp only[List.count_cons,qL];by_cases e:c=92
   ·subst e;simp;omega
   ·have:(c==92)=false:=by simpa using e
    rw[this];simp only[wJ,if_false];split<;>omega
 omega
def nv(p:ce):Bs:=if fq p.2=true then((([59,32]:Bs)++p.1)++([61]:Bs))++p.2
 else if p.2.length<=60/\p.2.all ip=true then((((([59,32]:Bs)++p.1)++([61,34]:Bs))++quo p.2)++([34]:Bs))
 else nr p.1 0 (io tp p.2)
def zzr(fu n:Nat)(z:ce)(hz:z.1.length<=1000):∀(ab aa:List Bs)(out:Bs),aa.length<n->ab.length+aa.length<1000000->out.length<=ab.length*1200->(∀x∈aa,x.length<=60) ->
  qmb fu n out ((ab.length+aa.length:Nat):Int) (ab.length:Int) z (ab++aa)=some (out++nr z.1 ab.length aa):=by
 induction n with
 |zero=>intro ab aa out h;omega|succ n ih=>
  intro ab aa out h hb ho hs;rw[qmb,q2c]
  cases aa with
  |nil=>rw[ao];simp[nr]|cons p t=>
   simp only[qL]at h hb;have hp:=hs p qH;have hd:=qoc 9 ab.length oA oA
   rw[af oG,af oC,ic,qB,af oE,af oE]
   have hi:om (ab.length:Int)=some (decDigits ab.length):=by unfold om;rw[af oA,qwa]
   rw[hi,qB,af oE,af oE,af oE,af oE,ar _]
   have st:=ih (ab++[p]) t (out++((((((([59,32]:Bs)++z.1)++([42]:Bs))++decDigits ab.length)++([42,61]:Bs))++p))) oA oB oR (fun x hx=>hs x (qE _ hx))
   simp only[qM,qL,qZ,wO]at st;rw[show(ab.length+(p::t).length:Nat)=ab.length+1+t.length by simp only[qL];omega]
   rw[show(ab++[p])++t=ab++p::t by simp]at st
   refine st.trans ?_;rw[nr,qS]
def zzs(fu:Nat)(hfu:90000000<=fu)(p:ce)(h1:p.1.length<=1000)(h2:p.2.length<=100000):qsh fu p=some (nv p):=by
 unfold qsh nv;rw[qxp fu _,qB]
 cases ht:fq p.2
 ·rw[aw rfl,qW oC]
  have hno:qfs fu false p=some (nr p.1 0 (io tp p.2)):=by
   rw[qfs,aw rfl,q2d,zyt fu hfu _,qB]
   have hl:=qwu p.2 tp;have:=zzr fu fu p h1 [] (io tp p.2) [] oA oB oC (qwv _ _ oF)
   simpa using this
  by_cases h60:p.2.length<=60
  ·rw[af oA,zsb fu _,qB]
   cases ha:p.2.all ip
   ·rw[hno,qW oC]
   ·rw[qX ⟨h60,rfl⟩,qfs,au rfl,af oE,af oE]
    have hq:=q81 p.2;rw[show qm6 ([([92]:Bs),([92,92]:Bs),([34]:Bs),([92,34]:Bs)]:List Bs)=some (0,0,0,[[92],[92,92],[34],[92,34]]) by rfl,qB]
    have hr:zu p.2 0 0 0 [[92],[92,92],[34],[92,34]]=some (quo p.2):=by
     unfold zu quo;simp only;rw[af (by refine⟨?_,?_,oF,oA⟩<;>first|rfl|trivial)]
    rw[hr,qB,af oE,af oE]
  ·rw[ao,hno,qW oA]
 ·rw[au rfl,qX rfl,af oE,af oE,af oE]
def zj4(p:ce)(h1:p.1.length<=1000)(h2:p.2.length<=100000):(nv p).length<=200000000:=by
 have hq:=q81 p.2;have hl:=qwu p.2 tp;have hn:=zjf p.1 h1 (io tp p.2) 0 oA (qwv _ _ oF)
 unfold nv;split
 ·simp;omega
 ·split
  ·simp;omega
  ·omega
def ej(m:eg):Bs:=((m.1++([47]:Bs))++m.2.1)++m.2.2.flatMap nv
def SmV(m:eg):Prop:=m.1.length<=1000/\m.2.1.length<=1000/\m.2.2.length<=1000/\∀p∈m.2.2,p.1.length<=1000/\p.2.length<=100000
def zmu{s:Bs}(h:fq s=true):s.length<=60:=by unfold fq at h;simp at h;exact h.1.2
def zju:∀(l ab:List ce),(nu ab l).1=0->∀p∈l,fq p.1=true/\p.1.length<=20/\p.2.length<=500/\validD p.2=true
 |[],_,_,p,hp=>by cases hp
 |q::l,ab,h,p,hp=>by
  rw[nu]at h;split at h
  ·cases h
  ·split at h
   ·cases h
   ·split at h
    ·cases h
    ·split at h
     ·cases h
     ·rename_i g1 g2 g3 g4;rcases List.mem_cons.1 hp with e|e
      ·subst e;refine⟨?_,oA,oA,?_⟩
       ·cases hh:fq p.1
        ·exact absurd (.inl hh) g1
        ·rfl
       ·cases hh:validD p.2
        ·exact absurd hh g4
        ·rfl
      ·exact zju l _ h p e
def ziv{m:eg}(h:(ig m).1=0):fq m.1=true/\fq m.2.1=true/\m.2.2.length<=60/\∀p∈m.2.2,fq p.1=true/\p.1.length<=20/\p.2.length<=500/\validD p.2=true:=by
 unfold ig at h;split at h
 ·cases h
 ·split at h
  ·cases h
  ·rename_i g1 g2;refine⟨?_,?_,oA,zju _ _ h⟩
   ·cases hh:fq m.1
    ·exact absurd (.inl hh) g1
    ·rfl
   ·cases hh:fq m.2.1
    ·exact absurd (.inr hh) g1
    ·rfl
def vi{m:eg}(h:(ig m).1=0):SmV m:=by
 obtain⟨h1,h2,h3,h4⟩:=ziv h;have:=zmu h1;have:=zmu h2;exact⟨oA,oA,oA,fun p hp=>by have:=h4 p hp;omega⟩
def SmV.smD{m:eg}(h:SmV m):SmD m:=⟨by have:=h.1;omega,by have:=h.2.1;omega,by have:=h.2.2.1;omega,fun x hx=>by have:=h.2.2.2 x hx;omega⟩
def z0o(fu n:Nat)(hfu:90000000<=fu)(z:Int×Int):∀(ab aa:List ce)(out:Bs),aa.length<n->ab.length+aa.length<=1000->(∀p∈aa,p.1.length<=1000/\p.2.length<=100000)->out.length<=3000+ab.length*200000000 ->
  ql7 fu n out (ab++aa) ((ab.length+aa.length:Nat):Int) (ab.length:Int) z=some (if 4000<(out++aa.flatMap nv).length then([],(1,-4)) else(out++aa.flatMap nv,(0,0))):=by
 induction n with
 |zero=>intro ab aa out h;omega|succ n ih=>
  intro ab aa out h hb hs ho;rw[ql7,q17]
  cases aa with
  |nil=>
   rw[ao]
   simp only[List.flatMap_nil,List.append_nil];by_cases h4:4000<out.length
   ·rw[af oA,qX h4,ql];rfl
   ·rw[ao,qW h4,zyp];rfl
  |cons p t=>
   simp only[qL]at h hb;have hp:=hs p qH;have hpl:=zj4 p hp.1 hp.2;rw[af oG,a6,qB,zzs fu hfu p hp.1 hp.2,qB,af oO,ar _]
   have st:=ih (ab++[p]) t (out++nv p) oA oB (fun x hx=>hs x (qE _ hx)) oB
   simp only[qM,qL,qZ,wO]at st;rw[show(ab++[p])++t=ab++p::t by simp]at st
   rw[show(ab.length+(p::t).length:Nat)=ab.length+1+t.length by simp only[qL];omega]
   refine st.trans ?_;simp only[List.flatMap_cons,qS,qM,Nat.add_assoc]
def zj2(fu:Nat)(hfu:90000000<=fu)(m:eg)(hs:SmD m):qfp fu m=some (if(ig m).1≠0 then([],ig m) else if 4000<(ej m).length then([],(1,-4)) else(ej m,(0,0))):=by
 unfold qfp;rw[q70 fu hfu m hs,qB,ji,qB,dz];by_cases h:(ig m).1≠0
 ·rw[qX h,qX h]
 ·rw[qW h,qW h];obtain⟨g1,g2,g3,g4⟩:=vi (m:=m) oA
  rw[af oE,af oE]
  have:=z0o fu fu hfu (0,0) [] m.2.2 ((m.1++([47]:Bs))++m.2.1) oA oB g4 oB
  simpa [ej] using this
def z05(fu n:Nat):∀(ab aa out:Bs),aa.length<n->ab.length+aa.length<1000000->out.length<=1+2*ab.length ->
  qbq fu n (ab++aa) out (ab.length:Int)=some ((out++quo aa)++[34]):=by
 induction n with
 |zero=>intro ab aa out h;omega|succ n ih=>
  intro ab aa out h hb ho;rw[qbq,qzn]
  cases aa with
  |nil=>rw[ao,af oE];simp[quo,fe]|cons c t=>
   simp only[qL]at h hb;have st:=fun o(ho:List.length o<=1+2*(ab.length+1))=>ih (ab++[c]) t o oA oB (by simpa using ho)
   simp only[qM,qL,qZ,qS,wM,wO]at st;have y:qbr fu (qbq fu n) (ab++c::t) out (ab.length:Int) true=some ((out++([92,c]++quo t))++[34]):=by
    rw[qbr,au rfl,af oE,ar _,af oI,qpj,af oE]
    refine(st (out++[92]++[c]) oB).trans ?_
    simp
   have nn:qbr fu (qbq fu n) (ab++c::t) out (ab.length:Int) false=some ((out++([c]++quo t))++[34]):=by
    rw[qbr,aw rfl,ar _,af oI,qpj,af oE]
    refine(st (out++[c]) oB).trans ?_
    simp
   have hq:quo (c::t)=sx 92 34 [92,92] [92,34] c++quo t:=by unfold quo fe;rw[List.flatMap_cons]
   rw[af oI,a6,qB,gy,hq]
   unfold sx;by_cases h1:c=34
   ·subst h1;rw[qX rfl,y];rfl
   ·rw[qW h1,qB];by_cases h2:c=92
    ·subst h2;rw[show((92:UInt8)==92)=true from rfl,y];rfl
    ·rw[show(c==92)=false by simpa using h2,nn,qW h2,qW h1]
def z2u(fu:Nat)(hfu:90000000<=fu)(s:Bs)(h:s.length<=100000):qq4 fu s=some (([34]++quo s)++[34]):=by
 have:=z05 fu fu [] s [34] oA oB oC
 simpa [qq4] using this
def z2s(fu n:Nat)(hfu:90000000<=fu)(z:ce)(hz:z.1.length<=1000):∀(ab aa cur out:Bs)(k:Nat),z.2=ab++aa->aa.length<n->z.2.length<=100000->k<=ab.length->cur.length<=60->out.length<=k*1200 ->
  qet fu n out cur (k:Int) (ab.length:Int) z=some (out++nr z.1 k (io cur aa)):=by
 induction n with
 |zero=>intro ab aa cur out k _ h;omega|succ n ih=>
  intro ab aa cur out k hzz h hb hk hc ho;have ac:z.2.length=ab.length+aa.length:=by rw[hzz];simp
  have hd:=qoc 9 k oA oA
  rw[qet,qzm]
  cases aa with
  |nil=>
   rw[ao (by simp only[qZ]at ac;omega),af oE,af oE,af oE,qhp fu oA k,qB,af oE,af oE,af oE]
   rw[io,nr,nr];simp
  |cons c t=>
   simp only[qL]at h ac;have hu:=zaa c;have hx:ai z.2 (ab.length:Int)=some c:=by rw[hzz];exact a6 ab c t
   have st:=fun cur' out' k'(h1:k'<=ab.length+1)(h2:List.length cur'<=60)(h3:List.length out'<=k'*1200)=>ih (ab++[c]) t cur' out' k' (by rw[hzz];simp) oA hb (by simpa using h1) h2 h3
   simp only[qM,qL,qZ,wO]at st;have p3:qj6 fu (qet fu n) out cur (k:Int) (ab.length:Int) (ko c) z=some (out++nr z.1 k (io cur (c::t))):=by
    rw[qj6,qx _ _,io]
    by_cases h60:cur.length+(ko c).length<=60
    ·rw[ao,qX h60,qj7,af oO,qq3,ar _]
     exact st (cur++ko c) out k oA oN ho
    ·rw[af oA,qW h60,af oE,af oE,af oE,qhp fu oA k,qB,af oE,af oE,af oE,qj7,af oE,qq3,ar _,ar _,List.nil_append]
     refine(st (ko c) _ (k+1) oA oA oR).trans ?_
     rw[nr];simp
   rw[af oA,hx,qB,zm1,qB,af (by rw[q95];simp[ap]),qB,q9f fu oA,qB]
   rw[ko]at p3;cases hk2:tk c
   ·rw[aw rfl];rw[hk2,qW oC]at p3
    exact p3
   ·rw[au rfl,ar _,af oA]
    rw[hk2,qX rfl]at p3;have e:List.take (((ab.length+1:Nat):Int).toNat-((ab.length:Nat):Int).toNat) (List.drop ((ab.length:Nat):Int).toNat z.2)=[c]:=by rw[hzz];exact qpj ab c t
    rw[e];exact p3
def z2r(fu n:Nat)(hfu:90000000<=fu)(z:ce)(hz:z.1.length<=1000)(hb:z.2.length<=100000)(ht:fq z.2=false):∀(ab aa:Bs)(f:Bool),z.2=ab++aa->aa.length<n->f=(decide (z.2.length<=60)&&ab.all ip) ->
  qj4 fu n f (ab.length:Int) z=some (nv z):=by
 induction n with
 |zero=>intro ab aa f _ h;omega|succ n ih=>
  intro ab aa f hzz h hf;have ac:z.2.length=ab.length+aa.length:=by rw[hzz];simp
  rw[qj4,qzl]
  cases aa with
  |nil=>
   rw[List.append_nil]at hzz;rw[ao (by simp only[qZ]at ac;omega),hf]
   unfold nv;rw[ht,qW oC,← hzz]
   cases hc:(decide (z.2.length<=60)&&z.2.all ip)
   ·rw[aw rfl,qW (by intro q;rw[q.2,decide_eq_true q.1]at hc;cases hc)]
    have:=z2s fu fu hfu z hz [] z.2 tp [] 0 rfl oA hb oC oF oC
    simpa [tp] using this
   ·rw[qA,decide_eq_true_eq]at hc;have hq:=q81 z.2;rw[au rfl,qX hc,af oE,af oE,z2u fu hfu _ hb,qB,af oE]
    simp
  |cons c t=>
   simp only[qL]at h ac;have hx:ai z.2 (ab.length:Int)=some c:=by rw[hzz];exact a6 ab c t
   have st:=fun f'(hf':f'=(decide (z.2.length<=60)&&(ab++[c]).all ip))=>ih (ab++[c]) t f' (by rw[hzz];simp) oA hf'
   simp only[qM,qL,qZ,wO]at st;have hp:(decide (32<=(c.toNat:Int)/\(c.toNat:Int)<=126))=ip c:=by
    unfold ip;rw[Bool.eq_iff_iff];simp only[decide_eq_true_eq,qA,UInt8.le_iff_toNat_le];show _↔32<=c.toNat/\c.toNat<=126;omega
   rw[af oA]
   cases f
   ·rw[aw rfl,qj5,ar _]
    exact st false (by
     rw[List.all_append];cases h1:decide (z.2.length<=60)
     ·rfl
     ·rw[h1,Bool.true_and]at hf;rw[← hf];rfl)
   ·rw[au rfl,hx,qB,mi,hp,qB,qj5,ar _]
    exact st (ip c) (by
     rw[List.all_append,← Bool.and_assoc,← hf];simp)
def z2o(fu:Nat)(hfu:90000000<=fu)(p:ce)(h1:p.1.length<=1000)(h2:p.2.length<=100000):qq2 fu p=some (nv p):=by
 unfold qq2;rw[qxb fu oA _,qB]
 cases ht:fq p.2
 ·rw[aw rfl];exact z2r fu fu hfu p h1 h2 ht [] p.2 _ rfl oA oB
 ·rw[au rfl,af oE,af oE,af oE]
  unfold nv;rw[qX ht]
def z2e(fu n:Nat)(hfu:90000000<=fu)(m:eg)(hs:SmV m):∀(ab aa:List ce)(out:Bs),m.2.2=ab++aa->aa.length<n->out.length<=3000+ab.length*200000000 ->
  qj2 fu n out (ab.length:Int) m=some (out++aa.flatMap nv):=by
 induction n with
 |zero=>intro ab aa out _ h;omega|succ n ih=>
  intro ab aa out hm h ho;have hl:=hs.2.2.1;have ac:m.2.2.length=ab.length+aa.length:=by rw[hm];simp
  rw[qj2,qzj]
  cases aa with
  |nil=>rw[ao (by simp only[qZ]at ac;omega)];simp|cons p t=>
   simp only[qL]at h ac;have hp:=hs.2.2.2 p (by rw[hm];simp)
   have hpl:=zj4 p hp.1 hp.2;have hx:ai m.2.2 (ab.length:Int)=some p:=by rw[hm];exact a6 ab p t
   rw[af oA,hx,qB,z2o fu hfu p hp.1 hp.2,qB,af oO,ar _]
   have st:=ih (ab++[p]) t (out++nv p) (by rw[hm];simp) oA oB
   simp only[qM,qL,qZ,wO]at st;refine st.trans ?_;rw[List.flatMap_cons,qS]
def zk8(fu:Nat)(hfu:90000000<=fu)(m:eg)(hs:SmV m):qj1 fu m=some (ej m):=by
 obtain⟨g1,g2,g3,g4⟩:=hs;unfold qj1;rw[af oE,af oE]
 have:=z2e fu fu hfu m ⟨g1,g2,g3,g4⟩ [] m.2.2 ((m.1++([47]:Bs))++m.2.1) rfl oA oB
 simpa [ej] using this
end Go.Sym
namespace Go.Sym
abbrev bu:Bs:=[67,111,110,116,101,110,116,45,84,121,112,101]
abbrev ctn:Bs:=[99,111,110,116,101,110,116,45,116,121,112,101]
abbrev mpN:Bs:=[109,117,108,116,105,112,97,114,116]
abbrev dy:Bs:=[98,111,117,110,100,97,114,121]
def zm9(l:List aq):cg l ctn=cg l bu:=rfl
def iv(l:List aq):Option eg:=match cg l bu with|[v]=>xy v|_=>none
def tyP(fu:Nat)(k:Int)(v:Bs):Option q4i:=(ql6 fu v).bind fun x4=>bz x4 (fun a5=>(ef a5.2.2).bind fun x7=>some (.inl (a5.1,(a5.2.1,(k,!x7))))) (fun b6=>(ef (b6.2.2.1,b6.2.2.2.1)).bind fun x8=>some (.inr (b6.1,(b6.2.1,(k,(!x8,b6.2.2.2.2))))))
def z49(fu:Nat)(hfu:90000000<=fu)(k:Int)(v:Bs)(h:v.length<=4000000):tyP fu k v=some (match xy v with|some m => .inr (m.1,(m.2.1,(k,(true,m.2.2))))|none => .inl ([],([],(k,false)))):=by
 unfold tyP;obtain⟨R,h1,h2⟩:=zyk fu hfu v h;rw[h1,qB]
 cases hp:xy v with
 |none=>
  rw[hp]at h2;obtain⟨f,rfl,hf⟩:=h2;simp only[bz,ji,qB];have:(f.1 != 0)=true:=by simpa using hf
  rw[this];rfl
 |some m=>rw[hp]at h2;simp only at h2;subst h2;rfl
section typ
variable(fu:Nat)(hfu:90000000<=fu)(l:List aq)(hs:∀x∈l,x.1.length<=4000000/\x.2.length<=4000000)(hl:l.length<=4000000)
include hfu hs hl
def z5b(k:Nat)(y:aq)(hy:ai l (k:Int)=some y)(n:Nat):∀(ab aa:List aq),l=ab++aa->aa.length<n ->
  zq fu n l (k:Int) (ab++aa) ((ab.length+aa.length:Nat):Int) (ab.length:Int) [] []=if cg aa bu=[] then tyP fu (k:Int) y.2 else some (.inl ([],([],(0,false)))):=by
 induction n with
 |zero=>intro ab aa _ h;omega|succ n ih=>
  intro ab aa hp h;have ac:l.length=ab.length+aa.length:=by rw[hp];simp
  rw[zq,qss]
  cases aa with
  |nil=>rw[ao,ao,hy,qB,show cg [] bu=[] from rfl,qX rfl];rfl|cons x t=>
   simp only[qL]at h ac;have hx:=hs x (by rw[hp];simp)
   have st:=ih (ab++[x]) t (by rw[hp];simp) oA
   simp only[qM,qL,qZ,qS,wM,wO]at st;rw[af oG,a6,qB,nz fu hfu _ _ hx.1 oC,qB,yj]
   cases hk:lk x.1 bu
   ·rw[aw rfl,qfz,ar _,qW (show ¬((x.1.map lo==bu.map lo)=true) by show ¬lk x.1 bu=true;rw[hk];simp),show(ab.length+(x::t).length:Nat)=ab.length+1+t.length by simp only[qL];omega]
    exact st
   ·rw[au rfl,af oA,qX (show(x.1.map lo==bu.map lo)=true from hk),qW oC]
def z5a(n:Nat):∀(ab aa:List aq),l=ab++aa->aa.length<n ->
  (cg aa bu=[]->zq fu n l (-1) (ab++aa) ((ab.length+aa.length:Nat):Int) (ab.length:Int) [] []=some (.inl ([],([],(0,false))))) /\
  (∀u x w,aa=u++x::w->cg u bu=[]->lk x.1 bu=true->zq fu n l (-1) (ab++aa) ((ab.length+aa.length:Nat):Int) (ab.length:Int) [] []=if cg w bu=[] then tyP fu ((ab.length+u.length:Nat):Int) x.2 else some (.inl ([],([],(0,false))))):=by
 induction n with
 |zero=>intro ab aa _ h;omega|succ n ih=>
  intro ab aa hp h;have ac:l.length=ab.length+aa.length:=by rw[hp];simp
  rw[zq,qss]
  cases aa with
  |nil=>exact⟨fun _=>by rw[ao,af oA],fun u x w e=>by simp at e⟩
  |cons y t=>
   simp only[qL]at h ac;have hy:=hs y (by rw[hp];simp)
   obtain⟨s1,s2⟩:=ih (ab++[y]) t (by rw[hp];simp) oA
   simp only[qM,qL,qZ,qS,wM,wO]at s1 s2;rw[af oG,a6,qB,nz fu hfu _ _ hy.1 oC,qB,yj,show(ab.length+(y::t).length:Nat)=ab.length+1+t.length by simp only[qL];omega]
   cases hk:lk y.1 bu
   ·rw[aw rfl,qfz,ar _,qW (show ¬((y.1.map lo==bu.map lo)=true) by show ¬lk y.1 bu=true;rw[hk];simp)]
    refine⟨s1,fun u x w e hu hx => ?_⟩
    cases u with
    |nil=>rw[List.nil_append,List.cons.injEq]at e;rw[e.1,hx]at hk;cases hk
    |cons z u=>
     rw[wK,List.cons.injEq]at e;obtain⟨rfl,e⟩:=e;rw[yj,qW (show ¬((y.1.map lo==bu.map lo)=true) by show ¬lk y.1 bu=true;rw[hk];simp)]at hu
     have:=s2 u x w e hu hx;rw[show(ab.length+(y::u).length:Nat)=ab.length+1+u.length by simp only[qL];omega]
     exact this
   ·rw[au rfl,ao,qfz,ar _,qX (show(y.1.map lo==bu.map lo)=true from hk)]
    refine⟨fun e=>by simp at e,fun u x w e hu hx => ?_⟩
    cases u with
    |nil=>
     rw[List.nil_append,List.cons.injEq]at e;obtain⟨rfl,rfl⟩:=e;have:=z5b fu hfu l hs hl ab.length y (by rw[hp];exact a6 ab y t) n (ab++[y]) t (by rw[hp];simp) oA
     simp only[qM,qL,qZ,qS,wM,wO]at this;exact this
    |cons z u=>
     rw[wK,List.cons.injEq]at e;obtain⟨rfl,e⟩:=e;rw[yj,qX (show(y.1.map lo==bu.map lo)=true from hk)]at hu
     simp at hu
def q99:∃R,qfy fu l=some R/\match iv l with
  |some m=>∃ab x aa,l=ab++x::aa/\cg l bu=[x.2]/\lk x.1 bu=true/\cg ab bu=[]/\cg aa bu=[]/\R = .inr (m.1,(m.2.1,((ab.length:Int),(true,m.2.2))))|none=>∃k,R = .inl ([],([],(k,false))):=by
 obtain⟨h1,h2⟩:=z5a fu hfu l hs hl fu [] l rfl oA
 simp only[List.nil_append,qZ,wO]at h1 h2;unfold qfy;rw[show((0:Nat):Int)=0 from rfl]at h1 h2
 have hd:cg l bu=[]\/∃u x w,l=u++x::w/\cg u bu=[]/\lk x.1 bu=true:=by
  clear h1 h2 hs hl
  induction l with
  |nil=>exact .inl rfl|cons y t ih=>
   rw[yj];cases hk:lk y.1 bu
   ·rw[qW (show ¬((y.1.map lo==bu.map lo)=true) by show ¬lk y.1 bu=true;rw[hk];simp)]
    rcases ih with g|⟨u,x,w,e,g1,g2⟩
    ·exact .inl g
    ·exact .inr ⟨y::u,x,w,by rw[e];rfl,by rw[yj,qW (show ¬((y.1.map lo==bu.map lo)=true) by show ¬lk y.1 bu=true;rw[hk];simp)];exact g1,g2⟩
   ·exact .inr ⟨[],y,t,rfl,rfl,hk⟩
 have vapp:∀(u w:List aq)(x:aq),lk x.1 bu=true->cg (u++x::w) bu=cg u bu++x.2::cg w bu:=fun u w x hx=>by
  unfold cg;rw[List.filter_append,List.filter_cons,qX (show(x.1.map lo==bu.map lo)=true from hx),List.map_append];rfl
 rcases hd with g|⟨u,x,w,e,g1,g2⟩
 ·refine⟨_,h1 g,?_⟩;unfold iv;rw[g];exact⟨0,rfl⟩
 ·have hr:=h2 u x w e g1 g2;have hv:=vapp u w x g2;rw[← e,g1,List.nil_append]at hv;by_cases hw:cg w bu=[]
  ·rw[qX hw,z49 fu hfu _ _ (hs x (by rw[e];simp)).2]at hr
   refine⟨_,hr,?_⟩;rw[hw]at hv;unfold iv;rw[hv];simp only
   cases hp:xy x.2 with|none=>exact⟨_,rfl⟩|some m=>exact⟨u,x,w,e,rfl,g2,g1,hw,rfl⟩
  ·rw[qW hw]at hr;refine⟨_,hr,?_⟩;unfold iv;rw[hv]
   cases hh:cg w bu with|nil=>exact absurd hh hw|cons=>exact⟨0,rfl⟩
end typ
def qh4{l:List aq}{m:eg}(h:iv l=some m):(ig m).1=0:=by
 unfold iv at h;split at h
 ·exact(z0j h).2
 ·cases h
def q98(fu:Nat)(hfu:90000000<=fu)(l:List aq)(hs:oq l):qfd fu l=some (match iv l with|some m=>(m,true)|none=>(([],([],[])),false)):=by
 unfold qfd;rw[zab fu hfu l ctn oC hs,qB,zm9,dz]
 unfold iv
 cases hv:cg l bu with
 |nil=>rw[qX oC];rfl|cons v t=>
  cases t with
  |cons w t=>rw[qX oG];rfl|nil=>
   rw[qW oC,af oC,show([v]:List Bs)[(0:Int).toNat]? = some v from rfl,qB,qrr]
   simp only;unfold xy;by_cases h4:4000<v.length
   ·rw[af oA,qX h4]
   ·rw[ao,qW h4,q00,af oC,show([v]:List Bs)[(0:Int).toNat]? = some v from rfl,qB,zyv fu hfu v,qB]
    cases hm:xv v with
    |none=>rfl|some m=>
     simp only;rw[bq,z2c fu hfu m (q7y hm),qB,dz]
     by_cases h0:(ig m).1≠0
     ·rw[qX h0,qX h0]
     ·rw[qW h0,qW h0]
def bOk(b:Bs):Bool := !b.isEmpty&&(decide (b.length<=60)&&(b.all ip && !(b.getLast? == some 32)))
def bnd(l:List aq):Option Bs:=match iv l with|some m=>if lk m.1 mpN=true/\(ep m.2.2 dy).2=true/\bOk (ep m.2.2 dy).1=true then some (ep m.2.2 dy).1 else none|none=>none
def zjt(l:List ce)(nm:Bs)(M:Nat)(h:∀x∈l,x.2.length<=M):(ep l nm).1.length<=M:=by
 induction l with
 |nil=>simp[ep,par]|cons p l ih=>
  rw[q8j];split
  ·exact h p qH
  ·exact ih (fun x hx=>h x (qE _ hx))
def zz5(c:UInt8):qmq c=some (ip c):=by unfold qmq ip;by_cases h:(32:UInt8)<=c<;>simp[h]
def zsc(fu:Nat)(s:Bs)(h:s.length<fu:=by omega)(hb:s.length<9223372036854775807:=by omega):qrx fu s=some (s.all ip):=by
 have e:∀n,qlj fu n=qcw qmq n:=by
  intro n;induction n with|zero=>rfl|succ n ih=>rw[qlj,ih];funext a b c;rfl
 unfold qrx;rw[e];exact q43 _ _ zz5 _ _ h hb
def zwg(t:Bs)(hb:t.length<=4000000:=by omega):qte t [32]=some (t.getLast? == some 32):=by
 unfold qte qb8;rw[show(([32]:List UInt8).length:Int)=1 from rfl]
 rcases List.eq_nil_or_concat t with rfl|⟨u,c,rfl⟩
 ·rfl
 ·rw[List.concat_eq_append]at *;simp only[qM,qL,qZ]at hb;rw[fk,ft _ oA,af oA,af oA,qB,List.getLast?_concat]
  have e:List.drop ((u.length:Nat):Int).toNat (u++[c])=[c]:=la u [c];rw[e];congr 1;rw[Bool.eq_iff_iff];simp
def ztm(fu:Nat)(hfu:90000000<=fu)(l:List aq)(hs:∀x∈l,x.1.length<=4000000/\x.2.length<=4000000)(hl:l.length<=4000000):∃R,qsu fu l=some R/\match bnd l with
  |some b=>R=(b,true)|none=>R.2=false:=by
 obtain⟨R,h1,h2⟩:=q99 fu hfu l hs hl;unfold qsu bnd;rw[h1,qB]
 cases ht:iv l with
 |none=>
  rw[ht]at h2;obtain⟨k,rfl⟩:=h2;exact⟨_,rfl,rfl⟩
 |some m=>
  rw[ht]at h2;obtain⟨ab,x,aa,e1,e2,e3,e4,e5,rfl⟩:=h2;have h0:=qh4 ht;have hv:=vi h0;simp only[bz];rw[bq,nz fu hfu _ _ (by have:=hv.1;omega) oC,qB]
  cases hk:lk m.1 mpN
  ·rw[qcd,cu];exact⟨_,rfl,oC⟩
  ·have hbl:=zjt m.2.2 dy 100000 (fun x hx=>(hv.2.2.2 x hx).2)
   rw[qcd,bq,q2w,zi2 fu hfu (m.1,(m.2.1,m.2.2)) dy oC hv.smD,qB,qW (by simpa using h0)]
   simp only;generalize hb:(ep m.2.2 dy).1=b at *;generalize hi:(ep m.2.2 dy).2=i at *;unfold bOk
   cases b with
   |nil=>rw[show(!(([]:Bs)==[]))=false from rfl,aw rfl];cases i<;>exact⟨_,rfl,oC⟩
   |cons c b=>
    rw[show(!((c::b:Bs)==[]))=true from rfl,au rfl]
    by_cases h60:(c::b).length<=60
    ·rw[af oA,zsc fu _,qB]
     cases ha:(c::b).all ip
     ·rw[aw rfl];cases i<;>exact⟨_,rfl,by simp[ha]⟩
     ·rw[au rfl,zwg _,qB]
      cases i
      ·exact⟨_,rfl,oC⟩
      ·rw[au rfl];refine⟨_,rfl,?_⟩;cases hg:((c::b).getLast? == some 32)
       ·rw[qX ⟨by first|rfl|trivial,by first|rfl|trivial,by simp only[List.isEmpty_cons,Bool.not_false,Bool.true_and,Bool.and_true];exact decide_eq_true h60⟩];rfl
       ·rw[qW oC];rfl
    ·rw[ao]
     have hnot:¬(decide ((c::b).length<=60)=true):=by simpa using h60
     cases i
     ·exact⟨_,rfl,oC⟩
     ·refine⟨_,rfl,?_⟩;rw[qW (by
       rintro⟨_,_,g⟩
       rw[qA,qA]at g;exact hnot g.2.1)]
def zsj(fu n:Nat)(i:Bool):∀(ab aa:Bs),aa.length<n->ab.length+aa.length<1000000 ->
  ∃R,qks fu n (ab++aa) i (ab.length:Int)=some R/\(if aa.all ip=true/\i=true/\(1<=(ab++aa).length/\(ab++aa).length<=60)/\(ab++aa).getLast? ≠ some 32 then R=(ab++aa,true) else R.2=false):=by
 induction n with
 |zero=>intro ab aa h;omega|succ n ih=>
  intro ab aa h hb;rw[qks,q0e]
  cases aa with
  |nil=>
   rw[ao,List.append_nil]
   cases i
   ·exact⟨_,rfl,by rw[qW oC]⟩
   ·rw[au rfl,mi,qB];by_cases h60:1<=ab.length/\ab.length<=60
    ·rw[af oA]
     rcases List.eq_nil_or_concat ab with rfl|⟨u,c,rfl⟩
     ·simp at h60
     ·rw[List.concat_eq_append]at *;simp only[qM,qL,qZ]at hb;rw[fk,ft _ oA,th,qB]
      refine⟨_,rfl,?_⟩;rw[List.getLast?_concat];by_cases hc:c=32
      ·rw[qW (by simp[hc])];simp[hc]
      ·rw[qX ⟨rfl,rfl,h60,by simpa using hc⟩];simp[hc]
    ·rw[ao];exact⟨_,rfl,by rw[qW (fun g=>h60 g.2.2.1)]⟩
  |cons c t=>
   simp only[qL]at h hb;have hp:(decide (32<=(c.toNat:Int)/\(c.toNat:Int)<=126))=ip c:=by
    unfold ip;rw[Bool.eq_iff_iff];simp only[decide_eq_true_eq,qA,UInt8.le_iff_toNat_le];show _↔32<=c.toNat/\c.toNat<=126;omega
   rw[af oI,a6,qB,mi,hp,qB,ar _]
   cases hc:ip c
   ·rw[cu];exact⟨_,rfl,by rw[qW (by simp[hc])]⟩
   ·rw[bq];obtain⟨R,g1,g2⟩:=ih (ab++[c]) t oA oB
    rw[qM,wD,qS,wM]at g1;refine⟨R,g1,?_⟩;rw[qS,wM]at g2;rw[List.all_cons,hc,Bool.true_and];exact g2
def q45(fu:Nat)(hfu:90000000<=fu)(l:List aq)(hs:oq l):∃R,qkq fu l=some R/\match bnd l with
  |some b=>R=(b,true)|none=>R.2=false:=by
 unfold qkq bnd;rw[q98 fu hfu l hs,qB]
 cases ht:iv l with
 |none=>exact⟨_,rfl,rfl⟩|some m=>
  have h0:=qh4 ht;have hv:=vi h0;simp only;rw[bq,se fu hfu _ _ (by have:=hv.1;omega) oC,qB]
  cases hk:lk m.1 mpN
  ·rw[qkr,cu];exact⟨_,rfl,oC⟩
  ·have hbl:=zjt m.2.2 dy 100000 (fun x hx=>(hv.2.2.2 x hx).2)
   rw[qkr,bq,q0f,q9d fu hfu m dy oC hv.smD.2.2,qB]
   obtain⟨R,g1,g2⟩:=zsj fu fu (ep m.2.2 dy).2 [] (ep m.2.2 dy).1 oA oB
   refine⟨R,g1,?_⟩;simp only[List.nil_append]at g2;by_cases hc:(ep m.2.2 dy).1.all ip=true/\(ep m.2.2 dy).2=true/\(1<=(ep m.2.2 dy).1.length/\(ep m.2.2 dy).1.length<=60)/\(ep m.2.2 dy).1.getLast? ≠ some 32
   ·rw[qX hc]at g2;have hb:bOk (ep m.2.2 dy).1=true:=by
     unfold bOk;have:(ep m.2.2 dy).1.isEmpty=false:=by
      cases hh:(ep m.2.2 dy).1 with|nil=>rw[hh]at hc;simp at hc|cons=>rfl
     rw[this,hc.1,decide_eq_true hc.2.2.1.2];simp;exact hc.2.2.2
    rw[qX ⟨by first|rfl|trivial,hc.2.1,hb⟩];exact g2
   ·rw[qW hc]at g2;rw[qW (by
     rintro⟨_,q1,q2⟩
     apply hc;unfold bOk at q2;simp only[qA,Bool.not_eq_true',decide_eq_true_eq,beq_eq_false_iff_ne]at q2;refine⟨q2.2.2.1,q1,⟨?_,q2.2.1⟩,q2.2.2.2⟩
     cases hh:(ep m.2.2 dy).1 with
     |nil=>rw[hh]at q2;simp at q2| cons=>simp)]
    exact g2
def q5n{l:List aq}{b:Bs}(h:bnd l=some b):1<=b.length/\b.length<=60:=by
 unfold bnd at h;split at h
 ·split at h
  ·rename_i hc;cases h
   have q:=hc.2.2;unfold bOk at q;simp only[qA,Bool.not_eq_true',decide_eq_true_eq]at q;refine⟨?_,q.2.1⟩;generalize (ep _ dy).1=z at *
   cases z with|nil=>simp at q|cons=>simp
  ·cases h
 ·cases h
def qhf(t b:Bs):Int:=if t=([45,45]:Bs)++b then 1 else if t=(([45,45]:Bs)++b)++([45,45]:Bs) then 2 else 0
def ly(line b:Bs):Int:=qhf (ch line) b
def qum{α:Type}{a b:Bs}{x y:α}:(bif a==b then x else y)=if a=b then x else y:=by
 by_cases h:a=b
 ·rw[au (by simpa using h),qX h]
 ·rw[aw (by simpa using h),qW h]
def zxn(fu:Nat)(hfu:90000000<=fu)(line b:Bs)(h:line.length<=4000000)(hb:b.length<=1000):qs2 fu line b=some (ly line b):=by
 unfold qs2 ly qhf;rw[qpt fu line oA oA oA,qB,af oE,qum,af oE,af oE,qum]
 split
 ·rfl
 ·split<;>rfl
def zx9(fu:Nat)(s b:Bs)(hs:s.length<=4000000)(hb:b.length<=1000)(n:Nat):∀(u w:Bs),s=u++w->u.length<n->qfa fu n s b (u.length:Int)=some (qhf (ch u) b):=by
 induction n with
 |zero=>intro u w _ h;omega|succ n ih=>
  intro u w hu h;have ac:s.length=u.length+w.length:=by rw[hu];simp
  have fin:qfb fu (qfa fu n) s b (u.length:Int) false=some (qhf u b):=by
   rw[qfb,aw rfl,af oA,af oE,show List.take ((u.length:Nat):Int).toNat s=u by rw[hu];exact t7 u w,qum,af oA,af oE,af oE,qum]
   unfold qhf;split
   ·rfl
   ·split<;>rfl
  rw[qfa,q0v];rcases List.eq_nil_or_concat u with rfl|⟨t,c,rfl⟩
  ·rw[ao];exact fin
  ·rw[List.concat_eq_append]at *;rw[af oC,fk,ft _ (by simp at ac;omega),yf]
   have hx:ai s (t.length:Int)=some c:=by rw[hu,qS];exact a6 t c w
   rw[hx,qB,yc,qB];cases hc:bl c
   ·rw[fk]at fin;rw[fin];rfl
   ·rw[qfb,au rfl,q0w,ft _ (by simp at ac;omega),qX rfl]
    exact ih t (c::w) (by rw[hu];simp) (by simp at h;omega)
def zx5(fu:Nat)(hfu:90000000<=fu)(s b:Bs)(hs:s.length<=4000000)(hb:b.length<=1000):q0u fu s b=some (ly s b):=
 zx9 fu s b hs hb fu s [] oC oA
def c7:Bs->Bs|[]=>[]|c::t=>if iy c t=true then[] else c::c7 t
def dt:Bs->Bs|[]=>[]|c::t=>if iy c t=true then t.tail else dt t
def qc3:∀r:Bs,(r=c7 r++13::10::dt r/\Lib.index r [13,10]=((c7 r).length:Int))\/(c7 r=r/\dt r=[]/\Lib.index r [13,10] = -1)
 |[] => .inr ⟨rfl,rfl,rfl⟩|c::t=>by
  have hp:([13,10]:Bs).isPrefixOf (c::t)=iy c t:=by
   unfold iy
   cases t with|nil=>simp[List.isPrefixOf]|cons d t=>simp[List.isPrefixOf,qul]
  rw[c7,dt,Lib.index,hp];by_cases hc:iy c t=true
  ·obtain⟨rfl,r',rfl⟩:=qv7 hc;rw[qX hc,qX hc,qX hc];exact .inl ⟨rfl,rfl⟩
  ·rw[qW hc,qW hc,qW hc];rcases qc3 t with⟨h1,h2⟩|⟨h1,h2,h3⟩
   ·refine .inl ⟨by rw[wK,← h1],?_⟩
    rw[h2,qW oC];simp
   ·refine .inr ⟨by rw[h1],h2,?_⟩
    rw[h3];rfl
def q54(r:Bs):r.take (c7 r).length=c7 r:=by
 rcases qc3 r with⟨h1,_⟩|⟨h1,_,_⟩
 ·have e:r.take (c7 r).length=(c7 r++13::10::dt r).take (c7 r).length:=by rw[← h1]
  rw[e,List.take_left]
 ·rw[h1];simp
def qwq(r:Bs):dt r <:+ r:=by
 rcases qc3 r with⟨h1,_⟩|⟨_,h2,_⟩
 ·exact⟨c7 r++[13,10],by simp;exact h1.symm⟩
 ·rw[h2];exact List.nil_suffix
def qo5(c:UInt8)(t:Bs):(dt (c::t)).length<=t.length:=by
 rcases qc3 (c::t) with⟨h1,_⟩|⟨_,h2,_⟩
 ·have:=congrArg List.length h1;simp only[qM,qL]at this;omega
 ·rw[h2];simp
def q53(r:Bs):(c7 r).length<=r.length:=by
 rcases qc3 r with⟨h1,_⟩|⟨h1,_,_⟩
 ·have:=congrArg List.length h1;simp only[qM,qL]at this;omega
 ·rw[h1];exact wF _
def quy(s r:Bs):Bs:=s.take (s.length-r.length-2)
def ku(st:Option Bs)(r:Bs)(out:List Bs):List Bs:=match st with|some s=>out++[quy s r]|none=>out
def g9(b:Bs):Nat->Bs->Option Bs->List Bs->List Bs
 |0,_,_,out=>out|_+1,[],st,out=>match st with|some s=>out++[s]|none=>out
 |n+1,c::t,st,out=>if ly (c7 (c::t)) b=0 then g9 b n (dt (c::t)) st out
  else if ly (c7 (c::t)) b=2 then ku st (c::t) out else g9 b n (dt (c::t)) (some (dt (c::t))) (ku st (c::t) out)
def ib(body:Bs)(st:Option Bs):Int:=match st with|some s=>pos body s|none => -1
def zxo(l b:Bs):ly l b=0\/ly l b=1\/ly l b=2:=by
 unfold ly qhf;split
 ·exact .inr (.inl rfl)
 ·split
  ·exact .inr (.inr rfl)
  ·exact .inl rfl
def q7x{body s r:Bs}(hs:s <:+ body)(hr:r <:+ s)(hb:body.length<=4000000):0<=pos body s/\pos body s<=(if ae (pos body r-2)>pos body s then ae (pos body r-2) else pos body s)/\(if ae (pos body r-2)>pos body s then ae (pos body r-2) else pos body s)<=(body.length:Int) /\
  List.take ((if ae (pos body r-2)>pos body s then ae (pos body r-2) else pos body s).toNat-(pos body s).toNat) (List.drop (pos body s).toNat body)=quy s r:=by
 have h1:=hs.length_le;have h2:=hr.length_le;rw[qo8 hs];unfold quy pos;rw[bt]
 refine⟨oA,?_,?_,?_⟩
 ·split<;>omega
 ·split<;>omega
 ·congr 1;split<;>omega
def z0m{body r:Bs}(hr:r <:+ body)(hb:body.length<=4000000):(if(body.length:Int)<ae (ae (pos body r+((c7 r).length:Int))+2) then(body.length:Int) else ae (ae (pos body r+((c7 r).length:Int))+2))=pos body (dt r):=by
 have h1:=hr.length_le;rcases qc3 r with⟨h,_⟩|⟨h,h2,_⟩
 ·have:=congrArg List.length h;simp only[qM,qL]at this;unfold pos;rw[qx _ _,bt]
  split<;>omega
 ·rw[h2,h,ki];unfold pos;rw[qx _ _,bt]
  split<;>omega
def zud(fu:Nat)(hfu:90000000<=fu)(body b:Bs)(hb:body.length<=4000000)(hbb:b.length<=1000)(r:Bs)(hr:r <:+ body)(st:Option Bs)(hst:∀s,st=some s->s <:+ body/\r <:+ s)(z out:List Bs)(ho:out.length<=4000000:=by omega) :
  qf1 fu (pos body r) (c7 r) body b (ib body st) z out =
   if ly (c7 r) b=0 then some (.inl (body,(b,(ib body st,(z,out))))) else if ly (c7 r) b=2 then some (.inr (body,(b,(ib body st,ku st r out)))) else some (.inl (body,(b,(pos body (dt r),(z,ku st r out))))):=by
 have hrm:=iq;have hcl:=q53 r;have hrl:=hr.length_le;unfold qf1;rw[zxn fu hfu _ b oA hbb,qB,d6]
 by_cases h0:ly (c7 r) b=0
 ·rw[qX h0,qX h0]
 rw[qW h0,qW h0,z0m hr hb,d6]
 cases st with
 |none=>
  rw[show ib body none = -1 from rfl,ao]
  try rw[d6]
  by_cases h2:ly (c7 r) b=2
  ·rw[qX h2,qX h2];rfl
  ·rw[qW h2,qW h2];rfl
 |some s=>
  obtain⟨g1,g2⟩:=hst s rfl;obtain⟨q1,q2,q3,q4⟩:=q7x g1 g2 hb;rw[show ib body (some s)=pos body s from rfl,af q1,af ⟨q1,q2,q3⟩,q4,af oB]
  by_cases h2:ly (c7 r) b=2
  ·rw[qX h2,qX h2];rfl
  ·rw[qW h2,qW h2];rfl
def q4x(st:Option Bs)(r:Bs)(out:List Bs):(ku st r out).length<=out.length+1:=by unfold ku;cases st<;>simp
def zg9(st:Option Bs)(out:List Bs):List Bs:=match st with|some s=>out++[s]|none=>out
def zua(fu:Nat)(hfu:90000000<=fu)(body b:Bs)(hb:body.length<=4000000)(hbb:b.length<=1000)(z:List Bs)(n:Nat):∀(r:Bs)(st:Option Bs)(out:List Bs),r <:+ body->(∀s,st=some s->s <:+ body/\r <:+ s)->r.length<n->out.length+r.length<=4000000 ->
  (∃x,qcf fu n (pos body r) body body b (ib body st) z out=some (.inl (body,(body,(b,(x,g9 b n r st out)))))) \/
  (∃st' out',qcf fu n (pos body r) body body b (ib body st) z out=some (.inr (body,(body,(b,(ib body st',(z,out'))))))/\g9 b n r st out=zg9 st' out'/\out'.length<=4000000/\∀s,st'=some s->s <:+ body):=by
 induction n with
 |zero=>intro r st out _ _ h;omega|succ n ih=>
  intro r st out hr hst h ho;rw[qcf,q24]
  cases r with
  |nil=>
   rw[ki,ao]
   exact .inr ⟨st,out,rfl,rfl,oA,fun s hs=>(hst s hs).1⟩
  |cons c t=>
   simp only[qL]at h ho;have hL:(c::t).length=t.length+1:=rfl;have hrl:=hr.length_le;simp only[qL]at hrl;have hcl:=q53 (c::t);have hnl:=qo5 c t;have hge:=xz body (c::t);have hnx:dt (c::t) <:+ body:=(qwq _).trans hr;rw[af (pi hr),af hge,af oF,qo8 hr]
   have hI:uj (c::t) [13,10]=some (Lib.index (c::t) [13,10]):=by
    unfold uj;rw[af (by refine⟨oC,oG,by simp[maxLen]⟩)]
   have step:∀q:Option q4j,q=((qf1 fu (pos body (c::t)) (c7 (c::t)) body b (ib body st) z out).bind fun x2=>bz x2 (fun a3=>qcf fu n (pos body (dt (c::t))) body a3.1 a3.2.1 a3.2.2.1 a3.2.2.2.1 a3.2.2.2.2) (fun b4=>some (.inl (body,b4)))) ->
     (∃x,q=some (.inl (body,(body,(b,(x,g9 b (n+1) (c::t) st out))))))\/(∃st' out',q=some (.inr (body,(body,(b,(ib body st',(z,out'))))))/\g9 b (n+1) (c::t) st out=zg9 st' out'/\out'.length<=4000000/\∀s,st'=some s->s <:+ body):=by
    intro q hq;rw[hq,zud fu hfu body b hb hbb (c::t) hr st hst z out,g9]
    have hal:=q4x st (c::t) out;by_cases h0:ly (c7 (c::t)) b=0
    ·simp only[qX h0,qB,bz];exact ih (dt (c::t)) st out hnx (fun s hs=>⟨(hst s hs).1,(qwq _).trans (hst s hs).2⟩) oA oA
    ·simp only[qW h0];by_cases h2:ly (c7 (c::t)) b=2
     ·simp only[qX h2,qB,bz];exact .inl ⟨_,rfl⟩
     ·simp only[qW h2,qB,bz];exact ih (dt (c::t)) (some (dt (c::t))) _ hnx (fun s hs=>by cases hs;exact⟨hnx,List.suffix_refl _⟩) oA oA
   apply step;rw[hI,qB];rcases qc3 (c::t) with⟨h1,h2⟩|⟨h1,h2,h3⟩
   ·have ac:=congrArg List.length h1;simp only[qM,qL]at ac;have e1:ae (pos body (c::t)+((c7 (c::t)).length:Int))=((body.length-(c::t).length+(c7 (c::t)).length:Nat):Int):=by unfold pos;rw[qx _ _]
    have e2:ae (((body.length-(c::t).length+(c7 (c::t)).length:Nat):Int)+2)=pos body (dt (c::t)):=by unfold pos;rw[bt];simp only[qL];omega
    have e3:((body.length-(c::t).length+(c7 (c::t)).length:Nat):Int).toNat-(pos body (c::t)).toNat=(c7 (c::t)).length:=by unfold pos;omega
    rw[h2,af oA,e1,af (by unfold pos;simp only[qL];omega),e3,q54,e2]
   ·have e3:(body.length:Int).toNat-(pos body (c::t)).toNat=(c7 (c::t)).length:=by rw[h1];unfold pos;omega
    rw[h3,ao,af oA,e3,q54,h2,ki]
def zf8(b:Bs):∀(n:Nat)(r:Bs)(st:Option Bs)(out:List Bs),r.length<n->g9 b n r st out=g9 b (r.length+1) r st out:=by
 intro n
 induction n using Nat.strongRecOn with
 |ind n ih=>
  intro r st out h;obtain⟨n,rfl⟩:∃m,n=m+1:=⟨n-1,oA⟩
  cases r with
  |nil=>rfl|cons c t=>
   simp only[qL]at h ⊢;have hnl:=qo5 c t;rw[g9,g9];have e:∀st' out',g9 b n (dt (c::t)) st' out'=g9 b (t.length+1) (dt (c::t)) st' out':=fun st' out'=>by
    rw[ih n oA _ _ _ oA]
    by_cases hq:t.length+1=n
    ·rw[hq];exact(ih n oA _ _ _ oA).symm
    ·exact(ih (t.length+1) oA _ _ _ oA).symm
   rw[e,e]
def gn(body b:Bs):List Bs:=g9 b (body.length+1) body none []
def zue(fu:Nat)(hfu:90000000<=fu)(body b:Bs)(hb:body.length<=4000000)(hbb:b.length<=1000):qsw fu body b=some (gn body b):=by
 have hrm:=iq;unfold qsw q21 q23 gn;rw[qB];have:=zua fu hfu body b hb hbb [] fu body none [] (List.suffix_refl _) oC oA (by simpa using hb)
 rw[q8s,show ib body none = -1 from rfl,zf8 b fu body none [] oA]at this
 rcases this with⟨x,h⟩|⟨st',out',h1,h2,h3,h4⟩
 ·rw[h];rfl
 ·rw[h1,qB,h2];simp only[bz]
  cases st' with
  |none=>rw[show ib body none = -1 from rfl,ao];rfl|some s=>
   have hge:=xz body s;rw[show ib body (some s)=pos body s from rfl,af hge.1,af hge,af oB,qo8 (h4 s rfl)];rfl
def z1a(fu:Nat)(r0:(Bs->Bs->Int->Int->(List Bs)->Option ((List Bs))))(body b:Bs)(s6 s7:Int)(out:List Bs)(hb:body.length<=4000000)(n:Nat):∀(u:Bs),u <:+ body->u.length<n ->
  qkx fu r0 n body b s6 s7 (pos body u) out=qkz fu r0 body b s6 s7 (pos body (u.drop (c7 u).length)) (pos body (dt u)) out:=by
 induction n with
 |zero=>intro u _ h;omega|succ n ih=>
  intro u hu h;rw[qkx,q0m]
  cases u with
  |nil=>rw[ki,ao,qky,aw rfl,au];simp[dt,ki]|cons c t=>
   have ht:t <:+ body:=(List.suffix_cons _ _).trans hu;simp only[qL]at h;have hc:ue body (pos body (c::t))=some (iy c t):=by
    obtain⟨p,e1,e2⟩:=zj0 hu;have:=hu.length_le;rw[e2,e1];exact zke p c t (by rw[e1]at hb;simp at hb;omega)
   rw[af (pi hu),hc,qB,qky,c7,dt];by_cases hq:iy c t=true
   ·obtain⟨rfl,r',rfl⟩:=qv7 hq;have hle:=hu.length_le;simp only[qL]at hle;rw[hq,bq,aw (by have:=pi hu;simp;omega),qX rfl,qX rfl]
    have e:ae (pos body (13::10::r')+2)=pos body r':=by unfold pos;rw[bt oG];simp only[qL];omega
    rw[e];rfl
   ·have:iy c t=false:=by simpa using hq
    rw[this,cu,q0n,tr hu,qW oC,qW oC]
    exact ih t ht oA
def z1e(fu:Nat)(hfu:90000000<=fu)(body b:Bs)(hb:body.length<=4000000)(hbb:b.length<=1000)(n:Nat):∀(r:Bs)(st:Option Bs)(out:List Bs),r <:+ body->(∀s,st=some s->s <:+ body/\r <:+ s)->r.length<n->out.length+r.length<=4000000 ->
  zf fu n body b (ib body st) (pos body r) out=some (g9 b n r st out):=by
 have hrm:=iq
 induction n with
 |zero=>intro r st out _ _ h;omega|succ n ih=>
  intro r st out hr hst h ho;rw[zf,q0l]
  cases r with
  |nil=>
   rw[ki,ao]
   show _=some (match st with|some s=>out++[s]|none=>out)
   cases st with
   |none=>rw[show ib body none = -1 from rfl,ao]|some s=>
    have hge:=xz body s;rw[show ib body (some s)=pos body s from rfl,af hge.1,af hge,af (by simp;simp at ho;omega),qo8 (hst s rfl).1]
  |cons c t=>
   simp only[qL]at h ho;have hrl:=hr.length_le;simp only[qL]at hrl;have hcl:=q53 (c::t);have hnl:=qo5 c t;have hnx:dt (c::t) <:+ body:=(qwq _).trans hr;have hal:=q4x st (c::t) out;rw[af (pi hr),z1a fu _ body b _ _ out hb fu (c::t) hr oG,g9,qkz]
   have hds:(c::t).drop (c7 (c::t)).length <:+ (c::t):=List.drop_suffix _ _;have hle:=q8t (s:=body) hds;have g1:=xz body (c::t);have g2:=xz body ((c::t).drop (c7 (c::t)).length);have e:List.take ((pos body ((c::t).drop (c7 (c::t)).length)).toNat-(pos body (c::t)).toNat) (List.drop (pos body (c::t)).toNat body)=c7 (c::t):=by
    rw[q8u hr hds,List.length_drop,show(c::t).length-((c::t).length-(c7 (c::t)).length)=(c7 (c::t)).length by omega,q54]
   rw[af ⟨g1.1,hle,g2.2⟩,e,zx5 fu hfu _ b (by simp only[qL]at hcl;omega) hbb,qB]
   have nx:∀st' out',(∀s,st'=some s->s <:+ body/\dt (c::t) <:+ s)->out'.length<=out.length+1->zf fu n body b (ib body st') (pos body (dt (c::t))) out'=some (g9 b n (dt (c::t)) st' out'):=fun st' out' h1 h2=>ih _ st' out' hnx h1 oA oA
   rcases zxo (c7 (c::t)) b with hk|hk|hk
   ·rw[hk,ao,qX rfl,qe6,aw (by rfl)]
    exact nx st out (fun s hs=>⟨(hst s hs).1,(qwq _).trans (hst s hs).2⟩) oA
   ·rw[hk,af oA,qW oA,qW oA]
    have p5:∀o,o=ku st (c::t) out->qbx fu (zf fu n) body b (pos body (dt (c::t))) 1 o=some (g9 b n (dt (c::t)) (some (dt (c::t))) (ku st (c::t) out)):=by
     intro o he;rw[qbx,qe6,aw (by rfl),he]
     exact nx (some (dt (c::t))) _ (fun s hs=>by cases hs;exact⟨hnx,List.suffix_refl _⟩) hal
    cases st with
    |none=>rw[show ib body none = -1 from rfl,ao];exact p5 _ rfl|some s=>
     obtain⟨q1,q2,q3,q4⟩:=q7x (hst s rfl).1 (hst s rfl).2 hb;rw[show ib body (some s)=pos body s from rfl,af q1,bp]
     by_cases hlt:ae (pos body (c::t)-2)<pos body s
     ·rw[qW oA]at q2 q3 q4
      rw[qX hlt,qby,af ⟨q1,q2,q3⟩,q4,af oB]
      exact p5 _ rfl
     ·rw[qW hlt,qby];by_cases heq:ae (pos body (c::t)-2)=pos body s
      ·rw[qW oA]at q2 q3 q4
       rw[heq,af ⟨q1,q2,q3⟩,q4,af oB]
       exact p5 _ rfl
      ·rw[qX oA]at q2 q3 q4
       rw[af ⟨q1,q2,q3⟩,q4,af oB]
       exact p5 _ rfl
   ·rw[hk,af oA,qW oA,qX rfl]
    have p5:∀o,o=ku st (c::t) out->qbx fu (zf fu n) body b (pos body (dt (c::t))) 2 o=some (ku st (c::t) out):=by
     intro o he;rw[qbx,qe6,au,he]
    cases st with
    |none=>rw[show ib body none = -1 from rfl,ao];exact p5 _ rfl|some s=>
     obtain⟨q1,q2,q3,q4⟩:=q7x (hst s rfl).1 (hst s rfl).2 hb;rw[show ib body (some s)=pos body s from rfl,af q1,bp]
     by_cases hlt:ae (pos body (c::t)-2)<pos body s
     ·rw[qW oA]at q2 q3 q4
      rw[qX hlt,qby,af ⟨q1,q2,q3⟩,q4,af oB]
      exact p5 _ rfl
     ·rw[qW hlt,qby];by_cases heq:ae (pos body (c::t)-2)=pos body s
      ·rw[qW oA]at q2 q3 q4
       rw[heq,af ⟨q1,q2,q3⟩,q4,af oB]
       exact p5 _ rfl
      ·rw[qX oA]at q2 q3 q4
       rw[af ⟨q1,q2,q3⟩,q4,af oB]
       exact p5 _ rfl
def zkd(fu:Nat)(hfu:90000000<=fu)(body b:Bs)(hb:body.length<=4000000)(hbb:b.length<=1000:=by omega):qri fu body b=some (gn body b):=by
 have:=z1e fu hfu body b hb hbb fu body none [] (List.suffix_refl _) oC oA (by simpa using hb)
 rw[q8s,show ib body none = -1 from rfl,zf8 b fu body none [] oA]at this
 exact this
def zmh(l:List aq)(f:aq->Nat)(hf:∀x,x.1.length+x.2.length+1<=f x):l.length<=(l.map f).sum/\∀x∈l,x.1.length+x.2.length<=(l.map f).sum:=by
 induction l with
 |nil=>exact⟨wF _,fun x h=>by cases h⟩
 |cons y l ih=>
  have hy:=hf y;refine⟨by simp only[qL,List.map_cons,List.sum_cons];omega,fun x hx => ?_⟩
  rw[List.map_cons,List.sum_cons];rcases List.mem_cons.1 hx with rfl|hx
  ·omega
  ·have:=ih.2 x hx;omega
def qxl:∀b:List UInt8,(List.map (Ty.byte.bk:Ty.byte.den->Nat) b).sum=b.length
 |[]=>rfl|c::b=>by
  show 1+(List.map (Ty.byte.bk:Ty.byte.den->Nat) b).sum=b.length+1;rw[qxl b];omega
def qh(x:aq):Nat:=(x.1.length+1)+(x.2.length+1)
end Go.Sym
