/- What the claim rests on, part 5: gathered texts. -/
import Derived.Sort.AssemblyPlain
import Derived.Test.YtgpcmiimfgghdabGreatDoorSyM3
set_option maxRecDepth 100000
set_option linter.defProp false
set_option linter.unusedSimpArgs false
set_option linter.unusedVariables false
namespace Go.Sym
def bq{x:Int}(h1 : -9223372036854775808<=x:=by omega)(h2:x<9223372036854775808:=by omega):ae x=x:=by
 unfold ae IntKind.wrap;simp[IntKind.signed,IntKind.bits];omega
def ar{α:Type}{b:Bool}{x y:α}(h:b=true:=by first|rfl|simp;done):(bif b then x else y)=x:=by subst h;rfl
def au{α:Type}{b:Bool}{x y:α}(h:b=false):(bif b then x else y)=y:=by subst h;rfl
def bn{α:Type}{p:Prop}[Decidable p]{x y:α}:(bif decide p then x else y)=if p then x else y:=by by_cases h:p<;>simp[h]
def ag{α:Type}{p:Prop}[Decidable p]{x y:α}(h:p:=by first|omega|simp;done|simp;omega):(bif decide p then x else y)=x:=ar (decide_eq_true h)
def ao{α:Type}{p:Prop}[Decidable p]{x y:α}(h:¬p:=by first|omega|simp;done|simp;omega):(bif decide p then x else y)=y:=au (decide_eq_false h)
def zab{α:Type}{b:Bool}{x y:α}:(bif !b then x else y)=if b=false then x else y:=by cases b<;>rfl
def znd{α:Type}{b:Bool}{x y:α}:(bif b then x else y)=if b=true then x else y:=by cases b<;>rfl
def ip{α:Type}{a b:Int}{x y:α}:(bif a != b then x else y)=if a≠b then x else y:=by
 by_cases h:a=b
 ·rw[au (by simp[h]),qW (by simp[h])]
 ·rw[ar (by simp[h]),qX h]
def eu{α:Type}{a b:Int}{x y:α}:(bif a==b then x else y)=if a=b then x else y:=by
 by_cases h:a=b
 ·rw[ar (by simp[h]),qX h]
 ·rw[au (by simp[h]),qW h]
def ez{α:Type}{a b:UInt8}{x y:α}:(bif a==b then x else y)=if a=b then x else y:=by
 by_cases h:a=b
 ·rw[ar (by simp[h]),qX h]
 ·rw[au (by simp[h]),qW h]
def qa9{α:Type}{a b:UInt8}{x y:α}:(bif a != b then x else y)=if a≠b then x else y:=by
 by_cases h:a=b
 ·rw[au (by simp[h]),qW (by simp[h])]
 ·rw[ar (by simp[h]),qX h]
def qt7{α:Type}{p:Prop}[Decidable p]{x y:α}:(if p then some x else some y)=some (if p then x else y):=by split<;>rfl
def gx{α β:Type}(l:List α)(i:Int)(f:α->Option β):(bif decide (0<=i/\i.toNat<List.length l) then(l[i.toNat]?).bind f else none)=(ai l i).bind f:=by
 unfold ai;by_cases h:0<=i
 ·by_cases h2:i.toNat<l.length
  ·simp[h,h2]
  ·simp[h,h2]
 ·simp[h]
def qq{α:Type}(l:List α)(k:Nat)(h:k<l.length):ai l (k:Int)=some l[k]:=by
 unfold ai;rw[qX oA];simp[h]
def a7{α:Type}(ab:List α)(c:α)(aa:List α):ai (ab++c::aa) (ab.length:Int)=some c:=by
 unfold ai;rw[qX oA];simp
def xu{α:Type}(ab:List α)(c:α)(aa:List α):(ab++c::aa)[((ab.length:Nat):Int).toNat]? = some c:=oC
def qmt{α:Type}(ab:List α)(c d:α)(aa:List α):List.set (ab++c::aa) ((ab.length:Nat):Int).toNat d=ab++d::aa:=oC
def aq(k:Nat)(h:k<9223372036854775807:=by omega):ae ((k:Int)+1)=((k+1:Nat):Int):=by rw[bq];omega
def iq(P:UInt8->Prop)(h:∀n:_root_.Fin 256,P (UInt8.ofNat n.val))(c:UInt8):P c:=by
 have:=h ⟨c.toNat,c.toNat_lt⟩;simpa using this
def lo(c:UInt8):UInt8:=if 65<=c/\c<=90 then c+32 else c
def bl(c:UInt8):Bool:=c==32||c==9
def cq(l:List UInt8):List UInt8:=(l.reverse.dropWhile bl).reverse
def bc(l:List UInt8):List UInt8:=l.dropWhile bl
def tx(l:List UInt8):List UInt8:=cq (bc l)
def yp(t:List UInt8)(c:UInt8):cq (t++[c])=if bl c then cq t else t++[c]:=by
 unfold cq;rw[List.reverse_append,List.reverse_singleton,wM,List.dropWhile];cases bl c
 ·simp
 ·simp
def il(n:Nat)(h:n<1000000000):ae (((n+1:Nat):Int)-1)=(n:Int):=by rw[bq];omega
def tg{α:Type}(t:List α)(c:α):ai (t++[c]) (t.length:Int)=some c:=a7 t c []
def rh{α:Type}(t:List α)(c:α):List.take ((t.length:Nat):Int).toNat (t++[c])=t:=oC
def ia{α:Type}(t:List α)(c:α):((t++[c]).length:Int)=((t.length+1:Nat):Int):=oC
def nv{α:Type}(ab:List α)(aa:List α):List.drop ((ab.length:Nat):Int).toNat (ab++aa)=aa:=oC
def qca{α:Type}(ab:List α)(aa:List α):List.take ((ab.length:Nat):Int).toNat (ab++aa)=ab:=oC
def qfb{α:Type}(ab:List α)(c:α)(aa:List α):List.drop ((ab.length+1:Nat):Int).toNat (ab++c::aa)=aa:=by
 rw[show((ab.length+1:Nat):Int).toNat=(ab++[c]).length by simp,show ab++c::aa=(ab++[c])++aa by simp]
 simp
def db{α:Type}(ab:List α)(c:α)(aa:List α):((ab++c::aa).length:Int)=((ab.length+aa.length+1:Nat):Int):=by simp;omega
def ql4{α:Type}(ab:List α)(aa:List α):((ab++aa).length:Int)=((ab.length+aa.length:Nat):Int):=oC
def xv(k:UInt8)(t r:List UInt8)(h:∀x∈t,x≠k):Lib.indexByte (t++k::r) k=(t.length:Int):=by
 induction t with
 |nil=>simp[Lib.indexByte]|cons c t ih=>
  have hc:=h c qH;rw[wK,Lib.indexByte,ih (fun x hx=>h x (qE _ hx)),qW (by simpa using hc),qW (by simp<;>omega)]
  simp
def xw(k:UInt8)(t:List UInt8)(h:∀x∈t,x≠k):Lib.indexByte t k = -1:=by
 induction t with
 |nil=>rfl|cons c t ih=>
  have hc:=h c qH;rw[Lib.indexByte,ih (fun x hx=>h x (qE _ hx)),qW (by simpa using hc),qX oE]
def qb7(k:UInt8):∀(s:List UInt8),(∃t r,s=t++k::r/\∀x∈t,x≠k)\/∀x∈s,x≠k
 |[] => .inr (fun _ h=>by cases h)
 |c::s=>by
  by_cases hc:c=k
  ·subst hc;exact .inl ⟨[],s,rfl,fun _ h=>by cases h⟩
  ·rcases qb7 k s with⟨t,r,rfl,h⟩|h
   ·exact .inl ⟨c::t,r,rfl,fun x hx=>(List.mem_cons.1 hx).elim (fun e=>e▸hc) (h x)⟩
   ·exact .inr fun x hx=>(List.mem_cons.1 hx).elim (fun e=>e▸hc) (h x)
def zcu(k:UInt8)(s:List UInt8):(0<=Lib.indexByte s k)↔k∈s:=by
 rcases qb7 k s with⟨t,r,rfl,h⟩|h
 ·rw[xv k t r h];simp
 ·rw[xw k s h];constructor
  ·intro h;omega
  ·intro hk;exact absurd rfl (h k hk)
def da{α:Type}{x y:α}:(bif !false then x else y)=x:=rfl
def bt{α:Type}{x y:α}:(bif !true then x else y)=y:=rfl
def qrq(a b:UInt8):(a==b)=(b==a):=by
 by_cases h:a=b
 ·rw[h]
 ·rw[beq_false_of_ne h,beq_false_of_ne (Ne.symm h)]
def zai{a b:Nat}(h:a<b):Nat.blt a b=true:=Nat.ble_eq_true_of_le h
def zah{a b:Nat}(h:¬a<b):Nat.blt a b=false:=by
 cases hq:Nat.blt a b
 ·rfl
 ·exact absurd (Nat.le_of_ble_eq_true hq) h
def q2x(l:List UInt8)(k:Nat)(c:UInt8)(h:l[k]? = some c):(⟨l.toArray⟩:ByteArray).get! k=c:=by
 obtain⟨hk,rfl⟩:=List.getElem?_eq_some_iff.1 h;show(l.toArray)[k]! = _;simp[hk]
def zw6(l:List UInt8):(⟨l.toArray⟩:ByteArray).size=l.length:=by simp[ByteArray.size]
def ze3(s:List UInt8)(p:Nat)(c:UInt8)(h:s[p]? = some c)(hc:c.toNat<128):fa s p=(c.toNat,1):=by
 unfold fa Utf8.decode;simp only[Nat.add_zero,q2x s p c h,hc,if_true]
def zu0(s:List UInt8)(p:Nat)(c:UInt8)(h:s[p]? = some c)(hc:128<=c.toNat):128<=(fa s p).1/\1<=(fa s p).2/\∀j,j<(fa s p).2->∃d,s[p+j]? = some d/\128<=d.toNat:=by
 have hn:¬c.toNat<128:=oA
 have cont:∀k,(decide (p+k<(⟨s.toArray⟩:ByteArray).size)&&((⟨s.toArray⟩:ByteArray).get! (p+k)).toNat/64==2)=true->∃d,s[p+k]? = some d/\128<=d.toNat:=by
  intro k hk;simp only[qA,decide_eq_true_eq,beq_iff_eq,zw6]at hk;obtain⟨h1,h2⟩:=hk;refine⟨s[p+k],by simp[h1],?_⟩
  rw[q2x s (p+k) s[p+k] (by simp[h1])]at h2
  omega
 have z:∀j,j<1->∃d,s[p+j]? = some d/\128<=d.toNat:=fun j hj=>by
  obtain rfl:j=0:=oA
  exact⟨c,h,hc⟩
 unfold fa Utf8.decode;simp only[Nat.add_zero,q2x s p c h,hn,if_false];split
 ·rename_i hk;simp only[qA]at hk;have c1:=cont 1 (by simpa using hk.2)
  split
  ·rename_i hge;refine⟨hge,oC,fun j hj => ?_⟩
   match j,hj with|0,_=>exact⟨c,h,hc⟩|1,_=>exact c1
  ·exact⟨oY,wF _,z⟩
 ·split
  ·rename_i hk;simp only[qA]at hk;have c1:=cont 1 (by simpa using hk.1.2)
   have c2:=cont 2 (by simpa using hk.2)
   split
   ·rename_i hge;simp only[qA,decide_eq_true_eq]at hge;refine⟨oM,oC,fun j hj => ?_⟩
    match j,hj with|0,_=>exact⟨c,h,hc⟩|1,_=>exact c1|2,_=>exact c2
   ·exact⟨oY,wF _,z⟩
  ·split
   ·rename_i hk;simp only[qA]at hk;have c1:=cont 1 (by simpa using hk.1.1.2)
    have c2:=cont 2 (by simpa using hk.1.2)
    have c3:=cont 3 (by simpa using hk.2)
    split
    ·rename_i hge;simp only[qA,decide_eq_true_eq]at hge;refine⟨oM,oC,fun j hj => ?_⟩
     match j,hj with|0,_=>exact⟨c,h,hc⟩|1,_=>exact c1|2,_=>exact c2|3,_=>exact c3
    ·exact⟨oY,wF _,z⟩
   ·exact⟨oY,wF _,z⟩
def zu4(n:Int)(h:128<=n):∃t c,cg n=t++[c]/\128<=c.toNat/\t.length<=3:=by
 unfold cg Utf8.encode;have hc:∀c:Nat,(if Utf8.valid n=true then n.toNat else Utf8.runeError)=c->128<=c:=by
  intro c hc;split at hc
  ·omega
  ·subst hc;decide
 have last:∀m:Nat,128<=(UInt8.ofNat (0x80+m%64)).toNat:=fun m=>by
  simp only[UInt8.toNat_ofNat'];omega
 generalize hq:(if Utf8.valid n=true then n.toNat else Utf8.runeError)=c
 have hc:=hc c hq;simp only[];rw[qW oA]
 split
 ·exact⟨[_],_,rfl,last _,oC⟩
 ·split
  ·exact⟨[_,_],_,rfl,last _,oC⟩
  ·exact⟨[_,_,_],_,rfl,last _,oC⟩
def q3h(c:UInt8):(c+97)-65=c+32:=by
 rw[UInt8.sub_eq_add_neg,UInt8.add_assoc];rfl
def ql5(fu:Nat):∀(n:Nat)(ab aa:List UInt8),aa.length<n->ab.length+aa.length<=9223372036854775807 ->
  ul fu n ((ab.length+aa.length:Nat):Int) (ab.length:Int) (ab++aa)=some (ab++aa.map lo)
 |0,_,_,h,_=>absurd h oA|n+1,ab,[],_,_=>by simp[ul,qdv]|n+1,ab,c::aa,h,hb=>by
  simp only[qL]at h hb;have ih:=fun d=>ql5 fu n (ab++[d]) aa oA oB
  simp only[qM,qL,qZ,qS,wM,wO]at ih;have e:((ab.length+(c::aa).length:Nat):Int)=((ab.length+1+aa.length:Nat):Int):=by simp only[qL];omega
  have hl:0<=(ab.length:Int)/\(ab.length:Int).toNat<(ab++c::aa).length:=oC
  rw[e];simp only[ul,qdv];rw[ag,ag hl,xu,qB,qmt,aq _,bn,bn,ih,ih,ag hl,qB]
  unfold lo;simp only[List.map_cons,q3h];by_cases h1:(65:UInt8)<=c
  ·by_cases h2:c<=90
   ·simp[h1,h2]
   ·simp[h1,h2]
  ·simp[h1]
def qfu(fu:Nat)(s:List UInt8)(h:s.length<fu)(hb:s.length<=maxLen):wv fu s=some (s.map lo):=by
 unfold wv;rw[ag hb];have:=ql5 fu fu [] s h (by simpa [maxLen] using hb)
 simpa using this
def gw(x a b:Int):ej x a b=some (decide (a<=x/\x<=b)):=by
 unfold ej;by_cases h:a<=x<;>simp[h]
def qm1(a b:UInt8):((a.toNat:Int)<=(b.toNat:Int))↔a<=b:=by rw[UInt8.le_iff_toNat_le];omega
def qmi(fu:Nat):∀(n:Nat)(ab aa:List UInt8),aa.length<n->ab.length+aa.length<=9223372036854775807 ->
  uh fu n (ab.length:Int) (ab++aa)=some (ab++aa.map lo)
 |0,_,_,h,_=>absurd h oA|n+1,ab,[],_,_=>by simp[uh,qcz]|n+1,ab,c::aa,h,hb=>by
  simp only[qL]at h hb;have ih:=fun d=>qmi fu n (ab++[d]) aa oA oB
  simp only[qM,qL,qZ,qS,wM,wO]at ih;have hl:0<=(ab.length:Int)/\(ab.length:Int).toNat<(ab++c::aa).length:=oC
  simp only[uh,qcz];rw[ag,ag hl,xu,qB,gw,qB,aq _,bn,ag hl,qB,ag hl,qB,qmt,ih,ih]
  unfold lo;simp only[List.map_cons];have e1:=qm1 65 c;have e2:=qm1 c 90;have q1:((65:UInt8).toNat:Int)=65:=rfl;have q2:((90:UInt8).toNat:Int)=90:=rfl;rw[q1]at e1;rw[q2]at e2;by_cases h1:(65:UInt8)<=c/\c<=90
  ·rw[qX ⟨e1.2 h1.1,e2.2 h1.2⟩,qX h1]
  ·rw[qW (fun q=>h1 ⟨e1.1 q.1,e2.1 q.2⟩),qW h1]
def vn(fu:Nat)(s:List UInt8)(h:s.length<fu)(hb:s.length<=maxLen):pp fu s=some (s.map lo):=by
 unfold pp;rw[ag hb];have:=qmi fu fu [] s h (by simpa [maxLen] using hb)
 simpa using this
def zns(fu:Nat)(a b:List UInt8)(ha:a.length<fu)(hb:b.length<fu)(ha':a.length<=maxLen)(hb':b.length<=maxLen):ek fu a b=some (a.map lo==b.map lo):=by
 unfold ek;rw[eu,qfu fu a ha ha',qfu fu b hb hb'];by_cases h:(a.length:Int)=b.length
 ·rw[qX h];rfl
 ·rw[qW h];have:(a.map lo==b.map lo)=false:=by
   rw[beq_eq_false_iff_ne];intro q;apply h;have:=congrArg List.length q;simp only[wC]at this;omega
  rw[this]
def qrc(fu:Nat)(a b:List UInt8)(ha:a.length<fu)(hb:b.length<fu)(ha':a.length<=maxLen)(hb':b.length<=maxLen):ei fu a b=some (a.map lo==b.map lo):=by
 unfold ei;rw[vn fu a ha ha',vn fu b hb hb'];rfl
def zyi(c:UInt8):dc (c.toNat:Int)=c:=by
 unfold dc;have:=c.toNat_lt;rw[show((c.toNat:Int)%256).toNat=c.toNat by omega]
 simp
def zgh(s:List UInt8)(c:UInt8):xc s c=some (Lib.indexByte s c):=rfl
def zqw(fu:Nat)(cs:List UInt8)(c:UInt8)(h:c.toNat<128):qav fu cs (c.toNat:Int)=some (Lib.indexByte cs c):=by
 unfold qav qkl;rw[ag,ag,zyi,zgh];rfl
def zqu(fu n:Nat):∀(cs:List UInt8)(p:Nat),(∀c∈cs,c.toNat<128)->cs.length-p<n->p<=cs.length->qkm fu n cs p=some (-1):=by
 induction n with
 |zero=>intro cs p _ h;omega|succ n ih=>
  intro cs p hA h hp;rw[qkm,qzr];by_cases hlt:p<cs.length
  ·have e:cs[p]? = some cs[p]:=List.getElem?_eq_getElem hlt;have hc:=hA cs[p] (List.getElem_mem hlt);rw[ar (zai hlt),ze3 cs p _ e hc,eu,qW oM]
   exact ih cs (p+1) hA oA oA
  ·rw[au (zah hlt)]
def zqv(fu:Nat)(cs:List UInt8)(r:Int)(hr:128<=r)(hA:∀c∈cs,c.toNat<128)(hfu:cs.length<fu)(hb:cs.length<1000):qav fu cs r=some (-1):=by
 unfold qav qkl;rw[ag,ao,eu]
 by_cases h1:r=65533
 ·rw[qX h1];exact zqu fu fu cs 0 hA oA oA
 rw[qW h1];have hv:∃b,qqu r=some b:=by
  unfold qqu;simp only[bn]
  repeat' split
  all_goals exact⟨_,rfl⟩
 obtain⟨b,hv⟩:=hv;rw[hv,qB];cases b
 ·rfl
 rw[show(!true)=false from rfl,qF]
 obtain⟨t,c,e,hc,ht⟩:=zu4 r hr;rw[e,ia,il _ oA]
 obtain⟨n,rfl⟩:∃n,fu=n+1:=⟨fu-1,oA⟩
 rw[qqj,qzs];by_cases hl:t.length<cs.length
 ·have hcs:=hA cs[t.length] (List.getElem_mem hl);have hne:cs[t.length]≠c:=fun e=>by rw[e]at hcs;omega
  rw[ag,qq _ _ hl,qB,tg,qB,qa9,qX hne,aq _,ag,qB,zgh,qB,xw,ag oE]
  intro x hx e;have:=hA x (List.mem_of_mem_drop hx);rw[e]at this;omega
 ·rw[ao]
def ja(cs:List UInt8):List Bool:=cs.foldl (fun m c=>m.set c.toNat true) (List.replicate 256 false)
structure AC(cs:List UInt8):Prop where
 two:2<=cs.length
 few:cs.length<100
 low:∀c∈cs,c.toNat<128
 set:∀n,qkp (n+100) cs=some (ja cs,true)
 get:∀c:UInt8,(ja cs)[c.toNat]? = some (cs.contains c)
 len:(ja cs).length=256
def qe2{cs:List UInt8}(A:AC cs)(c:UInt8):qed c (ja cs)=some (cs.contains c,ja cs):=by
 unfold qed;rw[A.get];rfl
def zqi{cs:List UInt8}(A:AC cs)(fu n:Nat):∀(ab aa:List UInt8),aa.length<n->ab.length+aa.length<1000000000 ->
  ∃r,qkj fu n (ab++aa) (ab.length:Int) (ja cs)=some r/\decide (0<=r)=aa.any cs.contains:=by
 induction n with
 |zero=>intro ab aa h;omega|succ n ih=>
  intro ab aa h hb;rw[qkj,qzo]
  cases aa with
  |nil=>rw[ao];exact⟨-1,rfl,rfl⟩|cons c aa=>
   simp only[qL]at h hb;rw[db,ag,a7,qB,qe2 A,qB]
   cases hc:cs.contains c
   ·obtain⟨r,h1,h2⟩:=ih (ab++[c]) aa oA oB
    refine⟨r,?_,by rw[h2,List.any_cons,hc,Bool.false_or]⟩
    rw[aq _]
    simpa using h1
   ·exact⟨_,rfl,by rw[List.any_cons,hc,Bool.true_or];exact decide_eq_true oA⟩
def zqj{cs:List UInt8}(A:AC cs)(fu:Nat)(hfu:100<=fu)(s:List UInt8):∀(n p:Nat),s.length-p<n->p<=s.length ->
  ∃r,qkk fu n cs s p=some r/\decide (0<=r)=(s.drop p).any cs.contains:=by
 intro n
 induction n with
 |zero=>intro p h;omega|succ n ih=>
  intro p h hp;rw[qkk,qzp];by_cases hlt:p<s.length
  ·have e:s[p]? = some s[p]:=List.getElem?_eq_getElem hlt;have hd:s.drop p=s[p]::s.drop (p+1):=List.drop_eq_getElem_cons hlt;rw[ar (zai hlt)];by_cases hc:s[p].toNat<128
   ·rw[ze3 s p _ e hc];simp only;rw[zqw fu cs _ hc,qB,bn,hd,List.any_cons];by_cases hm:s[p]∈cs
    ·rw[qX ((zcu _ _).2 hm)];exact⟨_,rfl,by rw[show cs.contains s[p]=true by simpa using hm,Bool.true_or];exact decide_eq_true oA⟩
    ·rw[qW (fun h=>hm ((zcu _ _).1 h))]
     obtain⟨r,h1,h2⟩:=ih (p+1) oA oA
     exact⟨r,h1,by rw[h2,show cs.contains s[p]=false by simpa using hm,Bool.false_or]⟩
   ·obtain⟨q1,q2,q3⟩:=zu0 s p _ e oA
    rw[zqv fu cs _ oA A.low (by have:=A.few;omega) (by have:=A.few;omega),qB,ao oE]
    have hle:p+(fa s p).2<=s.length:=by
     obtain⟨d,hd,_⟩:=q3 ((fa s p).2-1) oA
     have:=(List.getElem?_eq_some_iff.1 hd).1;omega
    obtain⟨r,h1,h2⟩:=ih (p+(fa s p).2) oA hle
    refine⟨r,h1,?_⟩;rw[h2];have:∀w,(∀j,j<w->∃d,s[p+j]? = some d/\128<=d.toNat)->(s.drop (p+w)).any cs.contains=(s.drop p).any cs.contains:=by
     intro w
     induction w with
     |zero=>intro _;rfl|succ w ihw=>
      intro hw;rw[← ihw (fun j hj=>hw j oA)]
      obtain⟨d,hd,hd2⟩:=hw w oA
      obtain⟨k1,k2⟩:=List.getElem?_eq_some_iff.1 hd;rw[List.drop_eq_getElem_cons k1,k2,List.any_cons,show cs.contains d=false by
       simp only[List.contains_eq_mem,decide_eq_false_iff_not];intro hm;have:=A.low d hm;omega,Bool.false_or]
      rfl
    exact this _ q3
  ·rw[au (zah hlt)];exact⟨-1,rfl,by rw[List.drop_eq_nil_of_le oA];rfl⟩
def zn8{cs:List UInt8}(A:AC cs)(fu:Nat)(s:List UInt8)(hfu:100<=fu)(h:s.length<fu)(hb:s.length<1000000000):qqc fu s cs=some (s.any cs.contains):=by
 unfold qqc;have:∃r,qqh fu s cs=some r/\decide (0<=r)=s.any cs.contains:=by
  unfold qqh;have h2:=A.two;rw[au (by cases cs with
   |nil=>simp at h2| cons a b=>rfl),eu,qW oA]
  unfold qzz;rw[qB,bn];split
  ·obtain⟨n,rfl⟩:∃n,fu=n+100:=⟨fu-100,oA⟩
   rw[A.set,qB];simp only[A.len];rw[ar (by rw[List.length_replicate];rfl),ar]
   have:=zqi A (n+100) (n+100) [] s oA (by simpa using hb)
   simpa using this
  ·have:=zqj A fu hfu s fu 0 oA oA
   simpa [qqi] using this
 obtain⟨r,h1,h2⟩:=this;rw[h1,qB,h2]
def zl0:∀n:_root_.Fin 256,(ja [13,10,0])[(UInt8.ofNat n.val).toNat]? = some (([13,10,0]:List UInt8).contains (UInt8.ofNat n.val)):=by decide +kernel
def ac1:AC [13,10,0]:=⟨oE,oE,oE,fun n=>oD,fun c=>iq (fun c=>(ja [13,10,0])[c.toNat]? = some (([13,10,0]:List UInt8).contains c)) zl0 c,by decide +kernel⟩
def zl1:∀n:_root_.Fin 256,(ja [32,9])[(UInt8.ofNat n.val).toNat]? = some (([32,9]:List UInt8).contains (UInt8.ofNat n.val)):=by decide +kernel
def ac3:AC [32,9]:=⟨oE,oE,oE,fun n=>oD,fun c=>iq (fun c=>(ja [32,9])[c.toNat]? = some (([32,9]:List UInt8).contains c)) zl1 c,by decide +kernel⟩
def zag(c:UInt8):([32,9]:List UInt8).contains c=bl c:=by rw[Bool.eq_iff_iff];simp[bl]
def zf1(c:UInt8)(s:List UInt8):cq (c::s)=if cq s=[] then(if bl c then[] else[c]) else c::cq s:=by
 unfold cq;rw[List.reverse_cons];generalize s.reverse=r
 induction r with
 |nil=>simp[List.dropWhile];cases bl c<;>rfl
 |cons x r ih=>
  rw[wK,List.dropWhile,List.dropWhile];cases bl x
  ·simp
  ·simpa using ih
def qw(c:UInt8)(s:List UInt8):bc (c::s)=if bl c then bc s else c::s:=by
 unfold bc;rw[List.dropWhile];cases bl c<;>rfl
def zhd:∀s:List UInt8,bc (cq s)=tx s
 |[]=>rfl|c::s=>by
  unfold tx;have ih:=zhd s;unfold tx at ih;rw[zf1,qw];cases hc:bl c
  ·simp only[wJ,if_false];rw[zf1,hc];simp only[wJ,if_false];split
   ·rw[qw,hc];rfl
   ·rw[qw,hc];rfl
  ·simp only[if_true];rw[← ih];split
   ·rename_i h;rw[h]
   ·rw[qw,hc];rfl
def qf5(s:List UInt8):(cq s).length<=s.length:=by
 unfold cq;rw[List.length_reverse];have:=(List.dropWhile_sublist bl (l:=s.reverse)).length_le;simpa using this
def mo(s:List UInt8):(bc s).length<=s.length:=(List.dropWhile_sublist bl).length_le
def qbg(s:List UInt8):Bool := !(s.head?.any bl) && !(s.getLast?.any bl)
def zyr(s:List UInt8):decide (tx s=s)=qbg s:=by
 unfold qbg;cases hf:s.head?.any bl
 ·cases hl:s.getLast?.any bl
  ·rw[decide_eq_true];rfl;unfold tx;have h1:bc s=s:=by
    cases s with|nil=>rfl|cons c s=>rw[qw];simp at hf;rw[hf];rfl
   rw[h1];rcases List.eq_nil_or_concat s with rfl|⟨t,c,rfl⟩
   ·rfl
   ·rw[List.concat_eq_append]at *;rw[yp];simp at hl;rw[hl];rfl
  ·rw[decide_eq_false];rfl;rw[← zhd];rcases List.eq_nil_or_concat s with rfl|⟨t,c,rfl⟩
   ·simp at hl
   ·rw[List.concat_eq_append]at *;simp at hl;rw[yp,hl,qX rfl];intro e;have:=Nat.le_trans (mo (cq t)) (qf5 t);rw[e]at this;simp at this;omega
 ·rw[decide_eq_false];rfl
  cases s with
  |nil=>simp at hf|cons c s=>
   simp at hf;unfold tx;rw[qw,hf,qX rfl];intro e;have:=Nat.le_trans (qf5 (bc s)) (mo s);rw[e]at this;simp at this;omega
def qrr(c:UInt8):qae c=some (bl c):=by unfold qae bl;cases c==32<;>rfl
def qb3(c:UInt8):lz c=some (bl c):=by unfold lz bl;cases c==32<;>rfl
def xp(f:Int×Int):fv f=some (f.1 != 0):=rfl
def vj(c:UInt8):Bool:=decide (33<=c)&&decide (c<=126)&&c != 58
def ql(s:List UInt8):Bool:=s != []&&decide (s.length<=60)&&s.all vj
def zsk(c:UInt8):qpf c=some (vj c):=by
 unfold qpf vj;cases decide (33<=c)<;>cases decide (c<=126)<;>rfl
def zma(fu n:Nat):∀(ab aa:List UInt8),aa.length<n->ab.length+aa.length<1000000000 ->
  qja fu n (ab++aa) ((ab.length+aa.length:Nat):Int) (ab.length:Int)=some (aa.all vj):=by
 induction n with
 |zero=>intro ab aa h;omega|succ n ih=>
  intro ab aa h hb;rw[qja,qxr]
  cases aa with
  |nil=>rw[ao];rfl|cons c aa=>
   simp only[qL]at h hb ⊢;rw[ag,a7,qB,zsk,qB,List.all_cons]
   cases hc:vj c
   ·rfl
   ·have:=ih (ab++[c]) aa oA oB
    rw[aq _]
    simp only[qS,wM,qM,qL,qZ]at this;rw[show ab.length+0+1+aa.length=ab.length+(aa.length+1) by omega]at this
    simpa using this
def zpw(fu:Nat)(s:List UInt8)(h:61<fu:=by omega):qpe fu s=some (ql s):=by
 unfold qpe ql
 cases s with
 |nil=>rfl|cons c s=>
  rw[show(!c::s==([]:List UInt8))=true from rfl,show(c::s != ([]:List UInt8))=true from rfl,qT,bn]
  split
  ·rename_i hl;simp only[qL]at hl;unfold qxq;have:=zma fu fu [] (c::s) oG oU
   simp only[List.nil_append,qZ,wO]at this;rw[show(0:Int)=((0:Nat):Int) from rfl,this,decide_eq_true oG]
   rfl
  ·rename_i hl;rw[decide_eq_false oA]
   rfl
def zfq(a b c:Int):ej a b c=some (decide (b<=a)&&decide (a<=c)):=by
 unfold ej;rw[bn];split
 ·rename_i h;rw[decide_eq_true h];rfl
 ·rename_i h;rw[decide_eq_false h];rfl
def zsm:∀n:_root_.Fin 256,(decide ((33:Int)<=((UInt8.ofNat n.val).toNat:Int))&&decide (((UInt8.ofNat n.val).toNat:Int)<=126) && !((UInt8.ofNat n.val)==58))=vj (UInt8.ofNat n.val):=by decide +kernel
def zsl(c:UInt8):(decide ((33:Int)<=(c.toNat:Int))&&decide ((c.toNat:Int)<=126) && !(c==58))=vj c:=iq (fun c=>(decide ((33:Int)<=(c.toNat:Int))&&decide ((c.toNat:Int)<=126) && !(c==58))=vj c) zsm c
def zvu(fu n:Nat):∀(ab aa:List UInt8),aa.length<n->ab.length+aa.length<1000000000 ->
  qhj fu n (ab++aa) (ab.length:Int)=some (aa.all vj&&(decide (1<=ab.length+aa.length)&&decide (ab.length+aa.length<=60))):=by
 induction n with
 |zero=>intro ab aa h;omega|succ n ih=>
  intro ab aa h hb;rw[qhj,qvk]
  cases aa with
  |nil=>
   rw[ao,zfq,List.all_nil,Bool.true_and]
   simp only[List.append_nil,qZ,Nat.add_zero,qB];congr 2
   ·rw[Bool.eq_iff_iff];simp only[decide_eq_true_eq];omega
   ·rw[Bool.eq_iff_iff];simp only[decide_eq_true_eq];omega
  |cons c aa=>
   simp only[qL]at h hb ⊢;rw[db,ag,a7,qB,zfq,qB,qB,List.all_cons,← zsl]
   cases decide ((33:Int)<=(c.toNat:Int))&&decide ((c.toNat:Int)<=126)
   ·rfl
   ·cases c==58
    ·have:=ih (ab++[c]) aa oA oB
     rw[aq _]
     simp only[qS,wM,qM,qL,qZ]at this;rw[show ab.length+(0+1)+aa.length=ab.length+(aa.length+1) by omega]at this
     simpa using this
    ·rfl
def zvt(fu:Nat)(s:List UInt8)(h:s.length<fu)(hb:s.length<1000000000):qns fu s=some (ql s):=by
 unfold qns ql;have:=zvu fu fu [] s h (by simpa using hb)
 rw[show(0:Int)=(([]:List UInt8).length:Int) from rfl,show s=[]++s from rfl,this]
 simp only[qZ,wO,List.nil_append];congr 1
 cases s with
 |nil=>rfl|cons c s=>
  rw[show(c::s != ([]:List UInt8))=true from rfl,decide_eq_true (show 1<=(c::s).length by simp)]
  simp only[Bool.true_and];exact Bool.and_comm _ _
def qfj(s:List UInt8):Bool := !(s.any ([13,10,0]:List UInt8).contains)&&qbg s
def zco(fu:Nat)(s:List UInt8)(hfu:100<=fu)(h:s.length<fu)(hb:s.length<1000000000):qpi fu s=some (qfj s):=by
 unfold qpi qyc qfj;rw[zn8 ac1 fu s hfu h hb,qB,qB];cases s.any ([13,10,0]:List UInt8).contains
 ·rw[da];unfold qbg
  cases s with
  |nil=>rfl|cons c t=>
   rw[au (by rfl),show ai (c::t) (0:Int)=some c from rfl,qB,qrr,qB]
   rw[show(c::t).head?.any bl=bl c from rfl]
   cases bl c
   ·rw[da];rcases List.eq_nil_or_concat (c::t) with e|⟨u,d,e⟩
    ·cases e
    ·rw[List.concat_eq_append]at e;rw[e]at hb ⊢;simp only[qM,qL,qZ]at hb;rw[ia,il _ oA,tg,qB,qrr,qB]
     simp
   ·rfl
 ·rfl
def zf0(fu:Nat)(_r0:Nat->List UInt8->Option (List UInt8))(n:Nat):∀(s:List UInt8),s.length<n->s.length<1000000000->qif fu n s=some (cq s):=by
 induction n with
 |zero=>intro s h;omega|succ n ih=>
  intro s h hb;rw[qif,qwk];rcases List.eq_nil_or_concat s with rfl|⟨t,c,rfl⟩
  ·rw[ao];rfl
  ·rw[List.concat_eq_append]at *;simp only[qM,qL,qZ]at h hb;rw[ia,ag,il _ oA,tg,qB,qb3,qB,rh,ag,ih t oA oA,yp]
   cases bl c<;>rfl
def zun(fu n:Nat):∀(s:List UInt8),s.length<n->s.length<fu->s.length<1000000000->qid fu n s=some (tx s):=by
 induction n with
 |zero=>intro s h;omega|succ n ih=>
  intro s h hf hb;rw[qid,qwj]
  cases s with
  |nil=>
   rw[ao]
   unfold qie;rw[au (by rfl),zf0 fu (fun _ _=>none) fu [] hf hb];rfl
  |cons c s=>
   rw[ag,show ai (c::s) (0:Int)=some c from rfl,qB,qb3,qB]
   unfold qie tx;rw[qw];simp only[qL]at h hf hb;cases bl c
   ·rw[au (by rfl),zf0 fu (fun _ _=>none) fu (c::s) oG oG];rfl
   ·rw[ar]
    unfold qwl;rw[ag oG]
    exact ih s oA oA oA
def zum(fu:Nat)(s:List UInt8)(h:s.length<fu)(hb:s.length<1000000000):qwi fu s=some (tx s):=zun fu fu s h h hb
def q5p(fu n:Nat):∀(s:List UInt8),s.length<n->s.length<1000000000->qay fu n s (ja [32,9])=some (cq s,ja [32,9]):=by
 induction n with
 |zero=>intro s h;omega|succ n ih=>
  intro s h hb;rw[qay,qqq];rcases List.eq_nil_or_concat s with rfl|⟨t,c,rfl⟩
  ·rw[ao];rfl
  ·rw[List.concat_eq_append]at *;simp only[qM,qL,qZ]at h hb;rw[ia,ag,il _ oA,tg,qB,qe2 ac3,qB,rh,ag,ih t oA oA,yp,zag]
   cases bl c<;>rfl
def q5q(fu:Nat)(s:List UInt8)(hfu:100<=fu)(h:s.length<fu)(hb:s.length<1000000000):qax fu s [32,9]=some (cq s):=by
 unfold qax
 cases s with
 |nil=>rfl|cons c s=>
  rw[au (by rfl)]
  unfold qkn;rw[au (by rfl)]
  unfold qqn;rw[au oE]
  unfold qko;rw[au (by rfl)]
  unfold qqo;obtain⟨n,rfl⟩:∃n,fu=n+100:=⟨fu-100,oA⟩
  rw[ac3.set,qB];simp only[ac3.len];rw[ar (by rw[List.length_replicate];rfl),ar]
  unfold qqp;rw[q5p _ _ _ h hb];rfl
def zs3(fu:Nat)(hfu:10<=fu)(c a b d:UInt8):wo fu c [a,b,d]=some (([a,b,d]:List UInt8).contains c):=by
 obtain⟨n,rfl⟩:∃n,fu=n+10:=⟨fu-10,oA⟩
 unfold wo;simp only[qc7,qn9];rw[ar,show ai [a,b,d] (0:Int)=some a from rfl,qB]
 simp only[List.contains_cons,List.contains_nil,Bool.or_false];rw[qrq a c,show(ae (0+1))=(1:Int) from rfl]
 cases c==a
 ·rw[au (by rfl),ar,show ai [a,b,d] (1:Int)=some b from rfl,qB,qrq b c,show(ae (1+1))=(2:Int) from rfl]
  cases c==b
  ·rw[au (by rfl),ar,show ai [a,b,d] (2:Int)=some d from rfl,qB,qrq d c,show(ae (2+1))=(3:Int) from rfl]
   cases c==d
   ·rfl
   ·rfl
  ·rfl
 ·rfl
def zuu(fu n:Nat)(hfu:10<=fu):∀(ab aa:List UInt8),aa.length<n->ab.length+aa.length<1000000000->ab.length+aa.length<fu ->
  qcs fu n (ab++aa) (ab.length:Int)=some (if aa.any ([13,10,0]:List UInt8).contains || !qbg (ab++aa) then 11 else 0):=by
 induction n with
 |zero=>intro ab aa h;omega|succ n ih=>
  intro ab aa h hb hf;rw[qcs,qvj]
  cases aa with
  |nil=>
   rw[ao,List.append_nil,zum fu ab (by simpa using hf) (by simpa using hb),qB,← zyr,List.any_nil,Bool.false_or]
   by_cases e:tx ab=ab
   ·rw[decide_eq_true e,e];simp
   ·rw[decide_eq_false e,ar (by simpa using e)];rfl
  |cons c aa=>
   simp only[qL]at h hb hf;rw[db,ag,a7,qB,zs3 fu hfu,qB,List.any_cons]
   cases hc:([13,10,0]:List UInt8).contains c
   ·have:=ih (ab++[c]) aa oA oB oB
    rw[au (by rfl),aq _,Bool.false_or]
    simpa using this
   ·rfl
def qi(n v:List UInt8):Int:=if ql n then(if 4000<v.length then 1 else if qfj v then 0 else 11) else 10
def zut(fu:Nat)(n v:List UInt8)(hfu:10<=fu)(hn:n.length<fu)(hv:v.length<fu)(hnb:n.length<1000000000)(hvb:v.length<1000000000):qhi fu n v=some (qi n v):=by
 unfold qhi qi;rw[zvt fu n hn hnb,qB];cases ql n
 ·rfl
 ·rw[au (by rfl),qX rfl,bn]
  split
  ·rename_i h;rw[qX oA]
  ·rename_i h;rw[qW oA]
   have:=zuu fu fu hfu [] v hv (by simpa using hvb) (by simpa using hv)
   simp only[List.nil_append,qZ]at this;have this:qcs fu fu v 0=some (if(v.any ([13,10,0]:List UInt8).contains || !qbg v)=true then 11 else 0):=this
   rw[this];unfold qfj;cases v.any ([13,10,0]:List UInt8).contains<;>cases qbg v<;>rfl
def tk(c:UInt8):Bool:=decide (33<=c)&&decide (c<=126) && !([40,41,60,62,64,44,59,58,92,34,47,91,93,63,61,42,37,39]:Bs).contains c
def zyh:∀n:_root_.Fin 256,pu (UInt8.ofNat n.val)=some (tk (UInt8.ofNat n.val)):=by decide +kernel
def qm0(c:UInt8):pu c=some (tk c):=iq (fun c=>pu c=some (tk c)) zyh c
def zs4(fu n:Nat)(c:UInt8):∀(ab aa:Bs),aa.length<n->ab.length+aa.length<1000000000 ->
  qc7 fu n c (ab++aa) (ab.length:Int)=some (aa.contains c):=by
 induction n with
 |zero=>intro ab aa h;omega|succ n ih=>
  intro ab aa h hb;rw[qc7,qn9]
  cases aa with
  |nil=>rw[ao];rfl|cons d aa=>
   simp only[qL]at h hb;rw[db,ag,a7,qB,aq _,ez,List.contains_cons]
   have:=ih (ab++[d]) aa oA oB
   simp only[qM,qL,qZ,qS,wM]at this;by_cases e:d=c
   ·rw[qX e];simp[e]
   ·rw[qW e,this];have:(c==d)=false:=by simp;exact fun h=>e h.symm
    rw[this,Bool.false_or]
def zd9(fu:Nat)(c:UInt8)(l:Bs)(h:l.length<fu:=by omega)(hb:l.length<1000000000:=by omega):wo fu c l=some (l.contains c):=by
 have:=zs4 fu fu c [] l h (by simpa using hb)
 simpa [wo] using this
def q40(fu:Nat)(hfu:100<=fu)(c:UInt8):qdd fu c=some (tk c):=by
 unfold qdd;rw[gw,qB,zd9 fu c _ oB oC,qB]
 unfold tk;have h1:(33<=(c.toNat:Int)/\(c.toNat:Int)<=126)↔(33<=c/\c<=126):=by
  rw[UInt8.le_iff_toNat_le,UInt8.le_iff_toNat_le];show _↔(33<=c.toNat/\c.toNat<=126);omega
 by_cases h2:33<=c/\c<=126
 ·rw[decide_eq_true (h1.2 h2),ar rfl,decide_eq_true h2.1,decide_eq_true h2.2];rfl
 ·rw[decide_eq_false (fun h=>h2 (h1.1 h)),au rfl]
  by_cases h3:33<=c
  ·have h4:¬c<=126:=fun h=>h2 ⟨h3,h⟩
   rw[decide_eq_false h4];simp
  ·rw[decide_eq_false h3];simp
def qa6(P:UInt8->Option Bool):Nat->Bs->Int->Int->Option Bool|0,_,_,_=>none|n+1,s0,s7,s8=>bif decide (s8<s7) then(ai s0 s8).bind fun c1=>(P c1).bind fun x2=>bif !x2 then some false else qa6 P n s0 s7 (ae (s8+(1:Int))) else some true
def zl9(P:UInt8->Option Bool)(p:UInt8->Bool)(hP:∀c,P c=some (p c))(n:Nat):∀(ab aa:Bs),aa.length<n->ab.length+aa.length<9223372036854775807 ->
  qa6 P n (ab++aa) ((ab.length+aa.length:Nat):Int) (ab.length:Int)=some (aa.all p):=by
 induction n with
 |zero=>intro ab aa h;omega|succ n ih=>
  intro ab aa h hb;rw[qa6]
  cases aa with
  |nil=>rw[ao];rfl|cons d aa=>
   simp only[qL]at h hb ⊢;rw[ag,a7,qB,hP,qB,aq _,List.all_cons]
   have:=ih (ab++[d]) aa oA oB
   simp only[qM,qL,qZ,qS,wM]at this;cases p d
   ·rfl
   ·rw[au (by rfl),Bool.true_and,show((ab.length+(aa.length+1):Nat):Int)=((ab.length+1+aa.length:Nat):Int) by omega]
    exact this
def q00(P:UInt8->Option Bool)(p:UInt8->Bool)(hP:∀c,P c=some (p c))(n:Nat)(s:Bs)(h:s.length<n)(hb:s.length<9223372036854775807):qa6 P n s (s.length:Int) 0=some (s.all p):=by
 have:=zl9 P p hP n [] s h (by simpa using hb)
 simpa using this
def zl6(fu:Nat)(s:Bs)(h:s.length<fu)(hb:s.length<9223372036854775807):qo0 fu s=some (s.all tk):=by
 have e:∀n,qjb fu n=qa6 pu n:=by
  intro n;induction n with|zero=>rfl|succ n ih=>rw[qjb,ih];funext a b c;rfl
 unfold qo0;rw[e];exact q00 _ _ qm0 _ _ h hb
def fk(s:Bs):Bool := !s.isEmpty&&decide (s.length<=60)&&s.all tk
def quc(fu:Nat)(s:Bs)(h:s.length<fu:=by omega)(hb:s.length<9223372036854775807:=by omega):qam fu s=some (fk s):=by
 unfold qam fk;rw[zl6 fu s h hb]
 cases s with
 |nil=>rfl|cons c s=>
  rw[ar]
  by_cases h1:(c::s).length<=60
  ·rw[ag,decide_eq_true h1];simp
  ·rw[ao,decide_eq_false h1];simp
def zwb(fu n:Nat)(hfu:100<=fu):∀(ab aa:Bs),aa.length<n->ab.length+aa.length<1000000000 ->
  qic fu n (ab++aa) (ab.length:Int)=some (aa.all tk&&decide (1<=ab.length+aa.length/\ab.length+aa.length<=60)):=by
 induction n with
 |zero=>intro ab aa h;omega|succ n ih=>
  intro ab aa h hb;rw[qic,qwh]
  cases aa with
  |nil=>
   rw[ao,gw,qB]
   simp only[List.append_nil,List.all_nil,Bool.true_and,qZ,Nat.add_zero];congr 1;apply decide_eq_decide.2;omega
  |cons d aa=>
   simp only[qL]at h hb;rw[db,ag,a7,qB,q40 fu hfu,qB,aq _,List.all_cons]
   have:=ih (ab++[d]) aa oA oB
   simp only[qM,qL,qZ,qS,wM]at this;cases tk d
   ·rfl
   ·rw[au (by rfl),Bool.true_and]
    refine this.trans ?_;simp only[qL];congr 2;apply decide_eq_decide.2;omega
def qt4(fu:Nat)(hfu:100<=fu)(s:Bs)(h:s.length<fu:=by omega)(hb:s.length<1000000000:=by omega):zy fu s=some (fk s):=by
 have:=zwb fu fu hfu [] s h (by simpa using hb)
 simp only[List.nil_append,qZ,wO]at this;unfold zy;refine this.trans ?_;unfold fk
 cases s with
 |nil=>rfl|cons c s=>
  congr 1;rw[Bool.and_comm];congr 1;show decide _=(true&&decide _);rw[Bool.true_and];apply decide_eq_decide.2;simp only[qL];omega
open Go.Lib (decodeL decodeN decodeL_N validD validD_step decodeL_le decodeL_width)
def rn(l:Bs):Int×Int:=if(decodeL l).1=65533/\(decodeL l).2=1 then(-1,1) else(((decodeL l).1:Nat),((decodeL l).2:Nat))
def g7(a b:Nat)(h:a+b<9223372036854775808:=by omega):ae ((a:Int)+(b:Int))=((a+b:Nat):Int):=by rw[bq];omega
def zql{α:Type}(ab l:List α)(k:Nat)(h:k<l.length):ai (ab++l) ((ab.length+k:Nat):Int)=some l[k]:=by
 rw[qq _ _ oB];simp
def zqm(ab l:Bs)(k:Nat)(h:k<l.length):ai (ab++l) ((ab.length+k:Nat):Int)=some (l.getD k 0):=by
 rw[zql ab l k h];simp[List.getD,h]
def qf0(fu n:Nat)(ab l:Bs)(size v least k:Nat)(hk:k<size:=by omega)(hl:k<l.length:=by omega)(hv:v<10000000:=by omega)(hb:ab.length+l.length<1000000000:=by omega)(hs:size<=4:=by omega) :
  uj fu (n+1) (ab++l) (ab.length:Int) (size:Int) (v:Int) (least:Int) (k:Int) =
   if 128<=(l.getD k 0).toNat/\(l.getD k 0).toNat<=191 then uj fu n (ab++l) (ab.length:Int) (size:Int) ((64*v+(l.getD k 0).toNat-128:Nat):Int) (least:Int) ((k+1:Nat):Int) else some (-1,1):=by
 have hc:(l.getD k 0).toNat<256:=(l.getD k 0).toNat_lt;rw[uj,qod,ag,g7 _ _,zqm ab l k hl,qB,gw,qB,aq k]
 generalize (l.getD k 0).toNat=x at hc;by_cases h:128<=x/\x<=191
 ·rw[qX h,decide_eq_true oA,bt,show(64:Int)*(v:Int)=((64*v:Nat):Int) by omega,bq (x:=((64*v:Nat):Int)) oA oA,bq (x:=((64*v:Nat):Int)+(x:Int)) oA oA,bq]
  congr 1;omega
 ·rw[qW h,decide_eq_false oA,da]
def q38(fu n:Nat)(s:Bs)(i:Int)(size v least:Nat) :
  uj fu (n+1) s i (size:Int) (v:Int) (least:Int) (size:Int)=if v<least\/1114111<v\/(55296<=v/\v<=57343) then some (-1,1) else some ((v:Int),(size:Int)):=by
 rw[uj,qod,ao]
 by_cases h1:v<least
 ·rw[ag,qX (.inl h1)]
 rw[ao]
 by_cases h2:1114111<v
 ·rw[ag,qX (.inr (.inl h2))]
 rw[ao,gw,qB]
 by_cases h3:55296<=v/\v<=57343
 ·rw[ag,qX (.inr (.inr h3))]
 ·rw[ao,qW oA]
def q37(fu:Nat)(ab l:Bs)(size v least:Nat)(h:l.length<size)(hs:size<=4:=by omega)(hb:ab.length+l.length<1000000000:=by omega):ui fu (ab++l) (ab.length:Int) (size:Int) (v:Int) (least:Int)=some (-1,1):=by
 rw[ui,eu,qW oA,g7 _ _,qia,ag (by rw[ql4];omega)]
def q36(fu:Nat)(ab l:Bs)(size v least:Nat)(h:¬l.length<size)(h0:size≠0:=by omega)(hs:size<=4:=by omega)(hb:ab.length+l.length<1000000000:=by omega):ui fu (ab++l) (ab.length:Int) (size:Int) (v:Int) (least:Int)=uj fu fu (ab++l) (ab.length:Int) (size:Int) (v:Int) (least:Int) ((1:Nat):Int):=by
 rw[ui,eu,qW oA,g7 _ _,qia,ao (by rw[ql4];omega)];rfl
def qls(x:Nat×Nat):Int×Int:=if x.1=65533/\x.2=1 then(-1,1) else((x.1:Nat),(x.2:Nat))
def qfg:qls (65533,1)=(-1,1):=rfl
def q2o(x k:Nat)(h:k≠1):qls (x,k)=((x:Int),(k:Int)):=qW (fun q=>h q.2)
def ph(n b0 b1 b2 b3:Nat):Int×Int:=qls (decodeN n b0 b1 b2 b3)
def zwo(n b0 b1 b2 b3:Nat)(h:b0<128):ph n b0 b1 b2 b3=((b0:Int),1):=by
 unfold ph decodeN;rw[qX h];unfold qls;rw[qW (fun q=>by have:=q.1;simp only at this;omega)];rfl
def zwp(n b0 b1 b2 b3:Nat)(h:192<=b0/\b0<=223)(h1:b1<256):ph n b0 b1 b2 b3=if n<2 then(-1,1) else if 128<=b1/\b1<=191 then(if(64*(b0-192)+b1-128)<128\/1114111<(64*(b0-192)+b1-128)\/(55296<=(64*(b0-192)+b1-128)/\(64*(b0-192)+b1-128)<=57343) then(-1,1) else(((64*(b0-192)+b1-128:Nat):Int),2)) else(-1,1):=by
 unfold ph decodeN;rw[qW (c:=b0<128) oA]
 by_cases a1:b0/32=6/\(1<n/\b1/64=2)
 ·rw[qX a1,qW (c:=n<2) oA,qX (c:=128<=b1/\b1<=191) oA]
  obtain⟨z,hz⟩:∃z,b0%32*64+b1%64=z:=⟨_,rfl⟩;obtain⟨y,hy⟩:∃y,64*(b0-192)+b1-128=y:=⟨_,rfl⟩;have hzy:z=y:=oA
  have hm:y<2048:=oA
  rw[hz,hy,hzy];by_cases a2:y ≥ 128
  ·rw[qX a2,q2o _ _ oE,qW oA];rfl
  ·rw[qW a2,qfg,qX oA]
 ·rw[qW a1,qW (c:=b0/16=14/\_) oA,qW (c:=b0/8=30/\_) oA,qfg]
  by_cases a3:n<2
  ·rw[qX a3]
  ·rw[qW a3,qW oA]
def zwq(n b0 b1 b2 b3:Nat)(h:224<=b0/\b0<=239)(h1:b1<256)(h2:b2<256):ph n b0 b1 b2 b3=if n<3 then(-1,1) else if 128<=b1/\b1<=191 then(if 128<=b2/\b2<=191 then(if(64*(64*(b0-224)+b1-128)+b2-128)<2048\/1114111<(64*(64*(b0-224)+b1-128)+b2-128)\/(55296<=(64*(64*(b0-224)+b1-128)+b2-128)/\(64*(64*(b0-224)+b1-128)+b2-128)<=57343) then(-1,1) else(((64*(64*(b0-224)+b1-128)+b2-128:Nat):Int),3)) else(-1,1)) else(-1,1):=by
 unfold ph decodeN;rw[qW (c:=b0<128) oA,qW (c:=b0/32=6/\_) oA]
 by_cases a1:b0/16=14/\(1<n/\b1/64=2)/\(2<n/\b2/64=2)
 ·rw[qX a1,qW (c:=n<3) oA,qX (c:=128<=b1/\b1<=191) oA,qX (c:=128<=b2/\b2<=191) oA]
  obtain⟨z,hz⟩:∃z,b0%16*4096+b1%64*64+b2%64=z:=⟨_,rfl⟩;obtain⟨y,hy⟩:∃y,64*(64*(b0-224)+b1-128)+b2-128=y:=⟨_,rfl⟩;have hzy:z=y:=oA
  have hm:y<65536:=oA
  rw[hz,hy,hzy];by_cases a2:y ≥ 2048/\(y<55296\/(57344<=y/\y<=1114111))
  ·rw[qX a2,q2o _ _ oE,qW oA];rfl
  ·rw[qW a2,qfg,qX oA]
 ·rw[qW a1,qW (c:=b0/8=30/\_) oA,qfg]
  by_cases a3:n<3
  ·rw[qX a3]
  ·rw[qW a3];by_cases a4:128<=b1/\b1<=191
   ·rw[qX a4,qW oA]
   ·rw[qW a4]
def zwr(n b0 b1 b2 b3:Nat)(h:240<=b0/\b0<=247)(h1:b1<256)(h2:b2<256)(h3:b3<256):ph n b0 b1 b2 b3=if n<4 then(-1,1) else if 128<=b1/\b1<=191 then(if 128<=b2/\b2<=191 then(if 128<=b3/\b3<=191 then(if(64*(64*(64*(b0-240)+b1-128)+b2-128)+b3-128)<65536\/1114111<(64*(64*(64*(b0-240)+b1-128)+b2-128)+b3-128)\/(55296<=(64*(64*(64*(b0-240)+b1-128)+b2-128)+b3-128)/\(64*(64*(64*(b0-240)+b1-128)+b2-128)+b3-128)<=57343) then(-1,1) else(((64*(64*(64*(b0-240)+b1-128)+b2-128)+b3-128:Nat):Int),4)) else(-1,1)) else(-1,1)) else(-1,1):=by
 unfold ph decodeN;rw[qW (c:=b0<128) oA,qW (c:=b0/32=6/\_) oA,qW (c:=b0/16=14/\_) oA]
 by_cases a1:b0/8=30/\(1<n/\b1/64=2)/\(2<n/\b2/64=2)/\(3<n/\b3/64=2)
 ·rw[qX a1,qW (c:=n<4) oA,qX (c:=128<=b1/\b1<=191) oA,qX (c:=128<=b2/\b2<=191) oA,qX (c:=128<=b3/\b3<=191) oA]
  obtain⟨z,hz⟩:∃z,b0%8*262144+b1%64*4096+b2%64*64+b3%64=z:=⟨_,rfl⟩;obtain⟨y,hy⟩:∃y,64*(64*(64*(b0-240)+b1-128)+b2-128)+b3-128=y:=⟨_,rfl⟩;have hzy:z=y:=oA
  rw[hz,hy,hzy];by_cases a2:y ≥ 65536/\(y<55296\/(57344<=y/\y<=1114111))
  ·rw[qX a2,q2o _ _ oE,qW oA];rfl
  ·rw[qW a2,qfg,qX oA]
 ·rw[qW a1,qfg];by_cases a3:n<4
  ·rw[qX a3]
  ·rw[qW a3];by_cases a4:128<=b1/\b1<=191
   ·rw[qX a4];by_cases a5:128<=b2/\b2<=191
    ·rw[qX a5,qW oA]
    ·rw[qW a5]
   ·rw[qW a4]
def zws(n b0 b1 b2 b3:Nat)(h:(128<=b0/\b0<192)\/248<=b0)(hb:b0<256):ph n b0 b1 b2 b3=(-1,1):=by
 unfold ph decodeN;rw[qW (c:=b0<128) oA,qW (c:=b0/32=6/\_) oA,qW (c:=b0/16=14/\_) oA,qW (c:=b0/8=30/\_) oA];rfl
def zvs(l:Bs):rn l=ph l.length (l.getD 0 0).toNat (l.getD 1 0).toNat (l.getD 2 0).toNat (l.getD 3 0).toNat:=by unfold rn ph qls;rw[decodeL_N]
def q44(fu:Nat)(hfu:10<=fu)(ab:Bs)(c:UInt8)(t:Bs)(hb:ab.length+t.length<100000000:=by omega):qda fu (ab++c::t) (ab.length:Int)=some (rn (c::t)):=by
 have hl:(c::t).length=t.length+1:=rfl;obtain⟨n,rfl⟩:∃n,fu=n+10:=⟨fu-10,oA⟩
 rw[zvs,show(c::t).getD 0 0=c from rfl]
 generalize hl2:c::t=l at *;have b1:=(l.getD 1 0).toNat_lt;have b2:=(l.getD 2 0).toNat_lt;have b3:=(l.getD 3 0).toNat_lt;have hc:=c.toNat_lt;unfold qda;rw[show ai (ab++l) (ab.length:Int)=some c by rw[← hl2];exact a7 ab c t,qB]
 by_cases h0:c.toNat<128
 ·rw[ag,zwo _ _ _ _ _ h0]
 rw[ao,gw,qB]
 by_cases h2:192<=c.toNat/\c.toNat<=223
 ·rw[ag,zwp _ _ _ _ _ h2 b1,bq,show(c.toNat:Int)-192=((c.toNat-192:Nat):Int) by omega]
  by_cases g:l.length<2
  ·rw[qX g];exact q37 (n+10) ab l 2 _ 128 g
  ·rw[qW g];refine(q36 (n+10) ab l 2 _ 128 g).trans ?_
   rw[qf0 (n+10) (n+9) ab l 2 _ 128 1]
   by_cases g1:128<=(l.getD 1 0).toNat/\(l.getD 1 0).toNat<=191
   ·rw[qX g1,qX g1];refine(q38 (n+10) (n+8) _ _ 2 _ 128).trans ?_;rw[qt7];rfl
   ·rw[qW g1,qW g1]
 rw[ao,gw,qB]
 by_cases h3:224<=c.toNat/\c.toNat<=239
 ·rw[ag,zwq _ _ _ _ _ h3 b1 b2,bq,show(c.toNat:Int)-224=((c.toNat-224:Nat):Int) by omega]
  by_cases g:l.length<3
  ·rw[qX g];exact q37 (n+10) ab l 3 _ 2048 g
  ·rw[qW g];refine(q36 (n+10) ab l 3 _ 2048 g).trans ?_
   rw[qf0 (n+10) (n+9) ab l 3 _ 2048 1]
   by_cases g1:128<=(l.getD 1 0).toNat/\(l.getD 1 0).toNat<=191
   ·rw[qX g1,qX g1,qf0 (n+10) (n+8) ab l 3 _ 2048 2]
    by_cases g2:128<=(l.getD 2 0).toNat/\(l.getD 2 0).toNat<=191
    ·rw[qX g2,qX g2];refine(q38 (n+10) (n+7) _ _ 3 _ 2048).trans ?_;rw[qt7];rfl
    ·rw[qW g2,qW g2]
   ·rw[qW g1,qW g1]
 rw[ao,gw,qB]
 by_cases h4:240<=c.toNat/\c.toNat<=247
 ·rw[ag,zwr _ _ _ _ _ h4 b1 b2 b3,bq,show(c.toNat:Int)-240=((c.toNat-240:Nat):Int) by omega]
  by_cases g:l.length<4
  ·rw[qX g];exact q37 (n+10) ab l 4 _ 65536 g
  ·rw[qW g];refine(q36 (n+10) ab l 4 _ 65536 g).trans ?_
   rw[qf0 (n+10) (n+9) ab l 4 _ 65536 1]
   by_cases g1:128<=(l.getD 1 0).toNat/\(l.getD 1 0).toNat<=191
   ·rw[qX g1,qX g1,qf0 (n+10) (n+8) ab l 4 _ 65536 2]
    by_cases g2:128<=(l.getD 2 0).toNat/\(l.getD 2 0).toNat<=191
    ·rw[qX g2,qX g2,qf0 (n+10) (n+7) ab l 4 _ 65536 3]
     by_cases g3:128<=(l.getD 3 0).toNat/\(l.getD 3 0).toNat<=191
     ·rw[qX g3,qX g3];refine(q38 (n+10) (n+6) _ _ 4 _ 65536).trans ?_;rw[qt7];rfl
     ·rw[qW g3,qW g3]
    ·rw[qW g2,qW g2]
   ·rw[qW g1,qW g1]
 rw[ao,zws _ _ _ _ _ oA hc]
 rfl
def qty(l:Bs):(rn l).1<0↔((decodeL l).1=65533/\(decodeL l).2=1):=by
 unfold rn;split
 ·rename_i h;exact⟨fun _=>h,fun _=>oE⟩
 ·rename_i h;exact⟨fun q=>absurd q oM,fun q=>absurd q h⟩
def qtz(l:Bs):(rn l).2=((decodeL l).2:Int):=by
 unfold rn;split
 ·rename_i h;rw[h.2];rfl
 ·rfl
def zy8(fu n:Nat)(hfu:10<=fu):∀(ab aa:Bs),aa.length<n->ab.length+aa.length<100000000->qih fu n (ab++aa) (ab.length:Int)=some (validD aa):=by
 induction n with
 |zero=>intro ab aa h;omega|succ n ih=>
  intro ab aa h hb;rw[qih,qwm]
  cases aa with
  |nil=>rw[ao];rfl|cons c t=>
   have hw:=decodeL_width (c::t);have hle:=decodeL_le (c::t) oC
   simp only[qL]at h hb;rw[ag oJ,q44 fu hfu ab c t,qB,validD_step (c::t) oC]
   by_cases hbad:(decodeL (c::t)).1=65533/\(decodeL (c::t)).2=1
   ·rw[ag ((qty _).2 hbad),qX hbad]
   ·rw[ao (fun q=>hbad ((qty _).1 q)),qW hbad,qtz,g7 _ _ (by simp only[qL]at hle;omega)]
    have:=ih (ab++(c::t).take (decodeL (c::t)).2) ((c::t).drop (decodeL (c::t)).2) (by rw[List.length_drop];simp only[qL];omega) (by rw[qM,List.length_take,List.length_drop];simp only[qL]at hle ⊢;omega)
    rw[qS,List.take_append_drop,qM,List.length_take,Nat.min_eq_left hle]at this;exact this
def zwv(fu:Nat)(hfu:10<=fu)(s:Bs)(h:s.length<fu:=by omega)(hb:s.length<100000000:=by omega):qig fu s=some (validD s):=by
 have:=zy8 fu fu hfu [] s h (by simpa using hb)
 simpa [qig] using this
def zy3:l7 (-1)=some [239,191,189]:=by rfl
def zzh(n:Nat):∀(b:Bool)(l:Bs),(vu [239,191,189] n b l).length<=3*l.length:=by
 induction n with
 |zero=>intro b l;simp[vu]|succ n ih=>
  intro b l
  cases l with
  |nil=>simp[vu]|cons c t=>
   rw[vu];split
   ·have:=ih true t;rw[qM];simp only[qL];cases b<;>simp<;>omega
   ·have:=ih false ((c::t).drop (decodeL (c::t)).2);have hle:=decodeL_le (c::t) oC
    rw[qM,List.length_take];rw[List.length_drop]at this;omega
def qgi(rep:Bs):∀(n:Nat)(b:Bool)(l:Bs),l.length<=n->vu rep n b l=vu rep l.length b l:=by
 intro n
 induction n using Nat.strongRecOn with
 |ind n ih=>
  intro b l h
  cases l with
  |nil=>cases n<;>rfl
  |cons c t=>
   obtain⟨m,rfl⟩:∃m,n=m+1:=⟨n-1,by simp only[qL]at h;omega⟩
   simp only[qL]at h ⊢;have hw:=decodeL_width (c::t);rw[vu,vu];have hd:((c::t).drop (decodeL (c::t)).2).length<=t.length:=by rw[List.length_drop];simp only[qL];omega
   rw[ih m oA true t oA,ih m oA false _ oA]
   by_cases hm:t.length<m+1
   ·rw[ih t.length oA true t (wF _),ih t.length oA false _ hd]
   ·omega
def zu9(fu n:Nat)(hfu:10<=fu):∀(ab aa out:Bs)(bad:Bool),aa.length<n->ab.length+aa.length<100000000->out.length+3*aa.length<400000000 ->
  qio fu n (ab++aa) out bad (ab.length:Int)=some (out++vu [239,191,189] aa.length bad aa):=by
 induction n with
 |zero=>intro ab aa out bad h;omega|succ n ih=>
  intro ab aa out bad h hb ho;rw[qio,qwr]
  cases aa with
  |nil=>rw[ao];simp[vu]|cons c t=>
   have hw:=decodeL_width (c::t);have hle:=decodeL_le (c::t) oC
   simp only[qL]at h hb ho;rw[ag oJ,q44 fu hfu ab c t,qB]
   show _=some (out++vu [239,191,189] (t.length+1) bad (c::t));rw[vu];by_cases hbad:(decodeL (c::t)).1=65533/\(decodeL (c::t)).2=1
   ·have hneg:=(qty _).2 hbad;rw[ao,qX hbad,decide_eq_true hneg,qtz,hbad.2,zy3,qB,g7 _ _]
    have:=fun o=>ih (ab++[c]) t o true oA oB
    simp only[qM,qL,qZ,qS,wM,wO]at this;cases bad
    ·rw[da,ag oF]
     refine(this (out++[239,191,189]) oB).trans ?_
     simp
    ·rw[bt];refine(this out oA).trans ?_
     simp
   ·have hneg:¬(rn (c::t)).1<0:=fun q=>hbad ((qty _).1 q)
    have hle':=hle;simp only[qL]at hle';rw[ag,qW hbad,decide_eq_false hneg,qtz,g7 _ _,ag oJ]
    have e:List.take (((ab.length+(decodeL (c::t)).2:Nat):Int).toNat-((ab.length:Nat):Int).toNat) (List.drop ((ab.length:Nat):Int).toNat (ab++c::t))=(c::t).take (decodeL (c::t)).2:=by
     rw[nv];congr 1;omega
    rw[e,ag (by rw[List.length_take,Nat.min_eq_left hle];simp[ap];omega)]
    have:=ih (ab++(c::t).take (decodeL (c::t)).2) ((c::t).drop (decodeL (c::t)).2) (out++(c::t).take (decodeL (c::t)).2) false (by rw[List.length_drop];simp only[qL];omega) (by rw[qM,List.length_take,List.length_drop];simp only[qL]at hle ⊢;omega) (by rw[qM,List.length_take,List.length_drop];simp only[qL]at hle ⊢;omega)
    rw[qS,List.take_append_drop,qM,List.length_take,Nat.min_eq_left hle]at this;refine this.trans ?_;rw[qS,qgi _ t.length false ((c::t).drop (decodeL (c::t)).2) (by rw[List.length_drop];simp only[qL];omega)]
def zvb(fu:Nat)(hfu:10<=fu)(s:Bs)(h:s.length<fu:=by omega)(hb:s.length<100000000:=by omega):qoh fu s=some (vu [239,191,189] s.length false s):=by
 have:=zu9 fu fu hfu [] s [] false h (by simpa using hb) oB
 simpa [qoh] using this
def zyj(s:Bs)(h:s.length<=1000000):qaw s [239,191,189]=some (vu [239,191,189] s.length false s):=by
 unfold qaw;rw[ag ⟨h,oC⟩]
def zy4(s:Bs)(h:s.length<=1000000:=by omega):qaz s=some (validD s):=by
 unfold qaz;rw[ag]
end Go.Sym
namespace Go.Sym
open Go.Lib (validD)
abbrev ck:Type:=Bs×Bs
abbrev ef:Type:=Bs×Bs×List ck
def la(l:List ck):Prop:=l.length<=4000000/\∀x∈l,x.1.length<=4000000/\x.2.length<=4000000
def ur(m:ef):Prop:=m.1.length<=4000000/\m.2.1.length<=4000000/\la m.2.2
def lk(a b:Bs):Bool:=a.map lo==b.map lo
def q3e(a b:Bs):lk a b=lk b a:=by unfold lk;rw[Bool.eq_iff_iff];simp only[beq_iff_eq];exact⟨Eq.symm,Eq.symm⟩
def q3f(a:Bs):lk a a=true:=by unfold lk;simp
def kq(fu:Nat)(hfu:90000000<=fu)(a b:Bs)(ha:a.length<=4000000)(hb:b.length<=4000000):ek fu a b=some (lk a b):=
 zns fu a b oA oA oZ oZ
def sm(fu:Nat)(hfu:90000000<=fu)(a b:Bs)(ha:a.length<=4000000)(hb:b.length<=4000000):ei fu a b=some (lk a b):=
 qrc fu a b oA oA oZ oZ
def zq6(fu n:Nat)(hfu:90000000<=fu)(p:ck)(hp:p.1.length<=4000000):∀(ab aa:List ck),aa.length<n->ab.length+aa.length<100000000->(∀x∈aa,x.1.length<=4000000) ->
  ∃i:Int,qkg fu n (ab++aa) ((ab.length+aa.length:Nat):Int) (ab.length:Int) p=some (i,p)/\decide (0<=i)=aa.any (fun x=>lk x.1 p.1):=by
 induction n with
 |zero=>intro ab aa h;omega|succ n ih=>
  intro ab aa h hb hs;rw[qkg,qzl]
  cases aa with
  |nil=>rw[ao];exact⟨_,rfl,rfl⟩|cons d aa=>
   simp only[qL]at h hb;rw[ag oG,a7,qB,qym,kq fu hfu _ _ (hs d qH) hp,qB,qB,aq _]
   obtain⟨i,h1,h2⟩:=ih (ab++[d]) aa oA oB (fun x hx=>hs x (qE _ hx))
   simp only[qM,qL,qZ,qS,wM,wO]at h1;cases e:lk d.1 p.1
   ·simp only[qF,List.any_cons,e,Bool.false_or];rw[show(ab.length+(d::aa).length:Nat)=ab.length+1+aa.length by simp only[qL];omega]
    exact⟨i,h1,h2⟩
   ·simp only[qT,List.any_cons,e,Bool.true_or];exact⟨_,rfl,decide_eq_true oA⟩
def znz(fu:Nat)(hfu:90000000<=fu)(l:List ck)(p:ck)(hp:p.1.length<=4000000)(hs:la l):qqa fu l p=some (l.any (fun x=>lk x.1 p.1),p):=by
 obtain⟨i,h1,h2⟩:=zq6 fu fu hfu p hp [] l (by have:=hs.1;omega) (by have:=hs.1;simp;omega) (fun x hx=>(hs.2 x hx).1)
 simp only[List.nil_append,qZ,wO]at h1;unfold qqa qzk;rw[← h2];exact(congrArg (fun q=>Option.bind q fun x1=>some (decide ((0:Int)<=x1.1),x1.2)) h1).trans rfl
def tn:List ck->List ck->Int×Int
 |_,[]=>(0,0)|ab,p::l=>if fk p.1=false\/20<p.1.length then(10,ab.length) else if ab.any (fun x=>lk x.1 p.1)=true then(7,ab.length) else if 500<p.2.length then(1,ab.length)
  else if validD p.2=false then(5,ab.length) else tn (ab++[p]) l
def ib(m:ef):Int×Int:=if fk m.1=false\/fk m.2.1=false then(10,-2) else if 60<m.2.2.length then(2,-3) else tn [] m.2.2
def la.mono{l l':List ck}(h:la l)(h1:l'.length<=l.length)(h2:∀x∈l',x∈l):la l':=⟨Nat.le_trans h1 h.1,fun x hx=>h.2 x (h2 x hx)⟩
def qx(a b:Int):cn a b=some (a,b):=rfl
def ye(a b:Int):im a b=some (a,b):=rfl
def zsc:dx=some ((0:Int),(0:Int)):=rfl
def zsj(fu n:Nat)(hfu:90000000<=fu)(m:ef)(z:Int×Int):∀(ab aa:List ck),m.2.2=ab++aa->aa.length<n->la (ab++aa) ->
  qd1 fu n (ab++aa) ((ab.length+aa.length:Nat):Int) (ab.length:Int) m z=some (tn ab aa):=by
 induction n with
 |zero=>intro ab aa _ h;omega|succ n ih=>
  intro ab aa hm h hs;rw[qd1,qyn]
  cases aa with
  |nil=>rw[ao];rfl|cons p aa=>
   have hp:=hs.2 p oC
   have hl:=hs.1;simp only[qL,qM]at h hl;rw[ag oG,a7,qB,quc fu _,qB,tn]
   have hp3:qak fu (qd1 fu n) (ab.length:Int) (ab++p::aa) ((ab.length+(p::aa).length:Nat):Int) (ab.length:Int) false m z p =
     some (if ab.any (fun x=>lk x.1 p.1)=true then(7,(ab.length:Int)) else if 500<p.2.length then(1,(ab.length:Int)) else if validD p.2=false then(5,(ab.length:Int)) else tn (ab++[p]) aa):=by
    rw[qak,au rfl,ag (by rw[hm,db];omega),hm,qca,znz fu hfu ab p hp.1 (hs.mono oC (fun x hx=>by simp[hx])),qB]
    simp only[];by_cases h1:ab.any (fun x=>lk x.1 p.1)=true
    ·rw[qX h1,ar h1,qx];rfl
    rw[qW h1,au (by simpa using h1)]
    by_cases h2:500<p.2.length
    ·rw[qX h2,ag,qx];rfl
    rw[qW h2,ao,zy4 _,qB]
    cases h3:validD p.2
    ·rw[da,qX rfl,qx];rfl
    ·rw[bt,qW oC,aq _]
     have:=ih (ab++[p]) aa (by rw[hm];simp) oA (by simpa using hs)
     simp only[qM,qL,qZ,qS,wM,wO]at this;rw[show(ab.length+(p::aa).length:Nat)=ab.length+1+aa.length by simp only[qL];omega]
     exact this
   cases h0:fk p.1
   ·rw[da,qX (.inl rfl),qak,ar rfl,qx];rfl
   rw[bt];by_cases h20:20<p.1.length
   ·rw[decide_eq_true oA,qX (.inr h20),qak,ar rfl,qx];rfl
   ·rw[decide_eq_false (p:=(20:Int)<(List.length p.1:Int)) oA,hp3,qW (c:=true=false\/20<p.1.length) oB]
def q3t(fu:Nat)(hfu:90000000<=fu)(m:ef)(hs:ur m):uo fu m=some (ib m):=by
 obtain⟨h1,h2,h3⟩:=hs;unfold uo ib;rw[quc fu m.1,qB,quc fu m.2.1]
 cases g1:fk m.1
 ·rw[da,qd0,ar rfl,qx,qX (.inl rfl)];rfl
 rw[bt,qB];cases g2:fk m.2.1
 ·rw[qd0,da,qx,qX (.inr rfl)];rfl
 rw[qd0,bt,qyo,qW oC]
 by_cases g3:60<m.2.2.length
 ·rw[ag,qX g3,qx];rfl
 ·rw[ao,qW g3]
  have:=zsj fu fu hfu m (0,0) [] m.2.2 rfl (by have:=h3.1;omega) h3
  simpa using this
def zvp(fu n:Nat)(hfu:90000000<=fu)(r2:(Int->(Bs×Bs×(List (Bs×Bs)))->(Int×Int)->Option ((Int×Int))))(m:ef)(z:Int×Int)(p:ck)(rest:List ck)(hp:p.1.length<=4000000):∀(ab aa:List ck),m.2.2=ab++aa++p::rest->aa.length<n->la m.2.2 ->
  qhu fu r2 n ((ab.length+aa.length:Nat):Int) (ab.length:Int) m z p =
   if aa.any (fun x=>lk x.1 p.1)=true then some (7,((ab.length+aa.length:Nat):Int)) else bif decide ((500:Int)<(List.length p.2:Int)) then(im (1:Int) ((ab.length+aa.length:Nat):Int)).bind fun x4=>some x4 else(qig fu p.2).bind fun x5=>bif !x5 then(im (5:Int) ((ab.length+aa.length:Nat):Int)).bind fun x6=>some x6 else r2 (ae (((ab.length+aa.length:Nat):Int)+(1:Int))) m z:=by
 induction n with
 |zero=>intro ab aa _ h;omega|succ n ih=>
  intro ab aa hm h hs;rw[qhu,qvy]
  cases aa with
  |nil=>rw[ao,qW oC]|cons d aa=>
   have hl:=hs.1;rw[hm]at hl;simp only[qL,qM]at h hl;rw[ag oG]
   have hx:ai m.2.2 (ab.length:Int)=some d:=by rw[hm,qS,wK];exact a7 ab d _
   rw[hx,qB,sm fu hfu _ _ (hs.2 d (by rw[hm];simp)).1 hp,qB,aq _]
   have:=ih (ab++[d]) aa (by rw[hm];simp) oA hs
   simp only[qM,qL,qZ,qS,wM,wO]at this;cases e:lk d.1 p.1
   ·simp only[qF,List.any_cons,e,Bool.false_or];rw[show(ab.length+(d::aa).length:Nat)=ab.length+1+aa.length by simp only[qL];omega]
    exact this
   ·simp only[qT,List.any_cons,e,Bool.true_or,if_true];rfl
def zvn(fu n:Nat)(hfu:90000000<=fu)(m:ef)(z:Int×Int)(hs:la m.2.2):∀(ab aa:List ck),m.2.2=ab++aa->aa.length<n ->
  zn fu n (ab.length:Int) m z=some (tn ab aa):=by
 induction n with
 |zero=>intro ab aa _ h;omega|succ n ih=>
  intro ab aa hm h;rw[zn,qvx,hm]
  cases aa with
  |nil=>rw[ao];rfl|cons p aa=>
   have hp:=hs.2 p (by rw[hm];simp)
   have hl:=hs.1;rw[hm]at hl;simp only[qL,qM]at h hl;rw[ag oJ,a7,qB,qt4 fu oA _,qB,tn]
   have hp3:zo fu (zn fu n) (ab.length:Int) false m z p =
     some (if ab.any (fun x=>lk x.1 p.1)=true then(7,(ab.length:Int)) else if 500<p.2.length then(1,(ab.length:Int)) else if validD p.2=false then(5,(ab.length:Int)) else tn (ab++[p]) aa):=by
    rw[zo,au rfl,qv0];have:=zvp fu fu hfu (zn fu n) m z p aa hp.1 [] ab (by rw[hm];simp) oA hs
    simp only[qZ,wO]at this;refine(this:_=_).trans ?_;by_cases h1:ab.any (fun x=>lk x.1 p.1)=true
    ·rw[qX h1,qX h1]
    rw[qW h1,qW h1];by_cases h2:500<p.2.length
    ·rw[qX h2,ag];rfl
    rw[qW h2,ao,zwv fu oA _,qB]
    cases h3:validD p.2
    ·rw[da,qX rfl];rfl
    ·rw[bt,qW oC,aq _]
     have:=ih (ab++[p]) aa (by rw[hm];simp) oA
     simpa only [qM,qL,qZ,wO] using this
   cases h0:fk p.1
   ·rw[da,qX (.inl rfl),zo,ar rfl,ye];rfl
   rw[bt];by_cases h20:20<p.1.length
   ·rw[decide_eq_true oA,qX (.inr h20),zo,ar rfl,ye];rfl
   ·rw[decide_eq_false (p:=(20:Int)<(List.length p.1:Int)) oA,hp3,qW (c:=true=false\/20<p.1.length) oB]
def zvo(fu:Nat)(hfu:90000000<=fu)(m:ef)(hs:ur m):qn6 fu m=some (ib m):=by
 obtain⟨h1,h2,h3⟩:=hs;unfold qn6 ib;rw[qt4 fu oA m.1,qB,qt4 fu oA m.2.1]
 cases g1:fk m.1
 ·rw[da,qc0,ar rfl,ye,qX (.inl rfl)];rfl
 rw[bt,qB];cases g2:fk m.2.1
 ·rw[qc0,da,ye,qX (.inr rfl)];rfl
 rw[qc0,bt,qvz,qW oC]
 by_cases g3:60<m.2.2.length
 ·rw[ag,qX g3,ye];rfl
 ·rw[ao,qW g3]
  exact zvn fu fu hfu m (0,0) h3 [] m.2.2 rfl (by have:=h3.1;omega)
def par(l:List ck)(nm:Bs):Option Bs:=(l.find? fun x=>lk x.1 nm).map (·.2)
def ce(l:List ck)(nm:Bs):Bs×Bool:=match par l nm with|some v=>(v,true)|none=>([],false)
def q4b(p:ck)(l:List ck)(nm:Bs):ce (p::l) nm=if lk p.1 nm=true then(p.2,true) else ce l nm:=by
 unfold ce par;rw[List.find?_cons];cases lk p.1 nm<;>rfl
def zse(fu n:Nat)(hfu:90000000<=fu)(nm:Bs)(hn:nm.length<=4000000)(z:Int×Int):∀(ab aa:List ck),aa.length<n->la (ab++aa) ->
  qjp fu n nm (ab++aa) ((ab.length+aa.length:Nat):Int) (ab.length:Int) z=some ((ce aa nm).1,((ce aa nm).2,(0,0))):=by
 induction n with
 |zero=>intro ab aa h;omega|succ n ih=>
  intro ab aa h hs;rw[qjp,qyk]
  cases aa with
  |nil=>rw[ao];rfl|cons p aa=>
   have hl:=hs.1;simp only[qL,qM]at h hl;rw[ag oG,a7,qB,kq fu hfu _ _ (hs.2 p oC).1 hn,qB,aq _,q4b]
   have:=ih (ab++[p]) aa oA (by simpa using hs)
   simp only[qM,qL,qZ,qS,wM,wO]at this;cases e:lk p.1 nm
   ·rw[au rfl,show(ab.length+(p::aa).length:Nat)=ab.length+1+aa.length by simp only[qL];omega]
    exact this
   ·rfl
def q3s(fu:Nat)(hfu:90000000<=fu)(m:ef)(nm:Bs)(hn:nm.length<=4000000)(hs:ur m):rz fu m nm=some (if(ib m).1≠0 then([],(false,ib m)) else((ce m.2.2 nm).1,((ce m.2.2 nm).2,(0,0)))):=by
 unfold rz;rw[q3t fu hfu m hs,qB,xp,qB,ip];by_cases h:(ib m).1≠0
 ·rw[qX h,qX h]
 ·rw[qW h,qW h];have:=zse fu fu hfu nm hn (0,0) [] m.2.2 (by have:=hs.2.2.1;omega) hs.2.2
  simpa using this
def zv1(fu n:Nat)(hfu:90000000<=fu)(nm:Bs)(hn:nm.length<=4000000)(m:ef)(hs:la m.2.2):∀(ab aa:List ck),m.2.2=ab++aa->aa.length<n ->
  qh5 fu n nm (ab.length:Int) m=some (ce aa nm):=by
 induction n with
 |zero=>intro ab aa _ h;omega|succ n ih=>
  intro ab aa hm h;rw[qh5,qv9,hm]
  cases aa with
  |nil=>rw[ao];rfl|cons p aa=>
   have hl:=hs.1;rw[hm]at hl;simp only[qL,qM]at h hl;rw[ag oJ,a7,qB,sm fu hfu _ _ (hs.2 p (by rw[hm];simp)).1 hn,qB,aq _,q4b]
   have:=ih (ab++[p]) aa (by rw[hm];simp) oA
   simp only[qM,qL,qZ,wO]at this;cases e:lk p.1 nm
   ·rw[au rfl];exact this
   ·rfl
def qt2(fu:Nat)(hfu:90000000<=fu)(m:ef)(nm:Bs)(hn:nm.length<=4000000)(hs:la m.2.2):qc8 fu m nm=some (ce m.2.2 nm):=
 zv1 fu fu hfu nm hn m hs [] m.2.2 rfl (by have:=hs.1;omega)
end Go.Sym
namespace Go.Sym
def zyn(fu n:Nat):∀(s:List UInt8),s.length<n->s.length<1000000000->qkq fu n s (ja [32,9])=some (bc s,ja [32,9]):=by
 induction n with
 |zero=>intro s h;omega|succ n ih=>
  intro s h hb;rw[qkq,qz1]
  cases s with
  |nil=>rw[ao];rfl|cons c s=>
   simp only[qL]at h hb;rw[ag,show ai (c::s) (0:Int)=some c from rfl,qB,qe2 ac3,qB,zag,qw]
   cases bl c
   ·rfl
   ·rw[bt,ag oG]
    exact ih s oA oA
def qfv(s:Bs):bc (bc s)=bc s:=by
 induction s with
 |nil=>rfl|cons c s ih=>
  rw[qw];by_cases h:bl c=true
  ·rw[qX h];exact ih
  ·rw[qW h,qw,qW h]
def tj(s:Bs):bc s <:+ s:=List.dropWhile_suffix _
def zyo(fu:Nat)(s:List UInt8)(hfu:100<=fu:=by omega)(h:s.length<fu:=by omega)(hb:s.length<1000000000:=by omega):qqk fu s [32,9]=some (bc s):=by
 unfold qqk
 cases s with
 |nil=>rfl|cons c s=>
  rw[au (by rfl)]
  unfold qql;rw[au (by rfl)]
  unfold qzw;rw[au oE]
  unfold qqm;rw[au (by rfl)]
  unfold qzx;obtain⟨n,rfl⟩:∃n,fu=n+100:=⟨fu-100,oA⟩
  rw[ac3.set,qB];simp only[ac3.len];rw[ar (by rw[List.length_replicate];rfl),ar]
  unfold qz0;rw[zyn _ _ _ h hb];rfl
def qev(fu:Nat)(hfu:90000000<=fu)(s:Bs)(h:s.length<=4000000):w7 fu s=some (bc s):=by
 unfold w7;rw[zyo fu s];rfl
def bz(p:UInt8->Bool)(s:Bs):Bs×Bs:=((bc s).takeWhile p,(bc s).dropWhile p)
def dy(c:UInt8):Bool:=tk c||c==42
def lr(c:UInt8):Bool:=tk c||(c==37||(c==39||c==42))
def y5(P:UInt8->Option Bool):Nat->Int->Bs->Option (Bs×Bs)
 |0,_,_=>none|n+1,s5,m0=>bif decide (s5<(List.length m0:Int)) then(ai m0 s5).bind fun c1=>(P c1).bind fun x2=>(bif x2 then y5 P n (ae (s5+(1:Int))) m0 else bif decide (0<=s5/\s5<=(List.length m0:Int)) then bif decide (0<=s5/\s5<=(List.length m0:Int)) then some (List.take s5.toNat m0,List.drop s5.toNat m0) else none else none)
  else(bif false then y5 P n (ae (s5+(1:Int))) m0 else bif decide (0<=s5/\s5<=(List.length m0:Int)) then bif decide (0<=s5/\s5<=(List.length m0:Int)) then some (List.take s5.toNat m0,List.drop s5.toNat m0) else none else none)
def zx9(P:UInt8->Option Bool)(p:UInt8->Bool)(hP:∀c,P c=some (p c))(n:Nat):∀(ab aa:Bs),aa.length<n->ab.length+aa.length<9223372036854775807 ->
  y5 P n (ab.length:Int) (ab++aa)=some (ab++aa.takeWhile p,aa.dropWhile p):=by
 induction n with
 |zero=>intro ab aa h;omega|succ n ih=>
  intro ab aa h hb;rw[y5]
  cases aa with
  |nil=>rw[ao,au rfl,ag,ag,qca,nv];simp|cons d aa=>
   simp only[qL]at h hb;rw[ag oJ,a7,qB,hP,qB,aq _,qca,nv,List.takeWhile_cons,List.dropWhile_cons]
   have:=ih (ab++[d]) aa oA oB
   simp only[qM,qL,qZ,qS,wM,wO]at this;cases p d
   ·rw[au rfl,ag oJ,ag oJ];simp
   ·rw[ar rfl];simpa using this
def q5o(P:UInt8->Option Bool)(p:UInt8->Bool)(hP:∀c,P c=some (p c))(fu:Nat)(hfu:90000000<=fu)(s:Bs)(h:s.length<=4000000):y5 P fu 0 (bc s)=some (bz p s):=by
 have hl:=mo s;have:=zx9 P p hP fu [] (bc s) oA oB
 simpa [bz] using this
def zg0(fu:Nat)(hfu:90000000<=fu)(s:Bs)(h:s.length<=4000000:=by omega):qj2 fu s=some (bz tk s):=by
 have e:∀n,qj3 fu n=y5 pu n:=by
  intro n;induction n with|zero=>rfl|succ n ih=>rw[qj3,ih];funext a b;rfl
 unfold qj2;rw[qev fu hfu s h,qB,e];exact q5o _ tk qm0 fu hfu s h
def zyf(c:UInt8):qj1 c=some (dy c):=by
 unfold qj1 dy;rw[qm0,qB];cases tk c<;>rfl
def zyg(c:UInt8):qj6 c=some (lr c):=by
 unfold qj6 lr;rw[qm0,qB];cases tk c
 ·cases c==37
  ·cases c==39<;>rfl
  ·rfl
 ·rfl
def zx6(fu:Nat)(hfu:90000000<=fu)(s:Bs)(h:s.length<=4000000):qps fu s=some (bz dy s):=by
 have e:∀n,qj4 fu n=y5 qj1 n:=by
  intro n;induction n with|zero=>rfl|succ n ih=>rw[qj4,ih];funext a b;rfl
 unfold qps;rw[qev fu hfu s h,qB,e];exact q5o _ dy zyf fu hfu s h
def zx8(fu:Nat)(hfu:90000000<=fu)(s:Bs)(h:s.length<=4000000:=by omega):qpt fu s=some (bz lr s):=by
 have e:∀n,qj5 fu n=y5 qj6 n:=by
  intro n;induction n with|zero=>rfl|succ n ih=>rw[qj5,ih];funext a b;rfl
 unfold qpt;rw[qev fu hfu s h,qB,e];exact q5o _ lr zyg fu hfu s h
def di(c:UInt8)(s:Bs):Bool×Bs:=match bc s with|[]=>(false,[])|d::t=>if d=c then(true,t) else(false,d::t)
def qte(fu:Nat)(hfu:90000000<=fu)(c:UInt8)(s:Bs)(h:s.length<=4000000:=by omega):qal fu c s=some (di c s):=by
 unfold qal di;rw[qev fu hfu s h,qB]
 cases bc s with
 |nil=>rfl|cons d t=>
  rw[au (by rfl),show ai (d::t) (0:Int)=some d from rfl,qB,qa9]
  by_cases hd:d=c
  ·rw[qW (by simp[hd]),ag oG];simp[hd]
  ·rw[qX hd];simp[hd]
def qv:Bs->Bs->Option (Bs×Bs)
 |_,[]=>none| out,c::t=>if c=34 then some (out,t) else if c=92 then(match t with
  |[]=>none| d::t'=>qv (out++[d]) t') else qv (out++[c]) t
def qf1(out:Bs)(c:UInt8)(t:Bs):qv out (c::t)=if c=34 then some (out,t) else if c=92 then(match t with
  |[]=>none| d::t'=>qv (out++[d]) t') else qv (out++[c]) t:=by cases t<;>rfl
def og:4000000000<=a6:=oE
def zul(fu n:Nat):∀(ab aa out:Bs),aa.length<n->ab.length+aa.length<100000000->out.length+aa.length<100000000 ->
  qj7 fu n (ab.length:Int) (ab++aa) out=some (match qv out aa with|some (v,t)=>(v,(true,t))|none=>([],(false,ab++aa))):=by
 have hrm:=og
 induction n using Nat.strongRecOn with
 |ind n ih=>
  intro ab aa out h hb ho;obtain⟨n,rfl⟩:∃m,n=m+1:=⟨n-1,oA⟩
  rw[qj7,qy1]
  cases aa with
  |nil=>rw[ao];rfl|cons c t=>
   simp only[qL]at h hb ho;rw[ag oJ,a7,qB,aq _,ez]
   have ih1:=ih n oA (ab++[c]) t (out++[c]) oA oB oB
   simp only[qM,qL,qZ,qS,wM,wO]at ih1;by_cases h1:c=34
   ·rw[qX h1,ag oJ,qfb,qf1,qX h1]
   rw[qW h1,ez];by_cases h2:c=92
   ·rw[qX h2,eu,db]
    cases t with
    |nil=>rw[qX oC,qf1,qW h1,qX h2]|cons d t=>
     simp only[qL]at h hb ho ⊢;rw[qW oA,show ai (ab++c::d::t) ((ab.length+1:Nat):Int)=some d by have:=a7 (ab++[c]) d t;simpa using this,qB,ag,aq _,qf1,qW h1,qX h2]
     have ih2:=ih n oA (ab++[c,d]) t (out++[d]) oA oB oB
     simp only[qM,qL,qZ,qS,wK,List.nil_append,wO]at ih2;exact ih2
   ·rw[qW h2,ag,qf1,qW h1,qW h2]
    exact ih1
def y8(s:Bs):Option (Bs×Bs):=if(di 34 s).1=true then qv [] (di 34 s).2 else some (bz lr (di 34 s).2)
def qf7(c:UInt8)(s:Bs):(di c s).2.length<=s.length:=by
 have:=mo s;unfold di
 cases h:bc s with
 |nil=>simp|cons d t=>
  rw[h]at this;simp only[qL]at this;by_cases hd:d=c
  ·simp only[qX hd];omega
  ·simp only[qW hd,qL];omega
def zzc(fu:Nat)(hfu:90000000<=fu)(s:Bs)(h:s.length<=4000000:=by omega):∃r,qpu fu s=some (match y8 s with|some (v,t)=>(v,(true,t))|none=>([],(false,r))):=by
 have hl:=qf7 34 s;unfold qpu y8;rw[qte fu hfu 34 s h,qB];cases hs:(di 34 s).1
 ·rw[da,zx8 fu hfu _,qW oC]
  exact⟨[],rfl⟩
 ·rw[bt,qX rfl];have:=zul fu fu [] (di 34 s).2 [] oA oB oB
  exact⟨(di 34 s).2,by simpa using this⟩
def qt(s:Bs):Option ((Bs×Bs)×Bs):=if(di 61 (bz dy s).2).1=true then(y8 (di 61 (bz dy s).2).2).map fun x=>(((bz dy s).1,x.1),x.2) else none
def qb9(p:UInt8->Bool)(s:Bs):(bz p s).1.length+(bz p s).2.length<=s.length:=by
 have:=mo s;have h:=congrArg List.length (List.takeWhile_append_dropWhile (p:=p) (l:=bc s));rw[qM]at h;unfold bz;simp only;omega
def ze0:∀(out s v t:Bs),qv out s=some (v,t)->v.length+t.length<out.length+s.length/\t <:+ s:=by
 intro out s
 induction s using WellFounded.induction (r:=fun(a b:Bs)=>a.length<b.length) (hwf:=InvImage.wf List.length Nat.lt_wfRel.wf) generalizing out with
 |_ s ih=>
  intro v t h
  cases s with
  |nil=>cases h
  |cons c s=>
   rw[qf1]at h;by_cases h1:c=34
   ·rw[qX h1]at h;cases h;exact⟨oC,List.suffix_cons _ _⟩
   rw[qW h1]at h;by_cases h2:c=92
   ·rw[qX h2]at h
    cases s with
    |nil=>cases h
    |cons d s=>
     obtain⟨g1,g2⟩:=ih s oB (out++[d]) v t h
     refine⟨by simp at g1 ⊢;omega,g2.trans ((List.suffix_cons _ _).trans (List.suffix_cons _ _))⟩
   ·rw[qW h2]at h;obtain⟨g1,g2⟩:=ih s oC (out++[c]) v t h
    exact⟨by simp at g1 ⊢;omega,g2.trans (List.suffix_cons _ _)⟩
def zgi(c:UInt8)(s:Bs):(di c s).2 <:+ s:=by
 have:=tj s;unfold di
 cases h:bc s with
 |nil=>simp|cons d t=>
  rw[h]at this;by_cases hd:d=c
  ·simp only[qX hd];exact(List.suffix_cons _ _).trans this
  ·simp only[qW hd];exact this
def zg1(p:UInt8->Bool)(s:Bs):(bz p s).2 <:+ s:=(List.dropWhile_suffix _).trans (tj s)
def zy6{s v t:Bs}(h:y8 s=some (v,t)):v.length+t.length<=s.length/\t <:+ s:=by
 have hl:=qf7 34 s;have hx:=zgi 34 s;unfold y8 at h;by_cases hs:(di 34 s).1=true
 ·rw[qX hs]at h;obtain⟨g1,g2⟩:=ze0 [] _ _ _ h;exact⟨by simp at g1;omega,g2.trans hx⟩
 ·rw[qW hs]at h;have e:=qJ h;have g1:=qb9 lr (di 34 s).2;have g2:=zg1 lr (di 34 s).2;rw[e]at g1 g2;simp only at g1 g2;exact⟨oA,g2.trans hx⟩
def q3d{s n v t:Bs}(h:qt s=some ((n,v),t)):n.length+v.length+t.length<=s.length/\t <:+ s:=by
 have h1:=qb9 dy s;have h1':=zg1 dy s;have h2:=qf7 61 (bz dy s).2;have h2':=zgi 61 (bz dy s).2;unfold qt at h;by_cases hs:(di 61 (bz dy s).2).1=true
 ·rw[qX hs]at h
  cases hv:y8 (di 61 (bz dy s).2).2 with
  |none=>rw[hv]at h;cases h
  |some x=>
   rw[hv]at h;obtain⟨g1,g2⟩:=zy6 (v:=x.1) (t:=x.2) hv;have e:=qJ h;obtain⟨rfl,e2⟩:=Prod.mk.inj (Prod.mk.inj e).1;obtain rfl:=(Prod.mk.inj e).2;subst e2;exact⟨oA,g2.trans (h2'.trans h1')⟩
 ·rw[qW hs]at h;cases h
def pos(s r:Bs):Int:=((s.length-r.length:Nat):Int)
def qmf{s r:Bs}(h:r <:+ s):List.drop (pos s r).toNat s=r:=(List.suffix_iff_eq_drop.1 h).symm
def zeo{s r:Bs}(h:r <:+ s):∃p,s=p++r/\pos s r=(p.length:Int):=by
 obtain⟨p,rfl⟩:=h;exact⟨p,rfl,by unfold pos;simp⟩
def ym{s:Bs}{c:UInt8}{t:Bs}(h:(c::t) <:+ s):ai s (pos s (c::t))=some c:=by
 obtain⟨p,rfl,e⟩:=zeo h;rw[e];exact a7 p c t
def qz{s:Bs}{c:UInt8}{t:Bs}(h:(c::t) <:+ s)(hb:s.length<1000000000:=by omega):ae (pos s (c::t)+1)=pos s t:=by
 have:=h.length_le;simp only[qL]at this;unfold pos;rw[aq _];simp only[qL];omega
def od{s:Bs}{c:UInt8}{t:Bs}(h:(c::t) <:+ s):pos s (c::t)<(s.length:Int):=by
 have:=h.length_le;simp only[qL]at this;unfold pos;simp only[qL];omega
def jk(s:Bs):pos s []=(s.length:Int):=by unfold pos;simp
def q4g(s:Bs):pos s s=0:=by unfold pos;simp
def vm(s r:Bs):0<=pos s r/\pos s r<=(s.length:Int):=by unfold pos;omega
def q4h{s r r':Bs}(h2:r' <:+ r):pos s r<=pos s r':=by have:=h2.length_le;unfold pos;omega
def q4i{s r r':Bs}(h:r <:+ s)(h2:r' <:+ r):List.take ((pos s r').toNat-(pos s r).toNat) (List.drop (pos s r).toNat s)=r.take (r.length-r'.length):=by
 rw[qmf h];have:=h.length_le;have:=h2.length_le;congr 1;unfold pos;omega
def zya(p:UInt8->Bool)(r:Bs):r.take (r.length-(r.dropWhile p).length)=r.takeWhile p:=by
 have h:r.takeWhile p++r.dropWhile p=r:=List.takeWhile_append_dropWhile;have h2:=congrArg List.length h;rw[qM]at h2;rw[show r.length-(r.dropWhile p).length=(r.takeWhile p).length by omega]
 have e:r.take (r.takeWhile p).length=(r.takeWhile p++r.dropWhile p).take (r.takeWhile p).length:=by rw[h]
 rw[e,List.take_left]
def zw7(fu n:Nat)(s:Bs)(hb:s.length<100000000):∀(r:Bs),r <:+ s->r.length<n->qiq fu n s (pos s r)=some (pos s (bc r)):=by
 induction n with
 |zero=>intro r _ h;omega|succ n ih=>
  intro r hr h;rw[qiq,qwt]
  cases r with
  |nil=>rw[jk,ao];simp[bc,jk]|cons c t=>
   rw[ag (od hr),ym hr,qB,qb3,qB,qz hr,qw]
   cases hc:bl c
   ·rfl
   ·rw[ar rfl,qX rfl];exact ih t ((List.suffix_cons _ _).trans hr) (by simp only[qL]at h;omega)
def yx(fu:Nat)(hfu:90000000<=fu){s r:Bs}(h:s.length<=4000000)(hr:r <:+ s):ry fu s (pos s r)=some (pos s (bc r)):=
 zw7 fu fu s oA r hr (by have:=hr.length_le;omega)
def zwk(fu n:Nat)(hfu:90000000<=fu)(more:Bs)(hm:more.length<100)(s:Bs)(hb:s.length<100000000):∀(r:Bs),r <:+ s->r.length<n->qip fu n s (pos s r) more=some (pos s (r.dropWhile fun c=>tk c||more.contains c)):=by
 induction n with
 |zero=>intro r _ h;omega|succ n ih=>
  intro r hr h;rw[qip,qws]
  cases r with
  |nil=>rw[jk,ao];simp[jk]|cons c t=>
   rw[ag (od hr),ym hr,qB,q40 fu oA,qB,qz hr,List.dropWhile_cons]
   have:=ih t ((List.suffix_cons _ _).trans hr) (by simp only[qL]at h;omega)
   cases hc:tk c
   ·rw[au rfl,qB,zd9 fu c more,qB,Bool.false_or]
    cases hd:more.contains c
    ·rfl
    ·rw[ar rfl];exact this
   ·rw[ar rfl];exact this
def qmo(fu:Nat)(hfu:90000000<=fu)(more:Bs)(hm:more.length<100){s r:Bs}(h:s.length<=4000000)(hr:r <:+ s)(p:UInt8->Bool)(hp:∀c,(tk c||more.contains c)=p c) :
  qdh fu s (pos s r) more=some (pos s (r.dropWhile p)):=by
 have:=zwk fu fu hfu more hm s oA r hr (by have:=hr.length_le;omega)
 rw[show(fun c=>tk c||more.contains c)=p from funext hp]at this
 exact this
open Go.Lib (decDigits nDigits itoa atoiAll parseUint10 parseMag NumEnd)
def qlm(d:Nat)(h:d<10:=by omega):(UInt8.ofNat (48+d)).toNat=48+d:=by
 rw[UInt8.toNat_ofNat'];omega
def qe7(u:Nat)(h:u<10):decDigits u=[UInt8.ofNat (48+u)]:=by rw[decDigits,dif_pos h]
def qe6(u:Nat)(h:¬u<10):decDigits u=decDigits (u/10)++[UInt8.ofNat (48+u%10)]:=by rw[decDigits,dif_neg h]
def zbm(u:Nat):decDigits u≠[]:=by
 by_cases h:u<10
 ·rw[qe7 u h];simp
 ·rw[qe6 u h];simp
def zbl(u:Nat):∀c∈decDigits u,48<=c.toNat/\c.toNat<=57:=by
 induction u using Nat.strongRecOn with
 |ind u ih=>
  intro c hc;by_cases h:u<10
  ·rw[qe7 u h]at hc;rw[List.mem_singleton.1 hc,qlm u h];omega
  ·rw[qe6 u h]at hc;rcases List.mem_append.1 hc with hc|hc
   ·exact ih (u/10) oA c hc
   ·rw[List.mem_singleton.1 hc,qlm _];omega
def qlj(k:Nat):∀u,u<10 ^ k->1<=k->(decDigits u).length<=k:=by
 induction k with
 |zero=>intro u _ h;omega|succ k ih=>
  intro u hu _;by_cases h:u<10
  ·rw[qe7 u h];simp
  ·rw[qe6 u h,qM,wD];have hk:1<=k:=by
    rcases Nat.eq_zero_or_pos k with h0|h0
    ·subst h0;simp at hu;omega
    ·exact h0
   have:=ih (u/10) (by rw[Nat.pow_succ]at hu;omega) hk
   omega
def s9(a:Nat)(l:Bs):Nat:=l.foldl (fun a c=>10*a+(c.toNat-48)) a
def zo3(u:Nat):s9 0 (decDigits u)=u:=by
 induction u using Nat.strongRecOn with
 |ind u ih=>
  by_cases h:u<10
  ·rw[qe7 u h];show 10*0+((UInt8.ofNat (48+u)).toNat-48)=u;rw[qlm u h];omega
  ·rw[qe6 u h];unfold s9;rw[List.foldl_append];have:=ih (u/10) oA
   unfold s9 at this;rw[this];show 10*(u/10)+((UInt8.ofNat (48+u%10)).toNat-48)=u;rw[qlm _];omega
def zth:∀(l:Bs)(a:Nat)(c:UInt8),parseUint10 a (l++[c])=match parseUint10 a l with | .ok b=>parseUint10 b [c]|e=>e:=by
 intro l
 induction l with
 |nil=>intro a c;rfl|cons d l ih=>
  intro a c;rw[wK,parseUint10,parseUint10];by_cases h1:48<=d.toNat/\d.toNat<=57
  ·rw[qX h1,qX h1];by_cases h2:1844674407370955162<=a
   ·rw[qX h2,qX h2]
   ·rw[qW h2,qW h2];by_cases h3:18446744073709551616<=a*10+(d.toNat-48)
    ·rw[qX h3,qX h3]
    ·rw[qW h3,qW h3,ih]
  ·rw[qW h1,qW h1]
def zti(u:Nat):u<9223372036854775808->parseUint10 0 (decDigits u) = .ok u:=by
 induction u using Nat.strongRecOn with
 |ind u ih=>
  intro hu;have step:∀a d,a*10+d=u->d<10->parseUint10 a [UInt8.ofNat (48+d)] = .ok u:=by
   intro a d h1 h2;rw[parseUint10,qlm d h2,qX oA,qW oA,qW oA,parseUint10]
   congr 1;omega
  by_cases h:u<10
  ·rw[qe7 u h];exact step 0 u oA h
  ·rw[qe6 u h,zth,ih (u/10) oA oA]
   exact step (u/10) (u%10) oA oA
def zm0(u:Nat)(hu:u<9223372036854775808:=by omega):atoiAll (decDigits u) = .ok (u:Int):=by
 have hd:=zbl u;have hp:=zti u hu;have hne:=zbm u
 cases hl:decDigits u with
 |nil=>exact absurd hl hne|cons c r=>
  rw[hl]at hd hp;have hc:=hd c qH;unfold atoiAll;simp only[];rw[qW (c:=c.toNat=43\/c.toNat=45) oA,parseMag,qW oC,hp]
  simp only[];rw[qW oA,qW oA,qW oA]
def q26(u:Nat):itoa (u:Int)=decDigits u:=by unfold itoa;rw[qW oA];simp
def zsx(u:Nat)(most:Int)(h:(u:Int)<=most)(hm:most<9223372036854775808):ie (decDigits u) most=((u:Int),true):=by
 unfold ie;rw[zm0 u]
 simp only[];rw[qX ⟨q26 u,oA,h⟩]
def q31{s:Bs}{most:Int}(h:(ie s most).2=true):∃u:Nat,s=decDigits u/\(u:Int)<=most/\ie s most=((u:Int),true):=by
 have h0:=h;unfold ie at h;split at h
 ·rename_i v hv;by_cases hc:itoa v=s/\0<=v/\v<=most
  ·obtain⟨u,rfl⟩:∃u:Nat,v=u:=⟨v.toNat,oA⟩
   refine⟨u,by rw[← hc.1,q26],hc.2.2,?_⟩
   unfold ie;rw[hv];simp only[];rw[qX hc]
  ·rw[qW hc]at h;cases h
 ·cases h
def quj{x:Int}(h1:0<=x:=by omega)(h2:x<18446744073709551616:=by omega):IntKind.u64.wrap x=x:=by
 unfold IntKind.wrap;simp[IntKind.signed,IntKind.bits];omega
def zbq(d:Nat)(h:d<10):List.take (d+1-d) (List.drop d ([48,49,50,51,52,53,54,55,56,57]:Bs))=[UInt8.ofNat (48+d)]:=by
 have:∀d:_root_.Fin 10,List.take (d.val+1-d.val) (List.drop d.val ([48,49,50,51,52,53,54,55,56,57]:Bs))=[UInt8.ofNat (48+d.val)]:=oE
 exact this ⟨d,h⟩
def zoo(fu:Nat)(k:Nat):∀(n u:Nat),k<=n->u<10 ^ k->1<=k->u<9223372036854775808->qij fu n (u:Int)=some (decDigits u):=by
 induction k with
 |zero=>intro n u _ _ h;omega|succ k ih=>
  intro n u hn hu _ hb;obtain⟨n,rfl⟩:∃m,n=m+1:=⟨n-1,oA⟩
  rw[qij,qof];by_cases h:u<10
  ·rw[ag,show(u:Int)+1=((u+1:Nat):Int) by omega,quj,ag,qe7 u h]
   simp only[qY];rw[zbq u h]
  ·have hk:1<=k:=by
    rcases Nat.eq_zero_or_pos k with h0|h0
    ·subst h0;simp at hu;omega
    ·exact h0
   have e1:Int.tdiv (u:Int) 10=((u/10:Nat):Int):=by rw[Int.tdiv_eq_ediv_of_nonneg oA];omega
   have e2:Int.tmod (u:Int) 10=((u%10:Nat):Int):=by rw[Int.tmod_eq_emod_of_nonneg oA];omega
   have hr:=ih n (u/10) oA (by rw[Nat.pow_succ]at hu;omega) hk oA
   have ac:(decDigits (u/10)).length<=19:=qlj 19 _ oA oA
   rw[ao,e1,quj,hr,qB,e2,show((u%10:Nat):Int)+1=((u%10+1:Nat):Int) by omega,quj,ag]
   simp only[qY];simp only[zbq (u%10) (Nat.mod_lt _ oE)]
   rw[ag oF,qe6 u h]
def q32(fu:Nat)(hfu:100<=fu)(u:Nat)(hu:u<9223372036854775808:=by omega):wn fu (u:Int)=some (decDigits u):=by
 unfold wn qwo;rw[ao,quj,zoo fu 19 fu u oA oA oA hu];rfl
def zot(fu n:Nat):∀(ab aa:Bs)(a:Nat),aa.length<n->ab.length+aa.length<100000000->ab.length<=9->a<10 ^ ab.length ->
  qil fu n (ab++aa) 1 9 (a:Int) (ab.length:Int)=some (if(∀c∈aa,48<=c.toNat/\c.toNat<=57)/\1<=ab.length+aa.length/\ab.length+aa.length<=9 then(s9 a aa:Int) else -1):=by
 induction n with
 |zero=>intro ab aa a h;omega|succ n ih=>
  intro ab aa a h hb hp ha;have hpow:10 ^ ab.length<=10 ^ 9:=Nat.pow_le_pow_right oA hp
  rw[qil,qwp]
  cases aa with
  |nil=>
   rw[ao,gw,qB]
   simp only[List.append_nil,qZ,Nat.add_zero,List.not_mem_nil,false_implies,implies_true,true_and];by_cases h1:1<=ab.length/\ab.length<=9
   ·rw[decide_eq_true oA,bt,qX h1];rfl
   ·rw[decide_eq_false oA,da,qW h1]
  |cons c t=>
   simp only[qL]at h hb;rw[ag oJ,a7,qB,gw,qB]
   by_cases hc:48<=c.toNat/\c.toNat<=57
   ·rw[decide_eq_true oA,bt,qim]
    by_cases h9:9<=ab.length
    ·rw[ag,qW oG]
    ·rw[ao,qwq,a7,qB,aq _]
     have hsub:(c-48).toNat=c.toNat-48:=by
      rw[UInt8.toNat_sub_of_le _ _ (by rw[UInt8.le_iff_toNat_le];show 48<=_;omega)];rfl
     rw[hsub,show(10:Int)*(a:Int)=((10*a:Nat):Int) by omega,bq (x:=((10*a:Nat):Int)) oA oA,g7 _ _]
     have:=ih (ab++[c]) t (10*a+(c.toNat-48)) oA oB oB (by simp only[qM,qL,qZ,wO,Nat.pow_succ];omega)
     simp only[qM,qL,qZ,qS,wM,wO]at this;refine this.trans ?_;congr 1;by_cases hq:(∀x∈t,48<=x.toNat/\x.toNat<=57)/\1<=ab.length+1+t.length/\ab.length+1+t.length<=9
     ·rw[qX hq,qX ⟨fun x hx=>(List.mem_cons.1 hx).elim (fun e=>e▸hc) (hq.1 x),oG,oG⟩];rfl
     ·rw[qW hq,qW (fun g=>hq ⟨fun x hx=>g.1 x (qE _ hx),by have:=g.2;simp only[qL]at this;omega,by have:=g.2;simp only[qL]at this;omega⟩)]
   ·rw[decide_eq_false oA,da,qim,ar rfl,qW (fun g=>hc (g.1 c qH))]
def zos(fu:Nat)(s:Bs)(h:s.length<fu)(hb:s.length<100000000):qik fu s 1 9=some (if(∀c∈s,48<=c.toNat/\c.toNat<=57)/\1<=s.length/\s.length<=9 then(s9 0 s:Int) else -1):=by
 have:=zot fu fu [] s 0 h (by simpa using hb) oC oC
 simpa [qik] using this
def zo4:∀(s:Bs)(a k:Nat),(∀c∈s,48<=c.toNat/\c.toNat<=57)->a<10 ^ k->s9 a s<10 ^ (k+s.length):=by
 intro s
 induction s with
 |nil=>intro a k _ h;exact h|cons c s ih=>
  intro a k hd h;have hc:=hd c qH;have:=ih (10*a+(c.toNat-48)) (k+1) (fun x hx=>hd x (qE _ hx)) (by rw[Nat.pow_succ];omega)
  rw[qL,show k+(s.length+1)=k+1+s.length by omega];exact this
def qbx(s:Bs):Option Int:=if(ie s 1099511627776).2=true/\(ie s 1099511627776).1<1000000000 then some (ie s 1099511627776).1 else none
def zsw(fu:Nat)(hfu:1000<=fu)(s:Bs)(h:s.length<fu:=by omega)(hb:s.length<100000000:=by omega):∃x:Int,qik fu s 1 9=some x /\
  ((qbx s=some x/\0<=x/\wn fu x=some s)\/(qbx s=none/\(x<0\/(0<=x/\∃t,wn fu x=some t/\t≠s)))):=by
 refine⟨_,zos fu s h hb,?_⟩;by_cases hq:(∀c∈s,48<=c.toNat/\c.toNat<=57)/\1<=s.length/\s.length<=9
 ·rw[qX hq];have hlt:s9 0 s<1000000000:=by
   have h1:=zo4 s 0 0 hq.1 oC
   have h2:10 ^ (0+s.length)<=10 ^ 9:=Nat.pow_le_pow_right oA oA
   omega
  have hN:=q32 fu oA (s9 0 s)
  by_cases he:decDigits (s9 0 s)=s
  ·refine .inl ⟨?_,oA,by rw[hN,he]⟩
   have:=zsx (s9 0 s) 1099511627776 oA oE
   rw[he]at this;unfold qbx;rw[this,qX ⟨rfl,oM⟩]
  ·refine .inr ⟨?_,.inr ⟨oA,_,hN,he⟩⟩
   unfold qbx;rw[qW];rintro⟨g1,_⟩
   obtain⟨u,rfl,_,_⟩:=q31 g1;exact he (by rw[zo3])
 ·rw[qW hq];refine .inr ⟨?_,.inl oA⟩
  unfold qbx;rw[qW];rintro⟨g1,g2⟩
  obtain⟨u,rfl,_,g3⟩:=q31 g1;rw[g3]at g2;simp only at g2;refine hq ⟨zbl u,?_,qlj 9 u oA oA⟩
  have:=zbm u
  cases hd:decDigits u with|nil=>exact absurd hd this|cons=>simp
end Go.Sym
namespace Go.Sym
def hv(c:UInt8):Option UInt8:=if 48<=c/\c<=57 then some (c-48) else if 65<=c/\c<=70 then some (c-65+10) else if 97<=c/\c<=102 then some (c-97+10) else none
def hx(a b:UInt8):Option UInt8:=(hv a).bind fun x=>(hv b).map fun y=>16*x+y
def q1d:∀n:_root_.Fin 256,uk (UInt8.ofNat n.val)=some ((hv (UInt8.ofNat n.val)).getD 0,(hv (UInt8.ofNat n.val)).isSome):=by decide +kernel
def q1e(c:UInt8):uk c=some ((hv c).getD 0,(hv c).isSome):=iq (fun c=>uk c=some ((hv c).getD 0,(hv c).isSome)) q1d c
def gh(c:UInt8):Int:=match hv c with|some x=>(x.toNat:Int)|none => -1
def fp:List UInt8:=[48,49,50,51,52,53,54,55,56,57,65,66,67,68,69,70]
def qp(c:UInt8):Nat->Nat->Int|0,_ => -1|m+1,k=>if fp.getD k 0=c then(k:Int) else if(fp.map lo).getD k 0=c then(k:Int) else qp c m (k+1)
def q20:∀n:_root_.Fin 256,qp (UInt8.ofNat n.val) 16 0=gh (UInt8.ofNat n.val):=by decide +kernel
def q4x(fu:Nat)(hfu:16<fu)(c:UInt8):∀(m k n:Nat),m+k=16->m<n->uf fu n c (k:Int)=some (qp c m k):=by
 intro m
 induction m with
 |zero=>
  intro k n hk hn;obtain⟨n,rfl⟩:∃j,n=j+1:=⟨n-1,oA⟩
  rw[uf,qcu,ao];rfl
 |succ m ih=>
  intro k n hk hn;obtain⟨n,rfl⟩:∃j,n=j+1:=⟨n-1,oA⟩
  have h1:k<fp.length:=by show k<16;omega
  have h2:k<(fp.map lo).length:=by show k<16;omega
  have i1:ai fp (k:Int)=some (fp.getD k 0):=by rw[qq _ _ h1];exact congrArg some (List.getElem_eq_getD 0)
  have i2:ai (fp.map lo) (k:Int)=some ((fp.map lo).getD k 0):=by rw[qq _ _ h2];exact congrArg some (List.getElem_eq_getD 0)
  rw[uf,qcu,ag]
  rw[show([48,49,50,51,52,53,54,55,56,57,65,66,67,68,69,70]:List UInt8)=fp from rfl]
  rw[i1,qB,ez,qp];by_cases q:fp.getD k 0=c
  ·rw[qX q,qX q]
  ·rw[qW q,qW q,vn fu fp (by show 16<fu;omega) oE,qB,i2,qB,ez]
   by_cases q2:(fp.map lo).getD k 0=c
   ·rw[qX q2,qX q2]
   ·rw[qW q2,qW q2,aq _,ih (k+1) n oA oA]
def tr(fu:Nat)(hfu:17<fu)(c:UInt8):ni fu c=some (gh c):=by
 have:=q4x fu oA c 16 0 fu rfl oA
 unfold ni;rw[show(0:Int)=((0:Nat):Int) from rfl,this,iq (fun c=>qp c 16 0=gh c) q20 c]
def q21:∀n:_root_.Fin 256,(hv (UInt8.ofNat n.val)).all (fun x=>decide (x.toNat<16))=true:=by decide +kernel
def vd(c x:UInt8)(h:hv c=some x):x.toNat<16:=by
 have:=iq (fun c=>(hv c).all (fun x=>decide (x.toNat<16))=true) q21 c
 rw[h]at this;simpa using this
def q5s:∀x y:_root_.Fin 16,(nf (UInt8.ofNat x.val) (min (4:Int).toNat 8))|||UInt8.ofNat y.val=16*UInt8.ofNat x.val+UInt8.ofNat y.val/\dc (ae ((ae ((16:Int)*((UInt8.ofNat x.val).toNat:Int)))+((UInt8.ofNat y.val).toNat:Int)))=16*UInt8.ofNat x.val+UInt8.ofNat y.val:=by decide +kernel
def qm3(x y:UInt8)(hx1:x.toNat<16)(hy1:y.toNat<16):(nf x (min (4:Int).toNat 8))|||y=16*x+y/\dc (ae ((ae ((16:Int)*(x.toNat:Int)))+(y.toNat:Int)))=16*x+y:=by
 have:=q5s ⟨x.toNat,hx1⟩ ⟨y.toNat,hy1⟩;simpa using this
def mu:Bs->Option UInt8|a::b::_=>hx a b|_=>none
def q39(r:Bs):∃v,um r=some (v,(mu r).isSome)/\∀x,mu r=some x->v=x:=by
 match r with
 |[]=>exact⟨0,rfl,fun x h=>by cases h⟩
 |[_]=>exact⟨0,rfl,fun x h=>by cases h⟩
 |a::b::t=>
  have e:um (a::b::t)=some ((nf ((hv a).getD 0) (min (4:Int).toNat 8))|||(hv b).getD 0,(hv a).isSome&&(hv b).isSome):=by
   unfold um;rw[ao oG,show ai (a::b::t) 0=some a from rfl,show ai (a::b::t) 1=some b from rfl]
   simp only[qB,q1e];cases (hv a).isSome<;>rfl
  rw[e,show mu (a::b::t)=hx a b from rfl]
  unfold hx
  cases ha:hv a with
  |none=>exact⟨_,rfl,fun x h=>by cases h⟩
  |some x=>
   cases hb:hv b with
   |none=>exact⟨_,rfl,fun x h=>by cases h⟩
   |some y=>exact⟨_,rfl,fun z h=>by cases h;exact(qm3 x y (vd a x ha) (vd b y hb)).1⟩
def fh:Bs->Bs|[]=>[]|[c]=>[c]|[c,d]=>[c,d]|c::a::b::r=>if c=37 then(match hx a b with|some x=>x::fh r|none=>c::fh (a::b::r)) else c::fh (a::b::r)
def q4d(c:UInt8)(r:Bs)(h:c≠37):fh (c::r)=c::fh r:=by
 match r with|[]=>rfl|[_]=>rfl|_::_::_=>rw[fh,qW h]
def q4c(r:Bs):fh (37::r)=match mu r with|some x=>x::fh (r.drop 2)|none=>37::fh r:=by
 match r with
 |[]=>rfl|[_]=>rfl|a::b::t=>
  rw[fh,qX rfl];show _=match hx a b with|some x=>x::fh t|none=>37::fh (a::b::t)
  cases hx a b<;>rfl
def zek:∀(n:Nat)(s:Bs),s.length<=n->(fh s).length<=s.length:=by
 intro n
 induction n with
 |zero=>intro s h;have:s=[]:=List.eq_nil_of_length_eq_zero oA;subst this;simp[fh]|succ n ih=>
  intro s h
  cases s with
  |nil=>simp[fh]|cons c r=>
   simp only[qL]at h;have h1:=ih r oA
   by_cases hc:c=37
   ·subst hc;rw[q4c]
    cases hp:mu r with
    |none=>simp only[qL];omega|some x=>
     have h2:=ih (r.drop 2) oB
     simp only[qL,List.length_drop]at h2 ⊢;omega
   ·rw[q4d c r hc];simp only[qL];omega
def zyd(fu n:Nat):∀(ab aa out:Bs),aa.length<n->ab.length+aa.length<100000000->out.length+aa.length<100000000 ->
  qjz fu n (ab++aa) (ab.length:Int) out=some (out++fh aa):=by
 have hrm:=og
 induction n using Nat.strongRecOn with
 |ind n ih=>
  intro ab aa out h hb ho;obtain⟨n,rfl⟩:∃m,n=m+1:=⟨n-1,oA⟩
  rw[qjz,qyw]
  cases aa with
  |nil=>rw[ao];simp[fh]|cons c t=>
   simp only[qL]at h hb ho;have one:=ih n oA (ab++[c]) t (out++[c]) oA oB oB
   simp only[qM,qL,qZ,qS,wM,wO]at one;rw[ag oJ,a7,qB,ez,aq _]
   by_cases hc:c=37
   ·rw[qX hc,ag oJ,qfb]
    obtain⟨v,h1,h2⟩:=q39 t;rw[h1,qB];subst hc;rw[q4c]
    cases hp:mu t with
    |none=>
     rw[Option.isSome_none,au rfl,qB,ag]
     exact one
    |some x=>
     obtain⟨a,b,r,rfl⟩:∃a b r,t=a::b::r:=by
      match t,hp with|a::b::r,_=>exact⟨a,b,r,rfl⟩
     simp only[qL]at h hb ho;rw[Option.isSome_some,ar rfl,h2 x hp,ag,show(ab.length:Int)+2=((ab.length+2:Nat):Int) by omega,bq (x:=((ab.length+2:Nat):Int)) oA oA,aq _]
     have two:=ih n oA (ab++[37,a,b]) r (out++[x]) oA oB oB
     simp only[qM,qL,qZ,qS,wK,List.nil_append,wO]at two;exact two
   ·rw[qW hc,qB,ag,q4d c t hc]
    exact one
def qt9(k:Int)(v:Bs):Bs:=if k=0/\6<=v.length/\lk (v.take 6) [117,116,102,56,39,39]=true then v.drop 6 else v
def om(p:Pc):Bs:=if p.2.2.1=true then fh (qt9 p.2.1 p.2.2.2) else p.2.2.2
def qua(fu:Nat)(hfu:90000000<=fu)(s:Bs)(h:s.length<=4000000):qd5 fu s=some (fh s):=by
 unfold qd5;have:=zyd fu fu [] s [] oA oB oB
 simpa using this
def zyc(fu:Nat)(hfu:90000000<=fu)(p:Pc)(h:p.2.2.2.length<=4000000:=by omega):qpp fu p=some (om p):=by
 unfold qpp om qt9;cases hs:p.2.2.1
 ·rfl
 rw[bt,qX rfl,eu];by_cases h0:p.2.1=0
 ·rw[qX h0];by_cases h6:6<=p.2.2.2.length
  ·rw[ag,ag,kq fu hfu _ _ (by show(List.take 6 _).length<=_;rw[List.length_take];omega) oC,qB]
   show w6 fu p.2.2.2 (lk (p.2.2.2.take 6) _)=_;rw[w6];cases hl:lk (p.2.2.2.take 6) [117,116,102,56,39,39]
   ·rw[au rfl,qua fu hfu _ h,qW oC]
   ·rw[ar rfl,ag]
    show qd5 fu (p.2.2.2.drop 6)=_;rw[qua fu hfu _ oB,qX ⟨h0,h6,rfl⟩]
  ·rw[ao,w6,au rfl,qua fu hfu _ h,qW oA]
 ·rw[qW h0,w6,au rfl,qua fu hfu _ h,qW oA]
def qmz(p:Pc):(om p).length<=p.2.2.2.length:=by
 unfold om;split
 ·refine Nat.le_trans (zek _ _ (wF _)) ?_;unfold qt9;split
  ·simp
  ·exact wF _
 ·exact wF _
def qmu(ab:Bs)(c:UInt8)(t:Bs):List.take (((ab.length+1:Nat):Int).toNat-((ab.length:Nat):Int).toNat) (List.drop ((ab.length:Nat):Int).toNat (ab++c::t))=[c]:=by
 rw[nv,show((ab.length+1:Nat):Int).toNat-((ab.length:Nat):Int).toNat=1 by omega];rfl
def zy1(fu n:Nat)(hfu:100<=fu):∀(ab aa out:Bs),aa.length<n->ab.length+aa.length<100000000->out.length+aa.length<100000000 ->
  qdj fu n (ab++aa) out (ab.length:Int)=some (out++fh aa):=by
 induction n using Nat.strongRecOn with
 |ind n ih=>
  intro ab aa out h hb ho;obtain⟨n,rfl⟩:∃m,n=m+1:=⟨n-1,oA⟩
  rw[qdj,qwv]
  cases aa with
  |nil=>rw[ao];simp[fh]|cons c t=>
   simp only[qL]at h hb ho;have one:=ih n oA (ab++[c]) t (out++[c]) oA oB oB
   simp only[qM,qL,qZ,qS,wM,wO]at one;have hno:wq fu (qdj fu n) (ab++c::t) out (ab.length:Int) false=some (out++c::fh t):=by
    rw[wq,au rfl,aq _,ag oJ,qmu,ag oF,one]
    try simp
   rw[ag oJ,a7,qB,ez,show(ab.length:Int)+2=((ab.length+2:Nat):Int) by omega,bq (x:=((ab.length+2:Nat):Int)) oA oA,aq _]
   by_cases hc:c=37
   ·subst hc;rw[qX rfl,q4c]
    match t with
    |[]=>rw[ao (by rw[db];simp only[qZ];omega),hno];rfl|[x]=>rw[ao (by rw[db];simp only[qL,qZ];omega),hno];rfl|a::b::r=>
     simp only[qL]at h hb ho;have i1:ai (ab++37::a::b::r) ((ab.length+1:Nat):Int)=some a:=by have:=a7 (ab++[37]) a (b::r);simpa using this
     have i2:ai (ab++37::a::b::r) ((ab.length+2:Nat):Int)=some b:=by have:=a7 (ab++[37,a]) b r;simpa using this
     rw[ag (by rw[db];simp only[qL];omega),i1,qB,tr fu oA,qB]
     show _=some (out++match hx a b with|some x=>x::fh r|none=>37::fh (a::b::r))
     unfold hx
     cases ha:hv a with
     |none=>
      have:gh a = -1:=by unfold gh;rw[ha]
      rw[this,ao,hno];rfl
     |some x=>
      have hI:gh a=(x.toNat:Int):=by unfold gh;rw[ha]
      rw[hI,ag,i2,qB,tr fu oA,qB]
      cases hb':hv b with
      |none=>
       have:gh b = -1:=by unfold gh;rw[hb']
       rw[this,decide_eq_false oA,hno];rfl
      |some y=>
       have hJ:gh b=(y.toNat:Int):=by unfold gh;rw[hb']
       rw[hJ,decide_eq_true oA,wq,ar rfl,aq _,i1,qB,tr fu oA,qB,show(ab.length:Int)+2=((ab.length+2:Nat):Int) by omega,bq (x:=((ab.length+2:Nat):Int)) oA oA,i2,qB,tr fu oA,qB,hI,hJ,(qm3 x y (vd a x ha) (vd b y hb')).2,ag oF,aq _]
       have two:=ih n oA (ab++[37,a,b]) r (out++[16*x+y]) oA oB oB
       simp only[qM,qL,qZ,qS,wK,List.nil_append,wO]at two;exact two
   ·rw[qW hc,hno,q4d c t hc]
def zy0(fu:Nat)(hfu:90000000<=fu)(s:Bs)(h:s.length<=4000000):qoj fu s=some (fh s):=by
 have:=zy1 fu fu oA [] s [] oA oB oB
 simpa [qoj] using this
def qc(k:UInt8):Bs->Option (Bs×Bs)|[]=>none|c::t=>if c=k then some ([],t) else(qc k t).map fun x=>(c::x.1,x.2)
def q1w(k:UInt8)(t r:Bs)(h:∀x∈t,x≠k):qc k (t++k::r)=some (t,r):=by
 induction t with
 |nil=>rw[List.nil_append,qc,qX rfl]|cons c t ih=>
  rw[wK,qc,qW (h c qH),ih (fun x hx=>h x (qE _ hx))];rfl
def q1x(k:UInt8)(t:Bs)(h:∀x∈t,x≠k):qc k t=none:=by
 induction t with|nil=>rfl|cons c t ih=>rw[qc,qW (h c qH),ih (fun x hx=>h x (qE _ hx))];rfl
def zw8(s:Bs)(k:UInt8):qpk s [k]=some (Lib.indexByte s k):=by
 unfold qpk;rw[au (by rfl)]
 unfold qpl;by_cases h:[k]=s
 ·subst h;rw[ar];show some 0=some (Lib.indexByte ([]++[k]) k);rw[xv k [] [] oC];rfl
 ·rw[au (by simpa using h),ar,show ai [k] 0=some k from rfl];rfl
def zof(s:Bs)(k:UInt8)(h:s.length<=4000000:=by omega):qqd s [k]=some (match qc k s with|some x=>(x.1,(x.2,true))|none=>(s,([],false))):=by
 unfold qqd qyf;rw[zw8,qB];rcases qb7 k s with⟨t,r,rfl,ht⟩|hn
 ·rw[qM,qL]at h;rw[xv k t r ht,q1w k t r ht,ag,ag oJ,show(([k]:Bs).length:Int)=1 from rfl,aq _,ag oJ,qfb,qca];rfl
 ·rw[xw k s hn,q1x k s hn,ao];rfl
def o7(s:Bs):Bs×Bool:=if s.getLast? = some 42 then(s.dropLast,true) else(s,false)
def zoe(t:Bs)(hb:t.length<=4000000:=by omega):qqf t [42]=some (o7 t):=by
 unfold qqf qyh qjo o7;rw[show(([42]:List UInt8).length:Int)=1 from rfl]
 rcases List.eq_nil_or_concat t with rfl|⟨u,c,rfl⟩
 ·rfl
 ·rw[List.concat_eq_append]at *;simp only[qM,qL,qZ]at hb;rw[ia,il _ oA,ag,ag,qB,List.getLast?_concat,List.dropLast_concat]
  have e:List.drop ((u.length:Nat):Int).toNat (u++[c])=[c]:=nv u [c];rw[e,rh];by_cases hc:c=42
  ·subst hc;rw[qX rfl,show([(42:UInt8)]==[42])=true from rfl,bt,ag];rfl
  ·rw[qW (by simpa using hc),show([c]==[(42:UInt8)])=false by simpa using hc];rfl
def f8(nm v:Bs):Option Pc:=match qc 42 nm with|none=>if nm=[] then none else some (nm,-1,false,v)|some x=>if x.1≠[]/\(ie (o7 x.2).1 1099511627776).2=true then some (x.1,(ie (o7 x.2).1 1099511627776).1,(o7 x.2).2,v) else none
def ig(nm v:Bs):Option Pc:=match f8 nm v with|some p=>if p.2.1<1000000000 then some p else none|none=>none
def zbc{k:UInt8}{s:Bs}{x:Bs×Bs}(h:qc k s=some x):x.1.length+x.2.length<s.length:=by
 rcases qb7 k s with⟨t,r,rfl,ht⟩|hn
 ·rw[q1w k t r ht]at h;cases h;simp only[qM,qL];omega
 ·rw[q1x k s hn]at h;cases h
def zbw(s:Bs):(o7 s).1.length<=s.length:=by unfold o7;split<;>simp
def zem{nm v:Bs}{p:Pc}(h:f8 nm v=some p):p.1.length<=nm.length/\p.2.2.2=v /\ -1<=p.2.1/\p.2.1<=1099511627776/\p.1≠[]:=by
 unfold f8 at h
 cases hc:qc 42 nm with
 |none=>
  rw[hc]at h;simp only at h;by_cases hn:nm=[]
  ·rw[qX hn]at h;cases h
  ·rw[qW hn]at h;cases h;exact⟨wF _,rfl,oM,oM,hn⟩
 |some x=>
  rw[hc]at h;simp only at h;by_cases hn:x.1≠[]/\(ie (o7 x.2).1 1099511627776).2=true
  ·rw[qX hn]at h;obtain⟨u,_,h1,h2⟩:=q31 hn.2;have hl:=zbc hc;cases h
   rw[h2];exact⟨oM,rfl,oM,oM,hn.1⟩
  ·rw[qW hn]at h;cases h
def zsz(s:Bs)(h:s.length<=4000000:=by omega):qaf s 1099511627776=some (ie s 1099511627776):=by unfold qaf;rw[ag]
def zsh(fu:Nat)(hfu:90000000<=fu)(s:Bs)(h:s.length<=4000000:=by omega):∃R,qpr fu s=some R/\match qt s with
  |none=>R.2.1=false|some x=>match f8 x.1.1 x.1.2 with
   |none=>R.2.1=false|some p=>R=(p,(true,x.2)):=by
 have l1:=qb9 dy s;have l2:=qf7 61 (bz dy s).2;unfold qpr qt;rw[zx6 fu hfu s h,qB,qte fu hfu 61 _,qB]
 cases hs:(di 61 (bz dy s).2).1
 ·rw[da,qW oC];exact⟨_,rfl,rfl⟩
 rw[bt,qX rfl];obtain⟨r,hv⟩:=zzc fu hfu (di 61 (bz dy s).2).2
 rw[hv,qB,zof _ 42,qB]
 generalize hx:y8 (di 61 (bz dy s).2).2=vs;generalize hn:(bz dy s).1=nm at *
 cases hc:qc 42 nm with
 |none=>
  simp only[qF]
  cases vs with
  |none=>exact⟨_,rfl,rfl⟩|some x=>
   refine⟨_,rfl,?_⟩;simp only[wQ];unfold f8;rw[hc]
   cases nm with|nil=>rfl|cons c nm=>rfl
 |some y=>
  have l3:=zbc hc;have l4:=zbw y.2;simp only[qT];rw[zoe _,qB,zsz _,qB]
  cases vs with
  |none=>exact⟨_,rfl,rfl⟩|some x=>
   simp only[qT,wQ];unfold f8;rw[hc];simp only;cases hq:(ie (o7 y.2).1 1099511627776).2
   ·rw[qW oC];exact⟨_,rfl,rfl⟩
   ·by_cases hy:y.1=[]
    ·rw[qW (by simp[hy])];refine⟨_,rfl,?_⟩;simp[hy]
    ·rw[qX ⟨hy,rfl⟩];refine⟨_,rfl,?_⟩;simp only;congr 2
     cases hy1:y.1 with|nil=>exact absurd hy1 hy|cons=>rfl
def dm(f:Bs->Bs->Option Pc):Nat->List Pc->Bs->Option (List Pc)
 |0,_,_=>none|n+1,acc,s=>match bc s with
  |[]=>some acc| c::t=>if c=59 then(match qt t with
   |none=>none|some x=>match f x.1.1 x.1.2 with
    |none=>none| some p=>dm f n (acc++[p]) x.2) else none
def c7(l:List Pc):Nat:=(l.map fun p=>p.1.length+p.2.2.2.length+1).sum
def zgx(l:List Pc)(p:Pc):c7 (l++[p])=c7 l+(p.1.length+p.2.2.2.length+1):=by unfold c7;simp
def oh(l:List Pc):l.length<=c7 l:=by
 unfold c7
 induction l with|nil=>simp|cons p l ih=>simp only[List.map_cons,List.sum_cons,qL];omega
def qbj(R:qkx):Prop:=match R with | .inl x=>x.2.2=false | .inr x=>x.2.2.1=false
def nb(p:Pc):Prop := -1<=p.2.1/\p.2.1<=1099511627776
def ztx(fu:Nat)(hfu:90000000<=fu)(Qp:List Pc->Bool×List ck)(hQ:∀l,c7 l<=300000->(∀x∈l,nb x)->qd3 fu l=some (Qp l))(a b T S:Bs):∀(n:Nat)(s:Bs)(acc:List Pc),c7 acc+s.length<=300000->s.length<n->(∀x∈acc,nb x) ->
  ∃R,qjy fu n a b s T S acc=some R/\match dm f8 n acc s with
   |none=>qbj R|some l=>if(Qp l).1=true then R = .inr (T,(S,(true,(Qp l).2))) else qbj R:=by
 have hrm:=og;intro n
 induction n with
 |zero=>intro s acc _ h;omega|succ n ih=>
  intro s acc hz h hnb;have hl:=mo s;have hal:=oh acc;rw[qjy,qyu,qte fu hfu 59 s,qB,dm]
  unfold di
  cases ht:bc s with
  |nil=>
   simp only[qF];rw[qev fu hfu [] oC,qB,hQ acc oA hnb,qB]
   cases hq:(Qp acc).1
   ·refine⟨_,rfl,?_⟩;rw[qW oC];rfl
   ·refine⟨_,rfl,?_⟩;rw[qX rfl];rfl
  |cons c t=>
   rw[ht]at hl;simp only[qL]at hl;by_cases hc:c=59
   ·simp only[qX hc,qT];obtain⟨R,h1,h2⟩:=zsh fu hfu t
    rw[h1,qB]
    cases hx:qt t with
    |none=>
     rw[hx]at h2;simp only at h2;rw[h2,da];exact⟨_,rfl,rfl⟩
    |some x=>
     rw[hx]at h2;simp only at h2 ⊢;have hxl:=(q3d (n:=x.1.1) (v:=x.1.2) (t:=x.2) hx).1
     cases hp:f8 x.1.1 x.1.2 with
     |none=>
      rw[hp]at h2;simp only at h2;rw[h2,da];exact⟨_,rfl,rfl⟩
     |some p=>
      rw[hp]at h2;simp only at h2 ⊢;obtain⟨g1,g2,g3,g4,_⟩:=zem hp;subst h2;have hz2:c7 (acc++[p])+x.2.length<=300000:=by rw[zgx,g2];omega
      rw[bt,ag]
      exact ih x.2 (acc++[p]) hz2 oA (fun y hy=>(List.mem_append.1 hy).elim (hnb y) (fun e=>by rw[List.mem_singleton.1 e];exact⟨g3,g4⟩))
   ·simp only[qW hc,qF];rw[qev fu hfu (c::t) oG,qB,show bc (c::t)=c::t by rw[← ht,qfv],hQ acc oA hnb,qB]
    cases hq:(Qp acc).1
    ·exact⟨_,rfl,rfl⟩
    ·exact⟨_,rfl,rfl⟩
def pd(f:Bs->Bs->Option Pc)(s:Bs):Option (Bs×Bs×List Pc):=
 let a:=bz tk s;let b:=di 47 a.2;let c:=bz tk b.2
 if a.1=[]\/b.1=false\/c.1=[] then none else(dm f (s.length+1) [] c.2).map fun l=>(a.1,c.1,l)
def qmh(f:Bs->Bs->Option Pc):∀(n:Nat)(acc:List Pc)(s:Bs),s.length<n->dm f n acc s=dm f (s.length+1) acc s:=by
 intro n
 induction n using Nat.strongRecOn with
 |ind n ih=>
  intro acc s h;obtain⟨n,rfl⟩:∃m,n=m+1:=⟨n-1,oA⟩
  have hl:=mo s;rw[dm,dm]
  cases ht:bc s with
  |nil=>rfl|cons c t=>
   rw[ht]at hl;simp only[qL]at hl;simp only;by_cases hc:c=59
   ·rw[qX hc,qX hc]
    cases hx:qt t with
    |none=>rfl|some x=>
     have hxl:=(q3d (n:=x.1.1) (v:=x.1.2) (t:=x.2) hx).1;simp only
     cases f x.1.1 x.1.2 with
     |none=>rfl|some p=>
      simp only;rw[ih n oA _ _ oA]
      by_cases he:s.length=n
      ·rw[he];exact(ih n oA _ _ oA).symm
      ·rw[ih s.length oA _ _ oA]
   ·rw[qW hc,qW hc]
def zsf(fu:Nat)(hfu:90000000<=fu)(Qp:List Pc->Bool×List ck)(hQ:∀l,c7 l<=300000->(∀x∈l,nb x)->qd3 fu l=some (Qp l))(s:Bs)(h:s.length<=300000:=by omega) :
  ∃R,qpo fu s=some R/\match pd f8 s with
   |none=>qbj R|some m=>if(Qp m.2.2).1=true then R = .inr (m.1,(m.2.1,(true,(Qp m.2.2).2))) else qbj R:=by
 have l1:=qb9 tk s;have l2:=qf7 47 (bz tk s).2;have l3:=qb9 tk (di 47 (bz tk s).2).2;unfold qpo pd;rw[zg0 fu hfu s,qB,qte fu hfu 47 _,qB,zg0 fu hfu _,qB]
 simp only[];generalize ha:bz tk s=A at *;generalize hb:di 47 A.2=B at *;generalize hc:bz tk B.2=C at *
 cases h1:A.1 with
 |nil=>rw[ar,w3,ar rfl,qX (.inl rfl)];exact⟨_,rfl,rfl⟩|cons x1 y1=>
  rw[au (by rfl)]
  cases h2:B.1 with
  |false=>rw[da,w3,ar rfl,qX (.inr (.inl rfl))];exact⟨_,rfl,rfl⟩|true=>
   rw[bt]
   cases h3:C.1 with
   |nil=>rw[w3,ar,qX (.inr (.inr rfl))];exact⟨_,rfl,rfl⟩|cons x3 y3=>
    rw[w3,au (by rfl),qW oC,qyv]
    obtain⟨R,g1,g2⟩:=ztx fu hfu Qp hQ [] [] (x1::y1) (x3::y3) fu C.2 [] (by simp[c7];omega) oA oC
    refine⟨R,g1,?_⟩;rw[qmh _ fu _ _ oA]at g2
    rw[qmh _ (s.length+1) _ _ oA]
    cases hp:dm f8 (C.2.length+1) [] C.2 with|none=>rw[hp]at g2;exact g2|some l=>rw[hp]at g2;exact g2
def zqh(c k:UInt8)(t:Bs):Lib.indexByte (c::t) k=if c=k then 0 else if Lib.indexByte t k<0 then -1 else Lib.indexByte t k+1:=by
 rw[Lib.indexByte];by_cases h:c=k
 ·rw[qX (by simpa using h),qX h]
 ·rw[qW (by simpa using h),qW h]
  rcases qb7 k t with⟨a,r,rfl,ha⟩|hn
  ·rw[xv k a r ha,qW oC,qW oA]
  ·rw[xw k t hn];rfl
def zpp(fu n:Nat)(k:UInt8):∀(ab aa:Bs),aa.length<n->ab.length+aa.length<100000000 ->
  zi fu n (ab++aa) [k] (ab.length:Int)=some (if Lib.indexByte aa k<0 then -1 else(ab.length:Int)+Lib.indexByte aa k):=by
 induction n with
 |zero=>intro ab aa h;omega|succ n ih=>
  intro ab aa h hb;rw[zi,qnu,show(([k]:Bs).length:Int)=1 from rfl]
  cases aa with
  |nil=>rw[aq _ (by simp only[qZ]at hb;omega),ao];rfl|cons c t=>
   simp only[qL]at h hb;rw[aq _,ag oJ,ag oJ,nv,zqh]
   have e:List.take (((ab.length+1:Nat):Int).toNat-((ab.length:Nat):Int).toNat) (c::t)=[c]:=by
    rw[show((ab.length+1:Nat):Int).toNat-((ab.length:Nat):Int).toNat=1 by omega];rfl
   rw[e];by_cases hc:c=k
   ·rw[ar (by simpa using hc),qX hc,qW oA];simp
   ·rw[au (by simpa using hc),qW hc]
    have:=ih (ab++[c]) t oA oB
    simp only[qM,qL,qZ,qS,wM,wO]at this;rw[this];by_cases h0:Lib.indexByte t k<0
    ·rw[qX h0,qX h0,qX oA]
    ·rw[qW h0,qW h0,qW oA];congr 1;omega
def zpo(fu:Nat)(hfu:90000000<=fu)(k:UInt8)(s:Bs)(h:s.length<=4000000):zh fu s [k] 0=some (Lib.indexByte s k):=by
 have:=zpp fu fu k [] s oA oB
 simp only[List.nil_append,qZ,Int.natCast_zero,Int.zero_add]at this;unfold zh;refine this.trans ?_;rcases qb7 k s with⟨a,r,rfl,ha⟩|hn
 ·rw[xv k a r ha,qW oA]
 ·rw[xw k s hn];rfl
abbrev Pd:Type:=Bs×Bs×Int×Bool
def ci(p:Pc):Pd:=(p.1,p.2.2.2,p.2.1,p.2.2.1)
def ztp(fu:Nat)(hfu:90000000<=fu)(b v s:Bs)(st:Bool)(z:Pd)(h:s.length<=4000000:=by omega):∃R,qdg fu s z (b,(v,((-1:Int),st)))=some R /\
  match(if b≠[] then qbx s else none) with
  |some k=>R=((b,v,k,st),true)|none=>R.2=false:=by
 unfold qdg;obtain⟨x,h1,h2⟩:=zsw fu oA s
 rw[h1,qB]
 cases b with
 |nil=>exact⟨_,rfl,rfl⟩|cons c b=>
  rw[qX oC]
  rw[ar]
  rcases h2 with⟨g1,g2,g3⟩|⟨g1,g2⟩
  ·rw[ag g2,g3,qB,g1];exact⟨_,rfl,oC⟩
  ·rw[g1];rcases g2 with g2|⟨g2,t,g3,g4⟩
   ·rw[ao];exact⟨_,rfl,rfl⟩
   ·rw[ag g2,g3,qB];exact⟨_,rfl,by simpa using g4⟩
def ztq(fu:Nat)(hfu:90000000<=fu)(nm v:Bs)(h:nm.length<=4000000):∃R,qog fu nm v=some R/\match ig nm v with
  |some p=>R=(ci p,true)|none=>R.2=false:=by
 unfold qog;rw[zpo fu hfu 42 nm h,qB];rcases qb7 42 nm with⟨t,r,rfl,ht⟩|hn
 ·simp only[qM,qL]at h;rw[xv 42 t r ht,ao,aq _,ag oJ,ag oJ,qfb,qca]
  have key:∀(s:Bs)(st:Bool),o7 r=(s,st)->(∃R,qdg fu s ([],([],((0:Int),false))) (t,(v,((-1:Int),st)))=some R/\match ig (t++42::r) v with
    |some p=>R=(ci p,true)| none=>R.2=false):=by
   intro s st he;have hsl:=zbw r;rw[he]at hsl;simp only at hsl;obtain⟨R,h1,h2⟩:=ztp fu hfu t v s st ([],([],((0:Int),false)))
   refine⟨R,h1,?_⟩;unfold ig f8;rw[q1w 42 t r ht];simp only[he];by_cases hb:t=[]
   ·rw[qW (by simp[hb])]
    rw[qW (by simp[hb])]at h2
    exact h2
   ·rw[qX hb]at h2;unfold qbx at h2;cases hq:(ie s 1099511627776).2
    ·rw[qW (by simp[hq])]at h2
     rw[qW oC]
     exact h2
    ·rw[qX ⟨hb,rfl⟩];simp only;by_cases hlt:(ie s 1099511627776).1<1000000000
     ·rw[qX ⟨hq,hlt⟩]at h2;rw[qX hlt];exact h2
     ·rw[qW (by simp[hlt])]at h2;rw[qW hlt];exact h2
  rcases List.eq_nil_or_concat r with rfl|⟨u,c,rfl⟩
  ·rw[ao,qin,au rfl]
   exact key [] false rfl
  ·rw[List.concat_eq_append]at *;simp only[qM,qL,qZ]at h;rw[ag oH,ia,il _ oA,tg,qB,qin]
   by_cases hc:c=42
   ·subst hc;rw[ar,ia,il _ oA,ag,rh]
    exact key u true (by unfold o7;simp)
   ·rw[au (by simpa using hc)]
    exact key (u++[c]) false (by unfold o7;rw[qW (by simpa using hc)])
 ·rw[xw 42 nm hn,ag]
  refine⟨_,rfl,?_⟩;unfold ig f8;rw[q1x 42 nm hn]
  cases nm with|nil=>rfl|cons c nm=>rfl
def bad:f9:=(([],([],[])),false)
def zv6(fu:Nat)(r2:(Bs->Int->Bs->Bs->Bs->Bs->(List (Bs×Bs×Int×Bool))->Option f9))(s nm a b T S:Bs)(acc:List Pd)(hb:s.length<=4000000):∀(n:Nat)(r out:Bs),r <:+ s->r.length+1<n->out.length+r.length<100000000 ->
  wm fu r2 n s (pos s r) nm out a b T S acc=match qv out r with
   |some x=>zu fu r2 s (pos s x.2) nm x.1 a b T S acc|none=>some bad:=by
 intro n
 induction n using Nat.strongRecOn with
 |ind n ih=>
  intro r out hr h ho;obtain⟨n,rfl⟩:∃m,n=m+1:=⟨n-1,oA⟩
  rw[wm,qn7]
  cases r with
  |nil=>rw[jk,ao,qc2,au rfl,ar];rfl|cons c t=>
   have ht:t <:+ s:=(List.suffix_cons _ _).trans hr;simp only[qL]at h ho;rw[ag (od hr),ym hr,qB,qf1,qc2,qa9];by_cases h1:c=34
   ·rw[qW (by simp[h1]),qX h1,au (by have:=od hr;simp;omega),qz hr]
   rw[qX h1,qW h1,qv5,ym hr,qB,ez,qz hr]
   have p18:∀(d:UInt8)(u:Bs),(d::u) <:+ s->qhy fu r2 (wm fu r2 n) s (pos s (d::u)) nm out a b T S acc=wm fu r2 n s (pos s u) nm (out++[d]) a b T S acc:=by
    intro d u hd;have hu:=hd.length_le;have g1:=vm s (d::u);have g2:=vm s u;have g3:=q4h (s:=s) (List.suffix_cons d u);rw[qhy,qz hd,ag,q4i hd (List.suffix_cons _ _),show(d::u).take ((d::u).length-u.length)=[d] by simp,ag oF]
   by_cases h2:c=92
   ·rw[qX h2,qX h2]
    cases t with
    |nil=>
     rw[jk,qc3,ao,p18 c [] hr]
     obtain⟨n,rfl⟩:∃m,n=m+1:=⟨n-1,by simp only[qZ]at h;omega⟩
     rw[wm,qn7,jk,ao,qc2,au rfl,ar];rfl
    |cons d u=>
     simp only[qL]at h ho;rw[qc3,ag (od ht),qz hr,p18 d u ht]
     simp only;exact ih n oA u (out++[d]) ((List.suffix_cons _ _).trans ht) oA oB
   ·rw[qW h2,qW h2,qc3,au rfl,p18 c t hr];exact ih n oA t (out++[c]) ht oA oB
def zye(c:UInt8):(tk c||([42]:Bs).contains c)=dy c:=by unfold dy;rw[show([42]:Bs).contains c=(c==42) by rw[Bool.eq_iff_iff];simp]
def zg3(c:UInt8):(tk c||([37,39,42]:Bs).contains c)=lr c:=by unfold lr;rw[show([37,39,42]:Bs).contains c=(c==37||(c==39||c==42)) by rw[Bool.eq_iff_iff];simp]
def zg4(c:UInt8):(tk c||([]:Bs).contains c)=tk c:=oC
def qmr(p:UInt8->Bool){s r:Bs}(hr:r <:+ s):(0<=pos s r/\pos s r<=pos s (r.dropWhile p)/\pos s (r.dropWhile p)<=(s.length:Int))/\List.take ((pos s (r.dropWhile p)).toNat-(pos s r).toNat) (List.drop (pos s r).toNat s)=r.takeWhile p:=by
 refine⟨⟨(vm s r).1,q4h (List.dropWhile_suffix p),(vm s _).2⟩,?_⟩;rw[q4i hr (List.dropWhile_suffix p),zya]
def zs9(fu:Nat)(hfu:90000000<=fu)(r2:(Bs->Int->Bs->Bs->Bs->Bs->(List (Bs×Bs×Int×Bool))->Option f9))(s nm v a b T S:Bs)(acc:List Pc)(hb:s.length<=4000000)(hn:nm.length<=4000000)(ha:acc.length<=4000000)(r:Bs)(hr:r <:+ s) :
  zu fu r2 s (pos s r) nm v a b T S (acc.map ci)=match ig nm v with
   |some p=>r2 s (pos s (bc r)) a b T S ((acc++[p]).map ci)|none=>some bad:=by
 have hrm:=og;obtain⟨R,h1,h2⟩:=ztq fu hfu nm v hn;rw[zu,h1,qB]
 cases hp:ig nm v with
 |none=>rw[hp]at h2;simp only at h2;rw[h2,da];rfl|some p=>
  rw[hp]at h2;simp only at h2 ⊢;subst h2;rw[bt,ag,yx fu hfu hb hr,qB,List.map_append];rfl
def zvm(fu:Nat)(hfu:90000000<=fu)(s a b T S:Bs)(hb:s.length<=4000000):∀(n:Nat)(r:Bs)(acc:List Pc),r <:+ s->bc r=r->r.length<n->acc.length+r.length<=4000000 ->
  qc4 fu n s (pos s r) a b T S (acc.map ci)=match dm ig n acc r with
   |none=>some bad|some l=>ox fu fu 0 a b T S (l.map ci) []:=by
 intro n
 induction n with
 |zero=>intro r acc _ _ h;omega|succ n ih=>
  intro r acc hr hlt h hacc;rw[qc4,qv1,dm,hlt]
  cases r with
  |nil=>rw[jk,ao]|cons c t=>
   have ht:t <:+ s:=(List.suffix_cons _ _).trans hr;simp only[qL]at h hacc;rw[ag (od hr),ym hr,qB,qa9];simp only;by_cases hc:c=59
   ·rw[qW (by simp[hc]),qX hc,qz hr,yx fu hfu hb ht,qB]
    have h1:bc t <:+ s:=(tj t).trans ht;rw[qmo fu hfu [42] oC hb h1 dy zye,qB]
    obtain⟨ok1,ok2⟩:=qmr dy h1;have h2:(bc t).dropWhile dy <:+ s:=(List.dropWhile_suffix dy).trans h1;have hnl:((bc t).takeWhile dy).length<=4000000:=by
     have:=(List.takeWhile_prefix (l:=bc t) dy).length_le;have:=mo t;omega
    rw[ag ok1,yx fu hfu hb h2,qB,ok2];unfold qt bz di;simp only;have h3:bc ((bc t).dropWhile dy) <:+ s:=(tj _).trans h2;have hl3:(bc ((bc t).dropWhile dy)).length<=t.length:=by
     have g1:=mo ((bc t).dropWhile dy);have g2:=(List.dropWhile_suffix (l:=bc t) dy).length_le;have g3:=mo t;omega
    generalize bc ((bc t).dropWhile dy)=u at *;generalize (bc t).takeWhile dy=nm at *
    cases u with
    |nil=>rw[jk,ar,qh1,ar rfl];simp;rfl|cons d u=>
     have h4:u <:+ s:=(List.suffix_cons _ _).trans h3;simp only[qL]at hl3;rw[au (by have:=od h3;simp;omega),ym h3,qB,qh1,qa9]
     by_cases hd:d=61
     ·rw[qW (by simp[hd])]
      simp only[qX hd,if_true];rw[qv7,qz h3,yx fu hfu hb h4,qB]
      have h5:bc u <:+ s:=(tj u).trans h4;have hl5:=mo u;have fin:∀(v w:Bs),w <:+ s->w.length<=u.length->zu fu (qc4 fu n) s (pos s w) nm v a b T S (acc.map ci)=match(match ig nm v with
        |none=>none| some p=>dm ig n (acc++[p]) w) with
        |none=>some bad|some l=>ox fu fu 0 a b T S (l.map ci) []:=by
       intro v w hw hwl;rw[zs9 fu hfu _ s nm v a b T S acc hb hnl oA w hw]
       cases ig nm v with
       |none=>rfl|some p=>
        simp only;have g1:=mo w;rw[ih (bc w) (acc++[p]) ((tj w).trans hw) (qfv w) oA oB]
        have e:dm ig n (acc++[p]) (bc w)=dm ig n (acc++[p]) w:=by
         cases n with|zero=>rfl|succ n=>rw[dm,dm,qfv]
        rw[e]
      unfold y8 di
      cases hu:bc u with
      |nil=>
       rw[jk,ao,qh3,au rfl]
       have hnil:([]:Bs) <:+ s:=List.nil_suffix;have r1:=qmo fu hfu [37,39,42] oC hb hnil lr zg3
       obtain⟨q1,q2⟩:=qmr lr hnil;rw[jk]at r1 q1 q2;rw[r1,qB,ag q1,q2];simp only[wJ,if_false,wQ];exact fin [] [] hnil oC
      |cons e w=>
       rw[hu]at h5 hl5;simp only[qL]at hl5;have h6:w <:+ s:=(List.suffix_cons _ _).trans h5;rw[ag (od h5),ym h5,qB,qh3];by_cases he:e=34
       ·rw[ar (by simpa using he),qz h5]
        simp only[qX he,if_true];rw[zv6 fu _ s nm a b T S _ hb fu w [] h6 oA oB]
        cases hq:qv [] w with
        |none=>rfl|some x=>
         have:=ze0 [] w x.1 x.2 hq;simp only[wQ];exact fin x.1 x.2 (this.2.trans h6) (by have:=this.2.length_le;omega)
       ·rw[au (by simpa using he)]
        simp only[qW he,wJ,if_false,wQ];rw[qmo fu hfu [37,39,42] oC hb h5 lr zg3,qB]
        obtain⟨q1,q2⟩:=qmr lr h5;rw[ag q1,q2];unfold bz;have hle:bc (e::w)=e::w:=by rw[← hu,qfv]
        rw[hle];have hdl:=(List.dropWhile_suffix (l:=e::w) lr).length_le;simp only[qL]at hdl;exact fin _ _ ((List.dropWhile_suffix lr).trans h5) oA
     ·rw[qX hd];simp only[qW hd,wJ,if_false];rfl
   ·rw[qX hc,qW hc];rfl
def zv8(fu:Nat)(hfu:90000000<=fu)(s:Bs)(h:s.length<=300000):qhv fu s=match pd ig s with
  |none=>some bad|some m=>ox fu fu 0 [] [] m.1 m.2.1 (m.2.2.map ci) []:=by
 have hb:s.length<=4000000:=oA
 have h0:s <:+ s:=List.suffix_refl s;have h1:bc s <:+ s:=tj s;unfold qhv pd;have sk:=yx fu hfu hb h0;rw[q4g]at sk;rw[sk,qB,qmo fu hfu [] oC hb h1 tk zg4,qB]
 obtain⟨ok1,ok2⟩:=qmr tk h1;have h2:(bc s).dropWhile tk <:+ s:=(List.dropWhile_suffix tk).trans h1;rw[ag ok1,yx fu hfu hb h2,qB,ok2];unfold bz di;simp only;have h3:bc ((bc s).dropWhile tk) <:+ s:=(tj _).trans h2;generalize bc ((bc s).dropWhile tk)=u at *
 cases hT:(bc s).takeWhile tk with
 |nil=>rw[ar,zt,ar rfl,qX (.inl rfl)];rfl|cons x y=>
  rw[au (by rfl)]
  cases u with
  |nil=>rw[jk,ar,zt,ar rfl,qX (.inr (.inl rfl))];rfl|cons d u=>
   have h4:u <:+ s:=(List.suffix_cons _ _).trans h3;rw[au (by have:=od h3;simp;omega),ym h3,qB,zt,qa9]
   by_cases hd:d=47
   ·rw[qW (by simp[hd]),qv4,qz h3,yx fu hfu hb h4,qB]
    simp only[qX hd];have h5:bc u <:+ s:=(tj u).trans h4;rw[qmo fu hfu [] oC hb h5 tk zg4,qB]
    obtain⟨q1,q2⟩:=qmr tk h5;rw[ag q1,q2];have h6:(bc u).dropWhile tk <:+ s:=(List.dropWhile_suffix tk).trans h5
    cases hS:(bc u).takeWhile tk with
    |nil=>rw[ar,qX (.inr (.inr rfl))];rfl|cons x3 y3=>
     rw[au (by rfl),qW oC,yx fu hfu hb h6,qB]
     have hl6:=h6.length_le;have hl7:=mo ((bc u).dropWhile tk);have:=zvm fu hfu s [] [] (x::y) (x3::y3) hb fu (bc ((bc u).dropWhile tk)) [] ((tj _).trans h6) (qfv _) oA oB
     refine(this:_=_).trans ?_;rw[qmh _ fu _ _ oA,qmh _ (s.length+1) _ _ oA]
     have e:dm ig ((bc ((bc u).dropWhile tk)).length+1) [] (bc ((bc u).dropWhile tk))=dm ig (((bc u).dropWhile tk).length+1) [] ((bc u).dropWhile tk):=by
      rw[← qmh _ (((bc u).dropWhile tk).length+1) _ _ oA,dm,dm,qfv]
     rw[e];cases dm ig (((bc u).dropWhile tk).length+1) [] ((bc u).dropWhile tk)<;>rfl
   ·rw[qX hd];simp only[qW hd];rw[qX (.inr (.inl trivial))];rfl
open Go.Sort (SWO PermIn SortedIn pdq_sorts)
open Go.Proofs (ltOf)
def ltQ(x y:Pq):ltOf jr x y=decide (x.1.2.1<y.1.2.1):=by
 have:=x.2;have:=y.2;unfold ltOf jr;have h:ae (x.1.2.1-y.1.2.1)=x.1.2.1-y.1.2.1:=by unfold ae;simp[IntKind.wrap,IntKind.bits,IntKind.signed];omega
 rw[h];by_cases q:x.1.2.1<y.1.2.1<;>simp[q]<;>omega
def zx0:SWO (ltOf jr):=⟨fun x=>by rw[ltQ];simp,fun x y z h1 h2=>by rw[ltQ]at *;simp at *;omega,fun x y z h1 h2=>by rw[ltQ]at *;simp at *;omega⟩
def zgm(l:List Pq):(iu l).Perm l/\(iu l).Pairwise (fun x y=>x.1.2.1<=y.1.2.1):=by
 obtain⟨⟨h1,_,h2⟩,h3⟩:=pdq_sorts (ltOf jr) zx0 l.toArray 0 l.length (Lib.bitLen l.length) true true (Nat.zero_le _) oC (.inl rfl)
 have hsort:iu l=(Go.Sort.pdq (ltOf jr) l.toArray 0 l.length (Lib.bitLen l.length) true true).toList:=rfl;generalize Go.Sort.pdq (ltOf jr) l.toArray 0 l.length (Lib.bitLen l.length) true true=D at h1 h2 h3 hsort;have hs:D.size=l.length:=by rw[h1];simp
 rw[hsort];constructor
 ·have e:∀d:Array Pq,d.size=l.length->(d.extract 0 l.length).toList=d.toList:=fun d hd=>by rw[← hd];simp
  rw[e _ hs,e _ oC]at h2
  simpa using h2
 ·rw[List.pairwise_iff_getElem];intro i j hi hj hij;rw[Array.length_toList]at hi hj;have:=h3 i j (Nat.zero_le _) hij oA
  rw[ltQ,getElem!_pos D j hj,getElem!_pos D i hi]at this;have:=of_decide_eq_false this;simp only[Array.getElem_toList];omega
def zg6:∀l:List Pc,(∀p∈l,nb p)->∃q,rl l=some q/\q.map (·.1)=l
 |[],_=>⟨[],rfl,rfl⟩|p::l,h=>by
  obtain⟨q,h1,h2⟩:=zg6 l (fun x hx=>h x (qE _ hx))
  have hp:=h p qH;unfold nb at hp;refine⟨⟨p,oA⟩::q,?_,by simp[h2]⟩
  rw[rl,dif_pos oA,h1]
def ij(l:List Pc):List Pc:=match rl l with|some q=>(iu q).map (·.1)|none=>[]
def q48(l:List Pc)(h:∀p∈l,nb p)(hl:l.length<=4000000:=by omega):qas l=some (ij l)/\(ij l).Perm l/\(ij l).Pairwise (fun x y=>x.2.1<=y.2.1):=by
 have hrm:=og;obtain⟨q,h1,h2⟩:=zg6 l h;have h3:=zgm q;unfold qas ij;rw[h1,ag]
 refine⟨rfl,?_,?_⟩
 ·have:=h3.1.map (·.1);rw[h2]at this;exact this
 ·exact List.pairwise_map.2 h3.2
def mn:List Pc->Int->Bs->Option Bs|[],_,out=>some out|p::q,k,out=>if p.2.1=k then mn q (k+1) (out++om p) else none
def oc:List Pc->Int->Prop|[],_=>True|p::q,k=>p.2.1=k/\oc q (k+1)
def q3m:∀(q:List Pc)(k:Int)(out:Bs),oc q k->mn q k out=some (out++q.flatMap om)|[],_,out,_=>by simp[mn]|p::q,k,out,h=>by rw[mn,qX h.1,q3m q _ _ h.2];simp
def q3l:∀(q:List Pc)(k:Int)(out v:Bs),mn q k out=some v->oc q k
 |[],_,_,_,_=>trivial|p::q,k,out,v,h=>by
  rw[mn]at h;by_cases hp:p.2.1=k
  ·rw[qX hp]at h;exact⟨hp,q3l q _ _ _ h⟩
  ·rw[qW hp]at h;cases h
def zdb(q:List Pc)(k:Int)(out:Bs)(h:¬oc q k):mn q k out=none:=by
 cases hl:mn q k out with|none=>rfl|some v=>exact absurd (q3l q k out v hl) h
def Cov(q:List Pc)(k:Int):Prop:=∀j:Nat,j<q.length->∃p∈q,p.2.1=k+j
def pig(m:Nat):∀(l:List Pc)(k:Int),(∀j:Nat,j<m->∃p∈l,p.2.1=k+j)->m<=l.length:=by
 induction m with
 |zero=>intro l k _;omega|succ m ih=>
  intro l k h;obtain⟨p,hp,hk⟩:=h m oA
  obtain⟨a,b,rfl⟩:=List.append_of_mem hp;have:=ih (a++b) k (fun j hj=>by
   obtain⟨x,hx,hxk⟩:=h j oA
   refine⟨x,?_,hxk⟩;rcases List.mem_append.1 hx with g|g
   ·exact List.mem_append_left _ g
   ·rcases List.mem_cons.1 g with g|g
    ·subst g;omega
    ·exact List.mem_append_right _ g)
  rw[qM]at this;rw[qM,qL];omega
def zba:∀(q:List Pc)(k:Int),q.Pairwise (fun x y=>x.2.1<=y.2.1)->Cov q k->oc q k
 |[],_,_,_=>trivial|p::r,k,hs,hc=>by
  rw[List.pairwise_cons]at hs;have ac:(p::r).length=r.length+1:=rfl;have h1:k<=p.2.1/\p.2.1<k+(r.length+1:Nat):=by
   by_cases g:k<=p.2.1/\p.2.1<k+(r.length+1:Nat)
   ·exact g
   ·exfalso;have:=pig (r.length+1) r k (fun j hj=>by
     obtain⟨x,hx,hxk⟩:=hc j oA
     rcases List.mem_cons.1 hx with e|e
     ·subst e;exact absurd ⟨oA,oA⟩ g
     ·exact⟨x,e,hxk⟩)
    omega
  have h2:p.2.1=k:=by
   obtain⟨x,hx,hxk⟩:=hc 0 oA
   rcases List.mem_cons.1 hx with e|e
   ·subst e;omega
   ·have:=hs.1 x e;omega
  refine⟨h2,zba r (k+1) hs.2 fun j hj => ?_⟩
  obtain⟨x,hx,hxk⟩:=hc (j+1) oA
  rcases List.mem_cons.1 hx with e|e
  ·subst e;omega
  ·exact⟨x,e,oA⟩
def zd0:∀(q:List Pc)(k:Int),oc q k->∀x∈q,k<=x.2.1
 |[],_,_,_,h=>by cases h
 |p::r,k,h,x,hx=>by
  rcases List.mem_cons.1 hx with e|e
  ·subst e;exact Int.le_of_eq h.1.symm
  ·have:=zd0 r _ h.2 x e;omega
def Cov.perm{q q':List Pc}{k:Int}(h:Cov q k)(hp:q.Perm q'):Cov q' k:=fun j hj=>by
 obtain⟨x,hx,e⟩:=h j (by rw[hp.length_eq];exact hj)
 exact⟨x,hp.mem_iff.1 hx,e⟩
def th:List Pc->Option Bs|[]=>none|p::l=>if p.2.1<0 then(if l=[] then some p.2.2.2 else none) else(mn (ij (p::l)) 0 []).map fun v=>vu [239,191,189] v.length false v
def qs5(p:Pc)(l:List Pc):th (p::l)=if p.2.1<0 then(if l=[] then some p.2.2.2 else none) else(mn (ij (p::l)) 0 []).map fun v=>vu [239,191,189] v.length false v:=rfl
def qb8(p:Pc)(l:List Pc):c7 (p::l)=(p.1.length+p.2.2.2.length+1)+c7 l:=by unfold c7;simp
def q5i{l l':List Pc}(h:l.Perm l'):c7 l=c7 l':=by unfold c7;exact(h.map _).sum_nat
def qga{l:List Pc}{p:Pc}(h:p∈l):p.1.length+p.2.2.2.length+1<=c7 l:=by
 obtain⟨a,b,rfl⟩:=List.append_of_mem h;unfold c7;simp;omega
def zq9(fu n:Nat)(hfu:90000000<=fu)(z:Bs×Bs)(nm:Bs):∀(ab aa:List Pc)(out:Bs),aa.length<n->ab.length+aa.length<100000000->out.length+c7 aa<=300000 ->
  ∃R,qjs fu n ((ab.length+aa.length:Nat):Int) (ab.length:Int) z (nm,out) (ab++aa)=some R/\match mn aa (ab.length:Int) out with
   |some v=>R=((nm,vu [239,191,189] v.length false v),true)|none=>R.2=false:=by
 induction n with
 |zero=>intro ab aa out h;omega|succ n ih=>
  intro ab aa out h hb hz;rw[qjs,qyp]
  cases aa with
  |nil=>
   rw[ao,zyj out (by simp[c7]at hz;omega)]
   exact⟨_,rfl,rfl⟩
  |cons p t=>
   rw[qb8]at hz;simp only[qL]at h hb;have hl:0<=(ab.length:Int)/\(ab.length:Int).toNat<(ab++p::t).length:=oC
   have htl:=qmz p;rw[ag oG,ag hl,xu,qB,ip,mn]
   by_cases hp:p.2.1=(ab.length:Int)
   ·rw[qW (by simpa using hp),qX hp,zyc fu hfu p,qB,ag oF,aq _]
    have:=ih (ab++[p]) t (out++om p) oA oB oP
    simp only[qM,qL,qZ,qS,wM,wO]at this;rw[show(ab.length+(p::t).length:Nat)=ab.length+1+t.length by simp only[qL];omega,show(ab.length:Int)+1=((ab.length+1:Nat):Int) by omega]
    exact this
   ·rw[qX hp,qW hp];exact⟨_,rfl,rfl⟩
def zrb(fu:Nat)(hfu:90000000<=fu)(p:Pc)(l:List Pc)(hz:c7 (p::l)<=300000)(hn:∀x∈p::l,nb x):∃R,qjr fu (p::l)=some R/\match th (p::l) with
  |some v=>R=((p.1,v),true)|none=>R.2=false:=by
 have hl:decide (0<=(0:Int)/\(0:Int).toNat<List.length (p::l))=true:=oC
 have ac:=oh (p::l);unfold qjr;rw[qs5,ar hl,show(p::l)[(0:Int).toNat]? = some p from rfl,qB,ar hl,qB,ar hl,qB]
 by_cases h0:p.2.1<0
 ·rw[ag h0,qX h0];refine⟨_,rfl,?_⟩
  cases l with|nil=>rfl|cons y l=>rw[qW oC];simp;omega
 ·rw[ao h0,qW h0];obtain⟨h1,h2,h3⟩:=q48 (p::l) hn
  rw[h1,qB];obtain⟨R,g1,g2⟩:=zq9 fu fu hfu ([],[]) p.1 [] (ij (p::l)) [] (by rw[h2.length_eq];omega) (by rw[h2.length_eq];simp only[qZ];omega) (by rw[q5i h2];simpa using hz)
  simp only[List.nil_append,qZ,wO]at g1 g2;refine⟨R,g1,?_⟩;rw[show((0:Nat):Int)=0 from rfl]at g2
  cases hq:mn (ij (p::l)) 0 [] with|none=>rw[hq]at g2;exact g2|some v=>rw[hq]at g2;exact g2
def cu(nm:Bs)(l:List Pc):List Pc:=l.filter fun x=>lk x.1 nm
def f7:List Pc->List Pc->List ck->Bool×List ck
 |_,[],out=>(true,out)|ab,p::aa,out=>if ab.any (fun x=>lk x.1 p.1)=true then f7 (ab++[p]) aa out else match th (cu p.1 (ab++p::aa)) with|none=>(false,[])|some v=>f7 (ab++[p]) aa (out++[(p.1,v)])
def zq7(fu n:Nat)(hfu:90000000<=fu)(p:Pc)(hp:p.1.length<=4000000):∀(ab aa:List Pc),aa.length<n->ab.length+aa.length<100000000->(∀x∈aa,x.1.length<=4000000) ->
  ∃i:Int,qkh fu n (ab++aa) ((ab.length+aa.length:Nat):Int) (ab.length:Int) p=some (i,p)/\decide (0<=i)=aa.any (fun x=>lk x.1 p.1):=by
 induction n with
 |zero=>intro ab aa h;omega|succ n ih=>
  intro ab aa h hb hs;rw[qkh,qzn]
  cases aa with
  |nil=>rw[ao];exact⟨_,rfl,rfl⟩|cons d aa=>
   simp only[qL]at h hb;rw[ag oG,a7,qB,qjv,kq fu hfu _ _ (hs d qH) hp,qB,qB,aq _]
   obtain⟨i,h1,h2⟩:=ih (ab++[d]) aa oA oB (fun x hx=>hs x (qE _ hx))
   simp only[qM,qL,qZ,qS,wM,wO]at h1;cases e:lk d.1 p.1
   ·simp only[qF,List.any_cons,e,Bool.false_or];rw[show(ab.length+(d::aa).length:Nat)=ab.length+1+aa.length by simp only[qL];omega]
    exact⟨i,h1,h2⟩
   ·simp only[qT,List.any_cons,e,Bool.true_or];exact⟨_,rfl,decide_eq_true oA⟩
def zn0(fu:Nat)(hfu:90000000<=fu)(l:List Pc)(p:Pc)(hp:p.1.length<=4000000)(hl:l.length<=4000000)(hs:∀x∈l,x.1.length<=4000000):qqb fu l p=some (l.any (fun x=>lk x.1 p.1),p):=by
 obtain⟨i,h1,h2⟩:=zq7 fu fu hfu p hp [] l oA oB hs
 simp only[List.nil_append,qZ,wO]at h1;unfold qqb qzm;rw[← h2];exact(congrArg (fun q=>Option.bind q fun x1=>some (decide ((0:Int)<=x1.1),x1.2)) h1).trans rfl
def q1t(r0:((List (Bs×Int×Bool×Bs))->(List (Bs×Int×Bool×Bs))->Int->Int->(List (Bs×Bs))->Option qa2))(s0 s13:List Pc)(s14 s15:Int)(p:Pc)(out:List ck)(x3:(Bs×Bs)×Bool):Option qa2:=bif !x3.2 then some (false,[]) else bif decide (List.length (out++([(p.1,x3.1.2)]:List ck))<=a6) then r0 s0 s13 s14 (ae (s15+(1:Int))) (out++([(p.1,x3.1.2)]:List ck)) else none
def zto(fu:Nat)(hfu:90000000<=fu)(r0:((List (Bs×Int×Bool×Bs))->(List (Bs×Int×Bool×Bs))->Int->Int->(List (Bs×Bs))->Option qa2))(s0 s13:List Pc)(s14 s15:Int)(p:Pc)(hp:p.1.length<=4000000)(out:List ck)(n:Nat):∀(ab aa acc:List Pc),aa.length<n->ab.length+aa.length<100000000->acc.length<=ab.length->(∀x∈aa,x.1.length<=4000000) ->
  qjw fu r0 n s0 s13 s14 s15 (ab++aa) ((ab.length+aa.length:Nat):Int) (ab.length:Int) p out acc =
   (qjr fu (acc++cu p.1 aa)).bind (q1t r0 s0 s13 s14 s15 p out):=by
 have hrm:=og
 induction n with
 |zero=>intro ab aa acc h;omega|succ n ih=>
  intro ab aa acc h hb ha hs;rw[qjw,qyt]
  cases aa with
  |nil=>rw[ao,show cu p.1 []=[] from rfl,List.append_nil];rfl|cons d aa=>
   simp only[qL]at h hb;rw[ag oG,a7,qB,qjv,kq fu hfu _ _ (hs d qH) hp,qB,qB]
   have h1:=fun acc'(ha':acc'.length<=ab.length+1)=>ih (ab++[d]) aa acc' oA oB (by simpa using ha') (fun x hx=>hs x (qE _ hx))
   simp only[qM,qL,qZ,qS,wM,wO]at h1;rw[show cu p.1 (d::aa)=if lk d.1 p.1=true then d::cu p.1 aa else cu p.1 aa by unfold cu;rw[List.filter_cons]]
   cases e:lk d.1 p.1
   ·simp only[qF,wJ,if_false];rw[qjx,aq _,show(ab.length+(d::aa).length:Nat)=ab.length+1+aa.length by simp only[qL];omega]
    exact h1 acc oA
   ·simp only[qT,if_true];rw[ag,qjx,aq _,show(ab.length+(d::aa).length:Nat)=ab.length+1+aa.length by simp only[qL];omega]
    refine(h1 (acc++[d]) oB).trans ?_
    rw[qS];rfl
def q5h(f:Pc->Bool)(l:List Pc):c7 (l.filter f)<=c7 l:=by
 induction l with
 |nil=>simp|cons p l ih=>
  rw[List.filter_cons];split
  ·rw[qb8,qb8];omega
  ·rw[qb8];omega
def ztd(fu:Nat)(hfu:90000000<=fu)(l:List Pc)(hz:c7 l<=300000)(hn:∀x∈l,nb x)(n:Nat):∀(ab aa:List Pc)(out:List ck),l=ab++aa->aa.length<n->out.length<=ab.length ->
  qd4 fu n l (ab++aa) ((ab.length+aa.length:Nat):Int) (ab.length:Int) out=some (f7 ab aa out):=by
 have hrm:=og;have hll:=oh l;have hnm:∀x∈l,x.1.length<=4000000:=fun x hx=>by have:=qga hx;omega
 induction n with
 |zero=>intro ab aa out _ h;omega|succ n ih=>
  intro ab aa out hl h ho;rw[qd4,qys]
  cases aa with
  |nil=>rw[ao];rfl|cons p aa=>
   simp only[qL]at h;have ac:l.length=ab.length+aa.length+1:=by rw[hl];simp;omega
   have hp:=hnm p (by rw[hl];simp)
   rw[ag oG,a7,qB,ag]
   have e:List.take ((ab.length:Nat):Int).toNat l=ab:=by rw[hl];exact qca _ _
   rw[e,zn0 fu hfu ab p hp oA (fun x hx=>hnm x (by rw[hl];simp[hx])),qB,f7]
   have step:=fun o(ho:List.length o<=ab.length+1)=>ih (ab++[p]) aa o (by rw[hl];simp) oA (by simpa using ho)
   simp only[qM,qL,qZ,qS,wM,wO]at step;simp only;cases hany:ab.any (fun x=>lk x.1 p.1)
   ·rw[au rfl,qW oC]
    have h1:=zto fu hfu (qd4 fu n) l (ab++p::aa) ((ab.length+(p::aa).length:Nat):Int) (ab.length:Int) p hp out fu [] l [] oA oB oC hnm
    simp only[List.nil_append,qZ,wO]at h1;rw[show((0:Nat):Int)=0 from rfl]at h1
    rw[h1];have hmem:p∈cu p.1 l:=by unfold cu;rw[List.mem_filter];exact⟨by rw[hl];simp,q3f _⟩
    have hzz:=q5h (fun x=>lk x.1 p.1) l
    cases hN:cu p.1 l with
    |nil=>rw[hN]at hmem;cases hmem
    |cons y w=>
     obtain⟨R,g1,g2⟩:=zrb fu hfu y w (by rw[← hN];unfold cu;omega) (fun x hx=>hn x (by rw[← hN]at hx;exact(List.mem_filter.1 hx).1))
     rw[g1,qB];rw[← hl,hN]
     cases hj:th (y::w) with
     |none=>rw[hj]at g2;simp only at g2;rw[q1t,g2];rfl|some v=>
      rw[hj]at g2;simp only at g2;subst g2;rw[q1t,bt,ag,aq _]
      simp only;rw[show(ab.length+(p::aa).length:Nat)=ab.length+1+aa.length by simp only[qL];omega]
      have st:=step (out++[(p.1,v)]) oB
      rw[← hl]at st;exact st
   ·rw[ar rfl,qX rfl,aq _,show(ab.length+(p::aa).length:Nat)=ab.length+1+aa.length by simp only[qL];omega]
    exact step out oA
def ztc(fu:Nat)(hfu:90000000<=fu)(l:List Pc)(hz:c7 l<=300000)(hn:∀x∈l,nb x):qd3 fu l=some (f7 [] l []):=by
 have hll:=oh l;have:=ztd fu hfu l hz hn fu [] l [] rfl oA oC
 simpa [qd3] using this
end Go.Sym
namespace Go.Sym
def zd2:∀(q:List Pc)(k:Int),oc q k->∀x∈q,∀y∈q,x.2.1=y.2.1->x=y
 |[],_,_,x,hx,_,_,_=>by cases hx
 |p::r,k,h,x,hx,y,hy,e=>by
  have hg:=zd0 r _ h.2;have h1:=h.1;rcases List.mem_cons.1 hx with ex|ex
  ·rcases List.mem_cons.1 hy with ey|ey
   ·rw[ex,ey]
   ·subst ex;have:=hg y ey;omega
  ·rcases List.mem_cons.1 hy with ey|ey
   ·subst ey;have:=hg x ex;omega
   ·exact zd2 r _ h.2 x ex y ey e
def o9{l u w:List Pc}{x:Pc}(h:l=u++x::w):ai (l.map ci) (u.length:Int)=some (ci x):=by
 subst h;have:=a7 (u.map ci) (ci x) (w.map ci);rw[wC]at this;rw[List.map_append,List.map_cons];exact this
section ref
variable(fu:Nat)(hfu:90000000<=fu)(l ab aa:List Pc)(p:Pc)(hl:l=ab++p::aa)(hz:c7 l<=300000)(b0 b1 T S:Bs)(ps:List ck)(r4:(Int->Bs->Bs->Bs->Bs->(List (Bs×Bs×Int×Bool))->(List (Bs×Bs))->Option f9))
include hfu hl hz
def q4y:∀x∈l,x.1.length<=4000000:=fun x hx=>by have _:=hfu;have _:=hl;have:=qga hx;omega
def rp6(n:Nat):∀(u w:List Pc)(seen:Bool),ab=u++w->w.length<n ->
  qh2 fu r4 n (ab.length:Int) seen (u.length:Int) b0 b1 T S (l.map ci) ps=ru fu r4 fu (ab.length:Int) (seen||w.any (fun x=>lk p.1 x.1)) (0:Int) (0:Int) b0 b1 T S (l.map ci) ps:=by
 have hnm:=q4y fu hfu l ab aa p hl hz;have hll:=oh l;have ac:l.length=ab.length+aa.length+1:=by rw[hl];simp;omega
 induction n with
 |zero=>intro u w seen _ h;omega|succ n ih=>
  intro u w seen hp h;rw[qh2,qv3];have hpl:ab.length=u.length+w.length:=by rw[hp];simp
  cases w with
  |nil=>rw[ao (by simp only[qZ]at hpl;omega)];simp|cons x w=>
   simp only[qL]at h hpl;have st:=fun sn=>ih (u++[x]) w sn (by rw[hp];simp) oA
   simp only[qM,qL,qZ,wO]at st;rw[ag,List.any_cons]
   have hx:x∈l:=by rw[hl,hp];simp
   cases seen
   ·rw[au rfl,gx,o9 hl,qB,gx,o9 (show l=u++x::(w++p::aa) by rw[hl,hp];simp),qB]
    show(ei fu p.1 x.1).bind _=_;rw[sm fu hfu _ _ (hnm p (by rw[hl];simp)) (hnm x hx),qB,qhx,aq _,st]
    simp
   ·rw[ar rfl,qhx,aq _,st]
    simp
def rp8(n:Nat):∀(u w:List Pc)(seen:Bool)(c:Nat),l=u++w->w.length<n->c<=u.length ->
  ru fu r4 n (ab.length:Int) seen (c:Int) (u.length:Int) b0 b1 T S (l.map ci) ps=ru fu r4 1 (ab.length:Int) seen ((c+(w.filter (fun x=>lk p.1 x.1)).length:Nat):Int) (l.length:Int) b0 b1 T S (l.map ci) ps:=by
 have hnm:=q4y fu hfu l ab aa p hl hz;have hll:=oh l
 induction n with
 |zero=>intro u w seen c _ h;omega|succ n ih=>
  intro u w seen c hp h hc;have hpl:l.length=u.length+w.length:=by rw[hp];simp
  cases w with
  |nil=>
   rw[List.append_nil]at hp;subst hp;rw[ru,ru];simp only[List.filter_nil,qZ,Nat.add_zero];have hend:¬((l.length:Int)<(List.length (l.map ci):Int)):=by rw[wC];omega
   rw[qc1,qc1,ao hend,ao hend]
  |cons x w=>
   simp only[qL]at h hpl;rw[ru,qc1];have st:=fun c'(hc':c'<=u.length+1)=>ih (u++[x]) w seen c' (by rw[hp];simp) oA (by simpa using hc')
   simp only[qM,qL,qZ,wO]at st;have hx:x∈l:=by rw[hp];simp
   rw[ag oR,gx,o9 hl,qB,gx,o9 hp,qB]
   show(ei fu p.1 x.1).bind _=_;rw[sm fu hfu _ _ (hnm p (by rw[hl];simp)) (hnm x hx),qB,List.filter_cons]
   cases hk:lk p.1 x.1
   ·rw[au rfl,qhw,aq _,st c oA];rfl
   ·rw[ar rfl,qhw,aq _,aq _,st (c+1) oA]
    simp only[if_true,qL];rw[show c+1+(w.filter (fun x=>lk p.1 x.1)).length=c+((w.filter (fun x=>lk p.1 x.1)).length+1) by omega]
def zfu(r13:(Int->Int->Bs->Int->Bs->Bs->Bs->Bs->(List (Bs×Bs×Int×Bool))->(List (Bs×Bs))->Option f9))(c:Int)(v:Bs)(nn:Int)(n:Nat):∀(u w:List Pc)(j:Int),l=u++w->w.length<n ->
  ∃j',l5 fu r4 r13 n (ab.length:Int) c v nn j (u.length:Int) b0 b1 T S (l.map ci) ps=l5 fu r4 r13 1 (ab.length:Int) c v nn j' (l.length:Int) b0 b1 T S (l.map ci) ps /\
   ((j'=j/\∀x∈w,¬(lk p.1 x.1=true/\x.2.1=nn))\/∃x∈w,lk p.1 x.1=true/\x.2.1=nn/\ai (l.map ci) j'=some (ci x)):=by
 have hnm:=q4y fu hfu l ab aa p hl hz;have hll:=oh l
 induction n with
 |zero=>intro u w j _ h;omega|succ n ih=>
  intro u w j hp h;have hpl:l.length=u.length+w.length:=by rw[hp];simp
  cases w with
  |nil=>
   rw[List.append_nil]at hp;subst hp;refine⟨j,?_,.inl ⟨rfl,oC⟩⟩
   have hend:¬((l.length:Int)<(List.length (l.map ci):Int)):=by rw[wC];omega
   rw[l5,l5,zq,zq,ao hend,ao hend]
  |cons x w=>
   simp only[qL]at h hpl;rw[l5,zq];have st:=fun j'=>ih (u++[x]) w j' (by rw[hp];simp) oA
   simp only[qM,qL,qZ,wO]at st;have hx:x∈l:=by rw[hp];simp
   rw[ag oR,gx,o9 hl,qB,gx,o9 hp,qB]
   have hsk:¬(lk p.1 x.1=true/\x.2.1=nn)->∃j',l5 fu r4 r13 n (ab.length:Int) c v nn j ((u.length+1:Nat):Int) b0 b1 T S (l.map ci) ps=l5 fu r4 r13 1 (ab.length:Int) c v nn j' (l.length:Int) b0 b1 T S (l.map ci) ps /\
     ((j'=j/\∀y∈x::w,¬(lk p.1 y.1=true/\y.2.1=nn))\/∃y∈x::w,lk p.1 y.1=true/\y.2.1=nn/\ai (l.map ci) j'=some (ci y)):=fun hno=>by
    obtain⟨j',g1,g2⟩:=st j;refine⟨j',g1,?_⟩;rcases g2 with⟨g2,g3⟩|⟨y,g2,g3⟩
    ·exact .inl ⟨g2,fun y hy=>(List.mem_cons.1 hy).elim (fun e=>e▸hno) (g3 y)⟩
    ·exact .inr ⟨y,qE _ g2,g3⟩
   show ∃j',(ei fu p.1 x.1).bind _=_/\_;rw[sm fu hfu _ _ (hnm p (by rw[hl];simp)) (hnm x hx),qB]
   cases hk:lk p.1 x.1
   ·rw[au rfl,qhz,au rfl,qc5,aq _]
    exact hsk (by simp[hk])
   ·rw[ar rfl,gx,o9 hp,qB,qhz];show ∃j',(bif x.2.1==nn then _ else _)=_/\_
    rw[eu];by_cases hn:x.2.1=nn
    ·rw[qX hn,qc5,aq _]
     obtain⟨j',g1,g2⟩:=st (u.length:Int);refine⟨j',g1,.inr ?_⟩;rcases g2 with⟨g2,g3⟩|⟨y,g2,g3⟩
     ·exact⟨x,qH,hk,hn,by rw[g2];exact o9 hp⟩
     ·exact⟨y,qE _ g2,g3⟩
    ·rw[qW hn,qc5,aq _]
     exact hsk (by simp[hn])
omit hl in
def zbv(r13:(Int->Int->Bs->Int->Bs->Bs->Bs->Bs->(List (Bs×Bs×Int×Bool))->(List (Bs×Bs))->Option f9))(a c:Int)(v:Bs)(nn:Nat)(j:Int)(x:Pc)(hx:x∈l)(hn:x.2.1=(nn:Int))(hj:ai (l.map ci) j=some (ci x))(hv:v.length<=100000000000)(hnn:nn<=4000000) :
  l5 fu r4 r13 1 a c v (nn:Int) j (l.length:Int) b0 b1 T S (l.map ci) ps=r13 a c (v++om x) ((nn+1:Nat):Int) b0 b1 T S (l.map ci) ps:=by
 have hxl:=qga hx;have h0:0<=j:=by
  by_cases h:0<=j
  ·exact h
  ·unfold ai at hj;rw[qW h]at hj;cases hj
 rw[l5,zq,ao oR,ao,gx,hj,qB,gx,hj,qB]
 have p22:∀t:Bs,t.length<=4000000->qc6 fu r4 r13 a c v (nn:Int) t b0 b1 T S (l.map ci) ps=r13 a c (v++t) ((nn+1:Nat):Int) b0 b1 T S (l.map ci) ps:=fun t ht=>by
  rw[qc6,ag oO,qv6,aq _]
 have p23:∀t:Bs,t.length<=4000000->qh0 fu r4 r13 a c v (nn:Int) t b0 b1 T S (l.map ci) ps=r13 a c (v++fh t) ((nn+1:Nat):Int) b0 b1 T S (l.map ci) ps:=fun t ht=>by
  rw[qh0,zy0 fu hfu t ht,qB,p22 _ (by have:=zek _ t (wF _);omega)]
 unfold om qt9;show(bif x.2.2.1 then(bif(nn:Int)==0 then(bif decide ((6:Int)<=(x.2.2.2.length:Int)) then(bif decide (0<=(6:Int)/\(6:Int)<=(List.length x.2.2.2:Int)) then(pp fu (List.take (6:Int).toNat x.2.2.2)).bind fun x7=>rt fu r4 r13 a c v (nn:Int) x.2.2.2 (x7==([117,116,102,56,39,39]:Bs)) b0 b1 T S (l.map ci) ps else none) else rt fu r4 r13 a c v (nn:Int) x.2.2.2 false b0 b1 T S (l.map ci) ps) else rt fu r4 r13 a c v (nn:Int) x.2.2.2 false b0 b1 T S (l.map ci) ps) else qc6 fu r4 r13 a c v (nn:Int) x.2.2.2 b0 b1 T S (l.map ci) ps)=_
 cases hs:x.2.2.1
 ·rw[au rfl,p22 _ oA,qW oC]
 rw[ar rfl,qX rfl,eu,hn];by_cases hz0:(nn:Int)=0
 ·rw[qX hz0];by_cases h6:6<=x.2.2.2.length
  ·have h6':(List.take (6:Int).toNat x.2.2.2).length=6:=by show(List.take 6 _).length=6;rw[List.length_take];omega
   rw[ag,ag,vn fu _ oA (by rw[h6'];simp[maxLen]),qB,rt]
   show(bif lk (x.2.2.2.take 6) [117,116,102,56,39,39] then _ else _)=_
   cases hk:lk (x.2.2.2.take 6) [117,116,102,56,39,39]
   ·rw[au rfl,p23 _ oA,qW oC]
   ·rw[ar rfl,ag,qX ⟨hz0,h6,rfl⟩]
    exact p23 (x.2.2.2.drop 6) oB
  ·rw[ao,rt,au rfl,p23 _ oA,qW oA]
 ·rw[qW hz0,rt,au rfl,p23 _ oA,qW oA]
def zo9(r13:(Int->Int->Bs->Int->Bs->Bs->Bs->Bs->(List (Bs×Bs×Int×Bool))->(List (Bs×Bs))->Option f9))(c:Int)(v:Bs)(nn:Int):l5 fu r4 r13 1 (ab.length:Int) c v nn (-1) (l.length:Int) b0 b1 T S (l.map ci) ps=some bad:=by
 have _:=hfu;have _:=hl;have _:=hz;rw[l5,zq,ao oR,ag];rfl
def zvx(q:List Pc)(hq:oc q 0)(hqm:∀x,x∈q↔(x∈l/\lk p.1 x.1=true))(n:Nat):∀(done rest:List Pc)(v:Bs),q=done++rest->rest.length<n->v.length+c7 rest<=300000->oc rest (done.length:Int)->q.length<=300000 ->
  nj fu r4 n (ab.length:Int) (q.length:Int) v (done.length:Int) b0 b1 T S (l.map ci) ps=nj fu r4 1 (ab.length:Int) (q.length:Int) (v++rest.flatMap om) (q.length:Int) b0 b1 T S (l.map ci) ps:=by
 have hll:=oh l
 induction n with
 |zero=>intro done rest v _ h;omega|succ n ih=>
  intro done rest v hd h hv hnum hqb;have hql:q.length=done.length+rest.length:=by rw[hd];simp
  cases rest with
  |nil=>
   rw[List.append_nil]at hd;subst hd;have hend:¬((q.length:Int)<(q.length:Int)):=oA
   rw[nj,nj,zp,zp,ao hend,ao hend];simp
  |cons x t=>
   simp only[qL]at h hql;rw[qb8]at hv;have hxq:x∈q:=by rw[hd];simp
   have hxl:=(hqm x).1 hxq;have hxn:x.2.1=(done.length:Int):=hnum.1;rw[nj,zp,ag]
   obtain⟨j',g1,g2⟩:=zfu fu hfu l ab aa p hl hz b0 b1 T S ps r4 (nj fu r4 n) (q.length:Int) v (done.length:Int) fu [] l (-1) rfl oA
   rw[show(([]:List Pc).length:Int)=0 from rfl]at g1
   rw[g1];rcases g2 with⟨_,g3⟩|⟨y,g2,g3,g4,g5⟩
   ·exact absurd ⟨hxl.2,hxn⟩ (g3 x hxl.1)
   ·have hyq:y∈q:=(hqm y).2 ⟨g2,g3⟩;have hyx:y=x:=zd2 q 0 hq y hyq x hxq (by rw[g4,hxn])
    subst hyx;rw[zbv fu hfu l hz b0 b1 T S ps r4 _ _ _ v done.length j' y g2 g4 g5 oA oA]
    have htl:=qmz y;have st:=ih (done++[y]) t (v++om y) (by rw[hd];simp) oA oP (by rw[qM,wD];have:=hnum.2;rw[show((done.length+1:Nat):Int)=(done.length:Int)+1 by omega];exact this) hqb
    simp only[qM,qL,qZ,wO]at st;refine st.trans ?_;rw[List.flatMap_cons,qS]
def zvy(cnt k:Nat)(hk:k<cnt)(hno:∀x∈l,¬(lk p.1 x.1=true/\x.2.1=(k:Int)))(hc:cnt<=300000)(n:Nat):∀(nn:Nat)(v:Bs),nn<=k->cnt-nn<n->v.length<=nn*300000 ->
  nj fu r4 n (ab.length:Int) (cnt:Int) v (nn:Int) b0 b1 T S (l.map ci) ps=some bad:=by
 have hll:=oh l
 induction n with
 |zero=>intro nn v _ h;omega|succ n ih=>
  intro nn v hnk h hv;rw[nj,zp,ag]
  obtain⟨j',g1,g2⟩:=zfu fu hfu l ab aa p hl hz b0 b1 T S ps r4 (nj fu r4 n) (cnt:Int) v (nn:Int) fu [] l (-1) rfl oA
  rw[show(([]:List Pc).length:Int)=0 from rfl]at g1
  rw[g1];rcases g2 with⟨e,_⟩|⟨y,g2,g3,g4,g5⟩
  ·rw[e];exact zo9 fu hfu l ab aa p hl hz b0 b1 T S ps r4 _ _ v _
  ·have hne:nn≠k:=fun e=>by subst e;exact hno y g2 ⟨g3,g4⟩
   have hyl:=qga g2;have htl:=qmz y;rw[zbv fu hfu l hz b0 b1 T S ps r4 _ _ _ v nn j' y g2 g4 g5 oA oA]
   exact ih (nn+1) (v++om y) oA oA oP
end ref
def zsn{l ab aa:List Pc}{p:Pc}(hl:l=ab++p::aa)(h:ab.any (fun x=>lk x.1 p.1)=false):cu p.1 l=p::cu p.1 aa:=by
 subst hl;unfold cu;rw[List.filter_append,List.filter_cons,qX (q3f p.1)];rw[List.filter_eq_nil_iff.2]
 ·rfl
 ·intro x hx;rw[List.any_eq_false]at h;exact h x hx
def zv3(fu:Nat)(hfu:90000000<=fu)(l:List Pc)(hz:c7 l<=300000)(hn:∀x∈l,nb x)(b0 b1 T S:Bs)(n:Nat):∀(ab aa:List Pc)(ps:List ck),l=ab++aa->aa.length<n->ps.length<=ab.length ->
  ox fu n (ab.length:Int) b0 b1 T S (l.map ci) ps=some (if(f7 ab aa ps).1=true then((T,(S,(f7 ab aa ps).2)),true) else bad):=by
 have hrm:=og;have hll:=oh l
 induction n with
 |zero=>intro ab aa ps _ h;omega|succ n ih=>
  intro ab aa ps hl h hps;have ac:l.length=ab.length+aa.length:=by rw[hl];simp
  rw[ox,qv2]
  cases aa with
  |nil=>rw[ao (by rw[wC];simp only[qZ]at ac;omega)];rfl|cons p aa=>
   simp only[qL]at h ac;have st:=fun o(ho:List.length o<=ab.length+1)=>ih (ab++[p]) aa o (by rw[hl];simp) oA (by simpa using ho)
   simp only[qM,qL,qZ,wO]at st;rw[ag oR]
   have h6:=rp6 fu hfu l ab aa p hl hz b0 b1 T S ps (ox fu n) fu [] ab false rfl oA
   rw[show(([]:List Pc).length:Int)=0 from rfl]at h6
   have h8:=rp8 fu hfu l ab aa p hl hz b0 b1 T S ps (ox fu n) fu [] l (false||ab.any (fun x=>lk p.1 x.1)) 0 rfl oA oC
   rw[show(([]:List Pc).length:Int)=0 from rfl,show((0:Nat):Int)=0 from rfl]at h8
   rw[h6,h8];have hcm:(fun x:Pc=>lk p.1 x.1)=(fun x:Pc=>lk x.1 p.1):=funext fun x=>q3e _ _
   rw[hcm,Bool.false_or,wO,ru,qc1,ao oR]
   have hP:f7 ab (p::aa) ps=(if ab.any (fun x=>lk x.1 p.1)=true then f7 (ab++[p]) aa ps else match th (cu p.1 l) with
    |none=>(false,[])| some v=>f7 (ab++[p]) aa (ps++[(p.1,v)])):=by subst hl;rfl
   rw[hP];cases hany:ab.any (fun x=>lk x.1 p.1)
   ·rw[au rfl,qW (c:=(false=true)) oC,gx,o9 hl,qB]
    have hnf:=zsn hl hany;have hA:(l.filter fun x=>lk x.1 p.1)=p::cu p.1 aa:=hnf
    rw[hA,hnf,qs5];have hAz:c7 (p::cu p.1 aa)<=300000:=by have:=q5h (fun x=>lk x.1 p.1) l;rw[hA]at this;omega
    have hAl:=oh (p::cu p.1 aa);have hAm:∀x,x∈p::cu p.1 aa↔(x∈l/\lk p.1 x.1=true):=fun x=>by
     rw[← hA,List.mem_filter,q3e]
    show(bif decide (p.2.1<0) then _ else _)=_
    by_cases h0:p.2.1<0
    ·rw[ag h0,qX h0,ip];by_cases h1:cu p.1 aa=[]
     ·rw[qW (by rw[h1];simp),qX h1,gx,o9 hl,qB,gx,o9 hl,qB,ag,aq _]
      exact st (ps++[(p.1,p.2.2.2)]) oB
     ·rw[qX (by
       cases hh:cu p.1 aa with
       |nil=>exact absurd hh h1| cons=>simp only[qL];omega),qW h1];rfl
    ·rw[ao h0,qW h0];obtain⟨_,h2,h3⟩:=q48 (p::cu p.1 aa) (fun x hx=>hn x ((hAm x).1 hx).1)
     by_cases hnum:oc (ij (p::cu p.1 aa)) 0
     ·rw[q3m _ _ _ hnum,wQ];have hm:∀x,x∈ij (p::cu p.1 aa)↔(x∈l/\lk p.1 x.1=true):=fun x=>by rw[h2.mem_iff];exact hAm x
      have hsz:=q5i h2;have:=zvx fu hfu l ab aa p hl hz b0 b1 T S ps (ox fu n) (ij (p::cu p.1 aa)) hnum hm fu [] (ij (p::cu p.1 aa)) [] rfl (by rw[h2.length_eq];omega) (by rw[hsz];simpa using hAz) hnum (by rw[h2.length_eq];omega)
      rw[show(([]:List Pc).length:Int)=0 from rfl,h2.length_eq]at this
      rw[this,nj,zp,ao,gx,o9 hl,qB]
      have hvl:∀q:List Pc,(q.flatMap om).length<=c7 q:=by
       intro q
       induction q with
       |nil=>simp|cons y q ih2=>
        have:=qmz y;rw[List.flatMap_cons,qM,qb8];omega
      have hv:=hvl (ij (p::cu p.1 aa));simp only[List.nil_append];rw[zvb fu oA _,qB,ag,aq _]
      exact st (ps++[(p.1,_)]) oB
     ·rw[zdb _ _ _ hnum,Option.map_none];have hncov:¬Cov (p::cu p.1 aa) 0:=fun hc=>hnum (zba _ 0 h3 (hc.perm h2.symm))
      obtain⟨k,hk1,hk2⟩:∃k:Nat,k<(p::cu p.1 aa).length/\∀x∈p::cu p.1 aa,x.2.1≠(0:Int)+k:=by
       apply Classical.byContradiction;intro hq;apply hncov;intro j hj;apply Classical.byContradiction;intro hq2;exact hq ⟨j,hj,fun x hx e=>hq2 ⟨x,hx,e⟩⟩
      have:=zvy fu hfu l ab aa p hl hz b0 b1 T S ps (ox fu n) (p::cu p.1 aa).length k hk1 (fun x hx hc=>hk2 x ((hAm x).2 ⟨hx,hc.1⟩) (by rw[hc.2];omega)) oA fu 0 [] oA oA oC
      rw[show((0:Nat):Int)=0 from rfl]at this
      rw[this];rfl
   ·rw[ar rfl,qX (c:=(true=true)) rfl,aq _]
    exact st ps oA
def ki(s:List UInt8)(i:Nat):Bool:=bl (s.getD i 0) && !bl (s.getD (i-1) 0)
def cb(s:List UInt8):Nat->Nat->Nat->Nat|0,_,b=>b|m+1,i,b=>cb s m (i+1) (if ki s i && !(decide (0<b)&&decide (78<i)) then i else b)
def zaz(s:List UInt8):∀m i b,0<b->78<i->cb s m i b=b
 |0,_,_,_,_=>rfl|m+1,i,b,h1,h2=>by
  rw[cb,decide_eq_true h1,decide_eq_true h2];simp only[Bool.and_self,Bool.not_true,Bool.and_false,wJ,if_false];exact zaz s m (i+1) b h1 oA
def q1m(s:List UInt8):∀m i b,cb s m i b=b\/(i<=cb s m i b/\cb s m i b<i+m/\ki s (cb s m i b)=true)
 |0,_,_ => .inl rfl|m+1,i,b=>by
  rw[cb];split
  ·rename_i h;simp only[qA]at h;rcases q1m s m (i+1) i with e|⟨h1,h2,h3⟩
   ·rw[e];exact .inr ⟨wF _,oA,h.1⟩
   ·exact .inr ⟨oA,oA,h3⟩
  ·rcases q1m s m (i+1) b with e|⟨h1,h2,h3⟩
   ·exact .inl e
   ·exact .inr ⟨oA,oA,h3⟩
def qst(s:List UInt8)(i:Nat)(h:i<s.length):s.getD i 0=s[i]:=by simp[List.getD_eq_getElem?_getD,h]
def ztz(fu n:Nat):∀(s:List UInt8)(m i b:Nat),i+m=s.length->1<=i->m<n->s.length<1000000000->qjm fu n s (b:Int) (i:Int)=some ((cb s m i b:Nat):Int):=by
 induction n with
 |zero=>intro s m i b _ _ h;omega|succ n ih=>
  intro s m i b hi h1 hm hb;rw[qjm,qyd]
  cases m with
  |zero=>rw[ao];rfl|succ m=>
   have hlt:i<s.length:=oA
   have hlt':i-1<s.length:=oA
   rw[ag,qq _ _ hlt,qB,qrr,qB,cb]
   unfold ki;rw[qst _ _ hlt,qst _ _ hlt'];unfold qph;cases bl s[i]
   ·rw[da,ar,aq _]
    exact ih s m (i+1) b oA oA oA hb
   ·rw[bt,show ae ((i:Int)-1)=((i-1:Nat):Int) by rw[bq];omega,qq _ _ hlt',qB,qrr,qB]
    cases bl s[i-1]
    ·rw[au (by rfl),aq _,bn,bn]
     by_cases q1:0<b
     ·rw[qX oA,decide_eq_true q1]
      by_cases q2:78<i
      ·rw[qX oA,decide_eq_true q2]
       simp only[Bool.and_self,Bool.not_true,Bool.and_false,wJ,if_false];rw[zaz s m (i+1) b q1 oA]
      ·rw[qW oA,decide_eq_false q2]
       exact ih s m (i+1) i oA oA oA hb
     ·rw[qW oA,decide_eq_false q1]
      exact ih s m (i+1) i oA oA oA hb
    ·rw[ar,aq _]
     exact ih s m (i+1) b oA oA oA hb
def gn(s:List UInt8)(k:Nat):Nat:=cb s (s.length-k) k 0
def zty(fu:Nat)(s:List UInt8)(k:Nat)(h:s.length<fu)(hb:s.length<1000000000)(hk:k<=s.length)(h0:1<=s.length):qpg fu s (k:Int)=some ((gn s (max k 1):Nat):Int):=by
 unfold qpg gn;have e:(if(1:Int)>(k:Int) then(1:Int) else(k:Int))=((max k 1:Nat):Int):=by
  split
  ·rename_i h;have:k=0:=oA
   subst this;rfl
  ·rename_i h;rw[Nat.max_eq_left oA]
 rw[e];exact ztz fu fu s (s.length-max k 1) (max k 1) 0 oA oA oA hb
def gp:Nat->List UInt8->Nat->List (List UInt8)|0,s,_=>[s]|n+1,s,k=>if 78<s.length then(if gn s k=0 then[s] else s.take (gn s k)::gp n (s.drop (gn s k)) 1) else[s]
def q1i(s:List UInt8)(k:Nat)(_h1:1<=k)(h:gn s k≠0):k<=gn s k/\gn s k<s.length/\ki s (gn s k)=true:=by
 unfold gn at *;rcases q1m s (s.length-k) k 0 with e|⟨h2,h3,h4⟩
 ·exact absurd e h
 ·exact⟨h2,oA,h4⟩
def yd:Nat->List (List UInt8)->Option Nat|_,[]=>none|i,l::ls=>if 998<l.length then some i else yd (i+1) ls
def qbq(ls:List (List UInt8)):(Int×Int)×List (List UInt8):=match yd 0 ls with|some i=>((1,(i:Int)),[])|none=>((0,0),ls)
def zn2(fu n:Nat)(m16:Int×Int):∀(ab aa:List (List UInt8)),aa.length<n->ab.length+aa.length<1000000000 ->
  qjl fu n ((ab.length+aa.length:Nat):Int) (ab.length:Int) m16 (ab++aa)=some (match yd ab.length aa with|some i=>((1,(i:Int)),[])|none=>((0,0),ab++aa)):=by
 induction n with
 |zero=>intro ab aa h;omega|succ n ih=>
  intro ab aa h hb;rw[qjl,qyb]
  cases aa with
  |nil=>rw[ao];rfl|cons c aa=>
   simp only[qL]at h hb ⊢;rw[ag,gx,a7,qB,bn,yd]
   by_cases hc:998<c.length
   ·rw[qX oA,qX hc];rfl
   ·rw[qW oA,qW hc,aq _]
    have:=ih (ab++[c]) aa oA oB
    simp only[qS,wM,qM,qL,qZ]at this;rw[show ab.length+(0+1)+aa.length=ab.length+(aa.length+1) by omega]at this
    exact this
def zck(fu:Nat)(m16:Int×Int)(s:List UInt8)(out:List (List UInt8))(h:out.length+1<fu:=by omega)(hb:out.length<900000000:=by omega):qjk fu s m16 out=some (qbq (out++[s])):=by
 unfold qjk;rw[ag oL]
 have:=zn2 fu fu m16 [] (out++[s]) (by simpa using h) oB
 simp only[List.nil_append,qZ,wO]at this;exact this
def zpz(fu n:Nat)(m16:Int×Int):∀(m:Nat)(s:List UInt8)(k k':Nat)(out:List (List UInt8)),s.length<=m->s.length<n->max k 1=k'->(78<s.length->k<=s.length)->s.length+out.length+1<fu->s.length+out.length<500000000 ->
  qjj fu n s (k:Int) m16 out=some (qbq (out++gp m s k')):=by
 induction n with
 |zero=>intro m s k k' out _ h;omega|succ n ih=>
  intro m s k k' out hm h hk hk2 hf hb;rw[qjj,qya,bn];by_cases hl:78<s.length
  ·obtain⟨m,rfl⟩:∃j,m=j+1:=⟨m-1,oA⟩
   rw[qX oA,zty fu s k oA oA (hk2 hl) oA,hk,qB,eu,gp,qX hl]
   by_cases h0:gn s k'=0
   ·rw[qX oA,qX h0]
    exact zck fu m16 s out
   ·obtain⟨h1,h2,_⟩:=q1i s k' oA h0
    rw[qW oA,qW h0,ag,ag oL,ag]
    have:=ih m (s.drop (gn s k')) 0 1 (out++[s.take (gn s k')]) (by rw[List.length_drop];omega) (by rw[List.length_drop];omega) rfl (by intro;omega) (by rw[List.length_drop,qM,wD];omega) (by rw[List.length_drop,qM,wD];omega)
    simpa using this
  ·rw[qW oA]
   have e:gp m s k'=[s]:=by cases m with|zero=>rfl|succ m=>rw[gp,qW hl]
   rw[e];exact zck fu m16 s out
def cf(n v:List UInt8):List UInt8:=n++[58,32]++v
def ju(n v:List UInt8):List (List UInt8):=gp (cf n v).length (cf n v) (n.length+2)
def td(n v:List UInt8):(Int×Int)×List (List UInt8):=if qi n v=0 then qbq (ju n v) else((qi n v,-1),[])
def q2t{s:List UInt8}(h:ql s=true):s.length<=60:=by
 unfold ql at h;simp only[qA,decide_eq_true_eq]at h;exact h.1.2
def q2l{n v:List UInt8}(h:qi n v=0):ql n=true/\v.length<=4000/\qfj v=true:=by
 unfold qi at h;split at h
 ·rename_i h1;split at h
  ·exact absurd h oE
  ·rename_i h2;split at h
   ·rename_i h3;exact⟨h1,oA,h3⟩
   ·exact absurd h oE
 ·exact absurd h oE
def zpy(fu:Nat)(n v:List UInt8)(hfu:10000<=fu:=by omega)(hv:v.length<fu:=by omega)(hvb:v.length<1000000000:=by omega):qpd fu n v=some (td n v):=by
 unfold qpd td;rw[zpw fu n,qB]
 by_cases h0:qi n v=0
 ·obtain⟨h1,h2,h3⟩:=q2l h0;have hn:=q2t h1;rw[qX h0,h1,bt,ao,zco fu v oA hv hvb,qB,h3,bt,ag oF,ag oF]
  have:=zpz fu fu (0,0) (cf n v).length (cf n v) (n.length+2) (n.length+2) [] (wF _) (by simp[cf]<;>omega) oA (by intro;simp[cf]<;>omega) (by simp[cf]<;>omega) (by simp[cf]<;>omega)
  rw[show ae ((n.length:Int)+2)=((n.length+2:Nat):Int) by rw[bq];omega]
  exact this
 ·rw[qW h0];unfold qi at h0 ⊢;cases hn:ql n
  ·rfl
  ·rw[hn]at h0;simp only[if_true]at h0 ⊢;rw[bt,bn];by_cases hl:4000<v.length
   ·rw[qX oA,qX hl];rfl
   ·rw[qW hl]at h0;rw[qW oA,qW hl,zco fu v oA hv hvb,qB]
    cases hv3:qfj v
    ·rfl
    ·rw[hv3]at h0;exact absurd rfl h0
def pts(s:List UInt8)(i m:Nat):List Nat:=(List.range' i m).filter (ki s)
def q4l(s:List UInt8)(i m:Nat):pts s i (m+1)=(if ki s i then[i] else[])++pts s (i+1) m:=by
 unfold pts;rw[List.range'_succ,List.filter_cons];split<;>rfl
def zt9(s:List UInt8)(i m k:Nat):pts s i (m+k)=pts s i m++pts s (i+m) k:=by
 unfold pts;rw[← List.filter_append];congr 1;rw[List.range'_append_1]
def zub(s:List UInt8)(i m:Nat):(pts s i m).length<=m:=by
 unfold pts;have:=List.length_filter_le (ki s) (List.range' i m);simpa using this
def ii(at_ b p:Nat):Nat:=if at_<p/\(p-at_<=78\/b=0) then p-at_ else b
def zq0(s:List UInt8)(a i:Nat)(h:a<i):ki (s.drop a) (i-a)=ki s i:=by
 unfold ki;simp only[List.getD_eq_getElem?_getD,List.getElem?_drop];rw[show a+(i-a)=i by omega,show a+(i-a-1)=i-1 by omega]
def q4z(s:List UInt8)(a:Nat):∀m i b,a<i->(pts s i m).foldl (ii a) b=cb (s.drop a) m (i-a) b
 |0,_,_,_=>rfl|m+1,i,b,h=>by
  rw[q4l,List.foldl_append,cb,zq0 s a i h,show i-a+1=i+1-a by omega,← q4z s a m (i+1) _ oA]
  congr 1;cases ki s i
  ·rfl
  ·simp only[if_true,List.foldl_cons,List.foldl_nil,ii,Bool.true_and];by_cases q1:0<b
   ·by_cases q2:78<i-a
    ·rw[qW oA,qW (by simp[q1,q2])]
    ·rw[qX oA,qX oB]
   ·rw[qX oA,qX oB]
def zfw(s:List UInt8)(a:Nat):∀m i b,i+m<=a+1->(pts s i m).foldl (ii a) b=b
 |0,_,_,_=>rfl|m+1,i,b,h=>by
  rw[q4l,List.foldl_append];have e:(if ki s i=true then[i] else[]).foldl (ii a) b=b:=by
   split
   ·simp only[List.foldl_cons,List.foldl_nil,ii];rw[qW oA]
   ·rfl
  rw[e];exact zfw s a m (i+1) b oA
def zv9(s:List UInt8)(a k0:Nat)(h1:1<=k0)(h:a=0\/k0<=a)(ha:a<s.length)(hk:k0<=s.length):(pts s k0 (s.length-k0)).foldl (ii a) 0=gn (s.drop a) (if a=0 then k0 else 1):=by
 unfold gn;by_cases h0:a=0
 ·subst h0;rw[qX rfl,q4z s 0 _ k0 0 oA]
  simp
 ·rw[qW h0,show s.length-k0=(a+1-k0)+(s.length-a-1) by omega,zt9,List.foldl_append,zfw s a (a+1-k0) k0 0 oA,show k0+(a+1-k0)=a+1 by omega,q4z s a _ _ _ oA,List.length_drop]
  rw[show a+1-a=1 by omega]
def plc(a b:Nat):Int:=if b=0 then -1 else((a+b:Nat):Int)
def zqo(fu:Nat)(r2:List UInt8->Int->List Int->List (List UInt8)->Option (List (List UInt8)))(n:Nat):∀(s:List UInt8)(a b:Nat)(ab:List Int)(aa:List Nat)(out:List (List UInt8)),aa.length<n->ab.length+aa.length<1000000000->(∀p∈aa,p<s.length)->a<=s.length->s.length<1000000000->a+b<=s.length->out.length<1000000000 ->
  zj fu r2 n s (a:Int) (plc a b) (ab.length:Int) (ab++aa.map Nat.cast) out=(if aa.foldl (ii a) b=0 then some (out++[s.drop a]) else r2 s ((a+aa.foldl (ii a) b:Nat):Int) (ab++aa.map Nat.cast) (out++[(s.drop a).take (aa.foldl (ii a) b)])):=by
 induction n with
 |zero=>intro s a b ab aa out h;omega|succ n ih=>
  intro s a b ab aa out h hb hp ha hs hab ho;rw[zj,qvn]
  cases aa with
  |nil=>
   rw[ao,List.foldl_nil,bn]
   unfold plc;by_cases h0:b=0
   ·rw[qX h0,qX oA,qX h0,ag,ag oL]
    simp
   ·rw[qW h0,qW oA,qW h0,ag,ag oL]
    rw[show((a+b:Nat):Int).toNat-(a:Int).toNat=b by omega]
    simp
  |cons p aa=>
   simp only[qL]at h hb;have hp0:=hp p qH;rw[List.map_cons];have hl:((ab++(p:Int)::aa.map Nat.cast).length:Int)=((ab.length+aa.length+1:Nat):Int):=by simp;omega
   rw[hl,ag]
   have hlt:(0<=(ab.length:Int)/\(ab.length:Int).toNat<(ab++(p:Int)::aa.map Nat.cast).length):=oC
   rw[ag hlt,xu,qB,List.foldl_cons];have fin:∀b',a+b'<=s.length->zj fu r2 n s (a:Int) (plc a b') (ae ((ab.length:Int)+1)) (ab++(p:Int)::aa.map Nat.cast) out=(if aa.foldl (ii a) b'=0 then some (out++[s.drop a]) else r2 s ((a+aa.foldl (ii a) b':Nat):Int) (ab++(p:Int)::aa.map Nat.cast) (out++[(s.drop a).take (aa.foldl (ii a) b')])):=by
    intro b' hb';have:=ih s a b' (ab++[(p:Int)]) aa out oA oB (fun q hq=>hp q (qE _ hq)) ha hs hb' ho
    rw[aq _]
    simpa using this
   unfold qhm qn1;rw[bn];by_cases q1:a<p
   ·have e1:ae ((p:Int)-(a:Int))=((p-a:Nat):Int):=by rw[bq];omega
    have e2:(p:Int)=plc a (p-a):=by unfold plc;rw[qW oA];omega
    rw[qX oA,e1,bn]
    by_cases q2:p-a<=78
    ·rw[qX oA,ar,show ii a b p=p-a by unfold ii;rw[qX ⟨q1,.inl q2⟩],← fin (p-a) oA,← e2]
    ·rw[qW oA]
     by_cases q3:b=0
     ·rw[ar (by unfold plc;rw[qX q3];rfl),show ii a b p=p-a by unfold ii;rw[qX ⟨q1,.inr q3⟩],← fin (p-a) oA,← e2]
     ·rw[au (by unfold plc;rw[qW q3];exact decide_eq_false oA),show ii a b p=b by unfold ii;rw[qW oA],fin b hab]
   ·rw[qW oA,au (by rfl),show ii a b p=b by unfold ii;rw[qW oA],fin b hab]
def zee(fu n:Nat)(s:List UInt8)(k0:Nat)(hk1:1<=k0)(hk:k0<=s.length)(hs:s.length<500000000)(hfu:s.length<fu):∀(m a:Nat)(out:List (List UInt8)),s.length-a<=m->s.length-a<n->(a=0\/k0<=a)->a<s.length->out.length+(s.length-a)<500000000 ->
  ue fu n s (a:Int) ((pts s k0 (s.length-k0)).map Nat.cast) out=some (out++gp m (s.drop a) (if a=0 then k0 else 1)):=by
 induction n with
 |zero=>intro m a out _ h;omega|succ n ih=>
  intro m a out hm h hz ha ho;rw[ue,qny,show ae ((s.length:Int)-(a:Int))=((s.length-a:Nat):Int) by rw[bq];omega,bn]
  have ac:(s.drop a).length=s.length-a:=List.length_drop;by_cases hl:78<s.length-a
  ·obtain⟨m,rfl⟩:∃j,m=j+1:=⟨m-1,oA⟩
   have hpl:=zub s k0 (s.length-k0);have hin:=zqo fu (ue fu n) fu s a 0 [] (pts s k0 (s.length-k0)) out oA oB (fun p hp=>by
    unfold pts at hp;rw[List.mem_filter,List.mem_range'_1]at hp;omega) oA oA oA oA
   rw[zv9 s a k0 hk1 hz ha hk]at hin;simp only[List.nil_append,qZ]at hin;rw[qX oA,gp,ac,qX hl]
   have hin:zj fu (ue fu n) fu s (a:Int) (-1) 0 ((pts s k0 (s.length-k0)).map Nat.cast) out=_:=hin;rw[hin];by_cases h0:gn (s.drop a) (if a=0 then k0 else 1)=0
   ·rw[qX h0,qX h0]
   ·obtain⟨h1,h2,_⟩:=q1i (s.drop a) (if a=0 then k0 else 1) (by split<;>omega) h0
    rw[qW h0,qW h0];generalize hB:gn (s.drop a) (if a=0 then k0 else 1)=B at *
    have:=ih m (a+B) (out++[(s.drop a).take B]) oA oA (.inr (by
     split at h1
     ·omega
     ·rcases hz with hz|hz<;>omega)) oA (by rw[qM,wD];split at h1<;>omega)
    rw[qW (by split at h1<;>omega)]at this
    rw[this];simp[List.drop_drop]
  ·rw[qW oA,ag,ag oL]
   have e:gp m (s.drop a) (if a=0 then k0 else 1)=[s.drop a]:=by cases m with|zero=>rfl|succ m=>rw[gp,ac,qW hl]
   rw[e];simp
def zua(fu n:Nat):∀(s:List UInt8)(m i:Nat)(acc:List Int),i+m=s.length->1<=i->m<n->s.length<1000000000->acc.length+m<1000000000 ->
  qct fu n s (i:Int) acc=ue fu fu s 0 (acc++(pts s i m).map Nat.cast) []:=by
 induction n with
 |zero=>intro s m i acc _ _ h;omega|succ n ih=>
  intro s m i acc hi h1 hm hb ha;rw[qct,qnx]
  cases m with
  |zero=>rw[ao];simp[pts]|succ m=>
   have hlt:i<s.length:=oA
   have hlt':i-1<s.length:=oA
   rw[ag,qq _ _ hlt,qB,qb3,qB,q4l]
   unfold qnz qn0;rw[show ki s i=(bl s[i] && !bl s[i-1]) by unfold ki;rw[qst _ _ hlt,qst _ _ hlt']]
   cases bl s[i]
   ·rw[au (by rfl),au (by rfl),aq _]
    exact ih s m (i+1) acc oA oA oA hb oA
   ·rw[ar,show ae ((i:Int)-1)=((i-1:Nat):Int) by rw[bq];omega,qq _ _ hlt',qB,qb3,qB]
    cases bl s[i-1]
    ·rw[da,ag oL,aq _]
     have:=ih s m (i+1) (acc++[(i:Int)]) oA oA oA hb oB
     simpa using this
    ·rw[bt,aq _]
     exact ih s m (i+1) acc oA oA oA hb oA
def znp(n v:List UInt8):gn (cf n v) (n.length+2)=gn (cf n v) (n.length+3):=by
 unfold gn
 cases v with
 |nil=>rw[show(cf n []).length=n.length+2 by simp[cf]];simp[cb]|cons c v=>
  have hl:(cf n (c::v)).length=n.length+3+v.length:=by simp[cf];omega
  rw[hl,show n.length+3+v.length-(n.length+2)=v.length+1 by omega,show n.length+3+v.length-(n.length+3)=v.length by omega,cb]
  have:ki (cf n (c::v)) (n.length+2)=false:=by
   unfold ki;have e:(cf n (c::v)).getD (n.length+2-1) 0=32:=by
    rw[show cf n (c::v)=(n++[58])++32::c::v by simp[cf],show n.length+2-1=(n++[58]).length by simp]
    simp[List.getD_eq_getElem?_getD]
   rw[e];cases bl ((cf n (c::v)).getD (n.length+2) 0)<;>rfl
  rw[this];rfl
def zpv(n v:List UInt8):gp (cf n v).length (cf n v) (n.length+3)=ju n v:=by
 unfold ju
 cases h:(cf n v).length with|zero=>rfl|succ m=>rw[gp,gp,znp]
def zp1(fu:Nat)(n v:List UInt8)(h:n.length+v.length+3<fu:=by omega)(hb:n.length+v.length<400000000:=by omega):qnw fu n v=some (ju n v):=by
 unfold qnw;have hl:(cf n v).length=n.length+2+v.length:=by simp[cf];omega
 rw[ag oF,ag oF]
 rw[show n++([58,32]:List UInt8)++v=cf n v from rfl,show ae ((n.length:Int)+3)=((n.length+3:Nat):Int) by rw[bq];omega]
 cases v with
 |nil=>
  obtain⟨k,rfl⟩:∃k,fu=k+1:=⟨fu-1,oA⟩
  simp only[qZ]at h hl;rw[qct,qnx,ao]
  -- too short for points
  by_cases hn:78<n.length+2
  ·have:=zee (k+1) (k+1) (cf n []) (n.length+2) oA oA oA oA (cf n []).length 0 [] oA oA (.inl rfl) oA oB
   rw[show(cf n []).length-(n.length+2)=0 by omega]at this
   exact this
  ·rw[ue,qny,show ae (((cf n []).length:Int)-0)=((cf n []).length:Int) by rw[bq];omega,ao,ag,ag (by simp[a6])]
   unfold ju;rw[show gp (cf n []).length (cf n []) (n.length+2)=[cf n []] by
    rw[hl,show n.length+2+0=n.length+1+1 by omega,gp,qW oA]]
   rfl
 |cons c v=>
  simp only[qL]at h hb hl;have:=zua fu fu (cf n (c::v)) v.length (n.length+3) [] oA oA oA oA oB
  rw[this,List.nil_append,← zpv];have:=zee fu fu (cf n (c::v)) (n.length+3) oA oA oA oA (cf n (c::v)).length 0 [] oA oA (.inl rfl) oA oB
  rw[show(cf n (c::v)).length-(n.length+3)=v.length by omega]at this
  exact this
def zus(fu n:Nat)(m16:Int×Int):∀(ab aa:List (List UInt8)),aa.length<n->ab.length+aa.length<1000000000 ->
  qhl fu n (ab.length:Int) m16 (ab++aa)=some (match yd ab.length aa with|some i=>(1,(i:Int))|none=>(0,0)):=by
 induction n with
 |zero=>intro ab aa h;omega|succ n ih=>
  intro ab aa h hb;rw[qhl,qvm]
  cases aa with
  |nil=>rw[ao];rfl|cons c aa=>
   simp only[qL]at h hb;rw[db,ag,gx,a7,qB,bn,yd]
   by_cases hc:998<c.length
   ·rw[qX oA,qX hc];rfl
   ·rw[qW oA,qW hc,aq _]
    have:=ih (ab++[c]) aa oA oB
    simpa using this
def q2u:∀(m:Nat)(s:List UInt8)(k:Nat),s.length<=m->1<=k->(gp m s k).length<=s.length+1
 |0,s,_,_,_=>by simp[gp]|m+1,s,k,h,hk=>by
  rw[gp];split
  ·split
   ·simp
   ·rename_i h0;obtain⟨h1,h2,_⟩:=q1i s k hk h0;have:=q2u m (s.drop (gn s k)) 1 (by rw[List.length_drop];omega) oA
    rw[List.length_drop]at this;rw[qL];omega
  ·simp
def zru(ls:List (List UInt8)):(qbq ls).1=(match yd 0 ls with|some i=>(1,(i:Int))|none=>(0,0)):=by
 unfold qbq;split<;>simp_all
def zpx(fu:Nat)(n v:List UInt8)(hfu:10000<=fu:=by omega)(hn:n.length<fu:=by omega)(hv:v.length<fu:=by omega)(hnb:n.length<1000000000:=by omega)(hvb:v.length<1000000000:=by omega):qnv fu n v=some (td n v).1:=by
 unfold qnv td;rw[zut fu n v oA hn hv hnb hvb,qB,ip]
 by_cases h0:qi n v=0
 ·obtain⟨h1,h2,_⟩:=q2l h0;have hl:=q2t h1;rw[qW oA,qX h0,zp1 fu n v,qB,zru]
  have:=q2u (cf n v).length (cf n v) (n.length+2) (wF _) oA
  have hle:(cf n v).length=n.length+2+v.length:=by simp[cf];omega
  have:=zus fu fu (0,0) [] (ju n v) (by unfold ju;omega) (by unfold ju;simp;omega)
  exact this
 ·rw[qX h0,qW h0];rfl
def qfl{α:Type}(ab:List α)(c d:α)(aa:List α):ai (ab++c::d::aa) ((ab.length+1:Nat):Int)=some d:=by
 have:=a7 (ab++[c]) d aa;simpa using this
def g9(c:UInt8)(r:List UInt8):Bool:=c==13&&r.head? == some 10
def qs1{c:UInt8}{r:List UInt8}(h:g9 c r=true):c=13/\∃r',r=10::r':=by
 unfold g9 at h;simp only[qA,beq_iff_eq]at h;refine⟨h.1,?_⟩
 cases r with|nil=>simp at h|cons d r=>simp at h;exact⟨r,by rw[h.2]⟩
def eo:List UInt8->List UInt8|[]=>[]|c::r=>if g9 c r then 13::10::eo r.tail else if c=13\/c=10 then 13::10::eo r else c::eo r
termination_by l=>l.length
decreasing_by all_goals (simp only[qL,List.length_tail];omega)
def ze1(ab:List UInt8)(c:UInt8)(r:List UInt8)(hb:ab.length<100000000:=by omega):qco (ab++c::r) (ab.length:Int)=some (g9 c r):=by
 unfold qco g9;rw[aq _]
 cases r with
 |nil=>rw[ao];cases c==13<;>rfl
 |cons d r=>
  rw[ag (by simp<;>omega),a7,qB]
  cases c==13
  ·rfl
  ·rw[ar,qfl,qB]
   cases h:d==10<;>simp_all
def bs(col:Nat):List UInt8->Int|[]=>0|c::r=>if g9 c r then bs 0 r.tail else if c=13\/c=10 then 11 else if 998<=col then 1 else bs (col+1) r
termination_by l=>l.length
decreasing_by all_goals (simp only[qL,List.length_tail];omega)
def qrs(col:Nat):bs col []=0:=by rw[bs]
def q1j(col:Nat)(c:UInt8)(r:List UInt8):bs col (c::r)=if g9 c r then bs 0 r.tail else if c=13\/c=10 then 11 else if 998<=col then 1 else bs (col+1) r:=by rw[bs]
def q1g(x:Int):Int×Int:=if x=11 then(11,-5) else if x=1 then(1,-6) else(0,0)
def znj(fu n:Nat):∀(ab aa:List UInt8)(col:Nat),aa.length<n->ab.length+aa.length<100000000->col<=2000 ->
  qdt fu n (ab++aa) (col:Int) (ab.length:Int)=some (bs col aa):=by
 induction n with
 |zero=>intro ab aa col h;omega|succ n ih=>
  intro ab aa col h hb hcol;rw[qdt,qxs]
  cases aa with
  |nil=>rw[ao,qrs]|cons c r=>
   simp only[qL]at h hb;have fin:∀f,f=g9 c r->qdu fu (qdt fu n) (ab++c::r) (col:Int) (ab.length:Int) c f=some (bs col (c::r)):=by
    intro f hf;unfold qdu;rw[q1j,hf];cases hc:g9 c r
    ·rw[au (by rfl),qW oE]
     unfold qxt;rw[ez,ez];by_cases h13:c=13
     ·rw[qX h13,qX (.inl h13)]
     ·rw[qW h13];by_cases h10:c=10
      ·rw[qX h10,qX (.inr h10)]
      ·rw[qW h10,qW (by simp[h13,h10]),aq _,bn]
       by_cases hq:998<=col
       ·rw[qX oA,qX hq]
       ·rw[qW oA,qW hq,aq _]
        have:=ih (ab++[c]) r (col+1) oA oB oA
        simpa using this
    ·obtain⟨rfl,r',rfl⟩:=qs1 hc;simp only[qL]at h hb;rw[ar,qX rfl,aq _,aq _,show ab.length+1+1=ab.length+2 from rfl]
     have:=ih (ab++[13,10]) r' 0 oA oB oA
     simpa using this
   rw[db,ag,a7,qB,ez]
   by_cases h13:c=13
   ·subst h13;rw[qX rfl,aq _]
    cases r with
    |nil=>rw[ao];exact fin false rfl|cons d r=>
     rw[ag oG,qfl,qB]
     exact fin _ (by unfold g9;cases h:d==10<;>simp_all)
   ·rw[qW h13];exact fin false (by unfold g9;rw[beq_false_of_ne h13];rfl)
def znr(n:Nat):∀(s:List UInt8)(col:Nat),s.length<=n->bs col s=0\/bs col s=1\/bs col s=11:=by
 induction n with
 |zero=>intro s col h;have:=List.length_eq_zero_iff.1 (Nat.le_zero.1 h);subst this;rw[qrs];exact .inl rfl|succ n ih=>
  intro s col h
  cases s with
  |nil=>rw[qrs];exact .inl rfl|cons c r=>
   simp only[qL]at h;rw[q1j];split
   ·exact ih _ _ (by rw[List.length_tail];omega)
   ·split
    ·exact .inr (.inr rfl)
    ·split
     ·exact .inr (.inl rfl)
     ·exact ih _ _ oA
def zuq(fu n:Nat)(m16:Int×Int):∀(ab aa:List UInt8)(col b:Nat),aa.length<n->ab.length+aa.length<100000000->b+col=ab.length ->
  qit fu n (ab++aa) (b:Int) (ab.length:Int) m16=some (q1g (bs col aa)):=by
 induction n with
 |zero=>intro ab aa col b h;omega|succ n ih=>
  intro ab aa col b h hb hcol;rw[qit,qw1]
  cases aa with
  |nil=>rw[ao,qrs];rfl|cons c r=>
   simp only[qL]at h hb;rw[db,ag,ze1 ab c r,qB,q1j]
   cases hc:g9 c r
   ·rw[au (by rfl),qW oE,a7,qB,qB,ez]
    unfold qol;by_cases h13:c=13
    ·rw[qX h13,qX (.inl h13)];rfl
    ·rw[qW h13,ez];by_cases h10:c=10
     ·rw[qX h10,qX (.inr h10)];rfl
     ·rw[qW h10,qW (by simp[h13,h10]),show ae ((ab.length:Int)-(b:Int))=(col:Int) by rw[bq];omega,bn]
      by_cases hq:998<=col
      ·rw[qX oA,qX hq];rfl
      ·rw[qW oA,qW hq,aq _]
       have:=ih (ab++[c]) r (col+1) b oA oB oB
       simpa using this
   ·obtain⟨rfl,r',rfl⟩:=qs1 hc;simp only[qL]at h hb;rw[ar,qX rfl,aq _,aq _,show ab.length+1+1=ab.length+2 from rfl]
    have:=ih (ab++[13,10]) r' 0 (ab.length+2) oA oB oC
    simpa using this
def zup(fu:Nat)(s:List UInt8)(h:s.length<fu:=by omega)(hb:s.length<100000000:=by omega):qw0 fu s=some (q1g (bs 0 s)):=by
 have:=zuq fu fu (0,0) [] s 0 0 h (by simpa using hb) rfl
 exact this
abbrev bp:Type:=List UInt8×List UInt8
def l9(l:List bp):Prop:=l.length<=10000000/\∀x∈l,x.1.length<=10000000/\x.2.length<=10000000
def l9.tail{x:bp}{l:List bp}(h:l9 (x::l)):l9 l:=⟨by have:=h.1;simp only[qL]at this;omega,fun y hy=>h.2 y (qE _ hy)⟩
def ff:Nat->List bp->Int×Int|_,[]=>(0,0)|i,x::l=>if(td x.1 x.2).1.1≠0 then((td x.1 x.2).1.1,(i:Int)) else ff (i+1) l
def qk(l:List bp):Int×Int:=if 60<l.length then(2,-1) else ff 0 l
def zqg(fu n:Nat)(hfu:90000000<=fu)(m16:Int×Int):∀(ab aa:List bp),aa.length<n->ab.length+aa.length<100000000->l9 aa ->
  qjn fu n (ab++aa) ((ab.length+aa.length:Nat):Int) (ab.length:Int) m16=some (ff ab.length aa):=by
 induction n with
 |zero=>intro ab aa h;omega|succ n ih=>
  intro ab aa h hb hs;rw[qjn,qye]
  cases aa with
  |nil=>rw[ao];rfl|cons x aa=>
   simp only[qL]at h hb ⊢;obtain⟨q1,q2⟩:=hs.2 x qH;rw[ag,a7,qB,zpy fu x.1 x.2,qB,xp,qB,ip,ff]
   split
   ·rfl
   ·rw[aq _]
    have:=ih (ab++[x]) aa oA oB hs.tail
    simp only[qS,wM,qM,qL,qZ]at this;rw[show ab.length+(0+1)+aa.length=ab.length+(aa.length+1) by omega]at this
    exact this
def zqf(fu:Nat)(hfu:90000000<=fu)(l:List bp)(hs:l9 l):qpj fu l=some (qk l):=by
 unfold qpj qk;rw[bn];split
 ·rw[qX oA];rfl
 ·rw[qW oA]
  have:=zqg fu fu hfu (0,0) [] l (by have:=hs.1;omega) (by have:=hs.1;simp;omega) hs
  simp only[List.nil_append,qZ,wO]at this;exact this
def zvl(fu n:Nat)(hfu:90000000<=fu)(m16:Int×Int):∀(ab aa:List bp),aa.length<n->ab.length+aa.length<100000000->l9 aa ->
  qhk fu n (ab++aa) (ab.length:Int) m16=some (ff ab.length aa):=by
 induction n with
 |zero=>intro ab aa h;omega|succ n ih=>
  intro ab aa h hb hs;rw[qhk,qvl]
  cases aa with
  |nil=>rw[ao];rfl|cons x aa=>
   simp only[qL]at h hb ⊢;obtain⟨q1,q2⟩:=hs.2 x qH;rw[ql4,qL,ag,a7,qB,qB,zpx fu x.1 x.2,qB,ip,ff]
   split
   ·rfl
   ·rw[aq _]
    have:=ih (ab++[x]) aa oA oB hs.tail
    simpa using this
def zvk(fu:Nat)(hfu:90000000<=fu)(l:List bp)(hs:l9 l):qnt fu l=some (qk l):=by
 unfold qnt qk;rw[bn];split
 ·rw[qX oA];rfl
 ·rw[qW oA]
  have:=zvl fu fu hfu (0,0) [] l (by have:=hs.1;omega) (by have:=hs.1;simp;omega) hs
  exact this
def okF(x:bp):Prop:=qi x.1 x.2=0/\yd 0 (ju x.1 x.2)=none
def zs2{x:bp}(h:okF x):td x.1 x.2=((0,0),ju x.1 x.2):=by
 unfold td qbq;rw[qX h.1,h.2]
def zp0{x:bp}(h:(td x.1 x.2).1.1=0:=by omega):okF x:=by
 unfold td qbq at h;by_cases h0:qi x.1 x.2=0
 ·refine⟨h0,?_⟩;rw[qX h0]at h;split at h
  ·exact absurd h oC
  ·rename_i h1;exact h1
 ·rw[qW h0]at h;exact absurd h h0
def zb2:∀(i:Nat)(l:List bp),(ff i l).1=0->∀x∈l,okF x
 |_,[],_,_,h=>by cases h
 |i,y::l,h,x,hx=>by
  rw[ff]at h;split at h
  ·rename_i h1;exact absurd h h1
  ·rename_i h1;rcases List.mem_cons.1 hx with rfl|hx
   ·exact zp0
   ·exact zb2 (i+1) l h x hx
def zd8:∀(i:Nat)(l:List bp),(∀x∈l,okF x)->ff i l=(0,0)
 |_,[],_=>rfl|i,y::l,h=>by
  rw[ff,zs2 (h y qH),qW oC]
  exact zd8 (i+1) l fun x hx=>h x (qE _ hx)
def zpk{l:List bp}(h:(qk l).1=0):qk l=(0,0)/\l.length<=60/\∀x∈l,okF x:=by
 unfold qk at h ⊢;split at h
 ·exact absurd h oE
 ·rename_i hl;have:=zb2 0 l h;rw[qW hl];exact⟨zd8 0 l this,oA,this⟩
def qs6(ls:List (List UInt8)):List UInt8:=ls.flatMap fun s=>s++[13,10]
def zpj(l:List bp):List UInt8:=l.flatMap fun x=>qs6 (ju x.1 x.2)
def hbytes(l:List bp):List UInt8:=zpj l++[13,10]
def zci:∀(m:Nat)(s:List UInt8)(k:Nat),(gp m s k).flatten=s
 |0,s,_=>by simp[gp]|m+1,s,k=>by
  rw[gp];split
  ·split
   ·simp
   ·rw[List.flatten_cons,zci m,List.take_append_drop]
  ·simp
def zc9:∀ls:List (List UInt8),(qs6 ls).length=ls.flatten.length+2*ls.length
 |[]=>rfl|s::ls=>by
  have:=zc9 ls;unfold qs6 at this ⊢;rw[List.flatMap_cons,List.flatten_cons,qM,qM,this];simp only[qM,qL,qZ];omega
def zd6{x:bp}(h:okF x):x.1.length<=60/\x.2.length<=4000/\(ju x.1 x.2).length<=5000/\(qs6 (ju x.1 x.2)).length<=20000:=by
 obtain⟨h1,h2,_⟩:=q2l h.1;have hl:=q2t h1;have hle:(cf x.1 x.2).length=x.1.length+2+x.2.length:=by simp[cf];omega
 have h3:=q2u (cf x.1 x.2).length (cf x.1 x.2) (x.1.length+2) (wF _) oA
 have h4:(ju x.1 x.2).flatten.length=(cf x.1 x.2).length:=by unfold ju;rw[zci]
 have h5:(ju x.1 x.2).length<=5000:=by unfold ju;omega
 exact⟨hl,h2,h5,by rw[zc9];omega⟩
def SmM(m:List bp×List UInt8):Prop:=l9 m.1/\m.2.length<=80000000
def q1p(t:List UInt8):List UInt8:=if t.getLast? = some 13 then t.dropLast else t
def ln(r:List UInt8):List UInt8×Nat:=if(10:UInt8)∈r then(q1p (r.takeWhile (· != 10)),(r.takeWhile (· != 10)).length+1) else(r,r.length)
def qud(t:List UInt8)(hb:t.length<1000000000):qah t [13]=some (q1p t):=by
 unfold qah qdw qo4 q1p;rcases List.eq_nil_or_concat t with rfl|⟨u,c,rfl⟩
 ·rfl
 ·rw[List.concat_eq_append]at *;simp only[qM,qL,qZ]at hb;rw[ia,show(([13]:List UInt8).length:Int)=1 from rfl,il _ oA,ag,ag,qB,qB]
  have e:List.drop ((u.length:Nat):Int).toNat (u++[c])=[c]:=nv u [c];rw[e,List.getLast?_concat,List.dropLast_concat,rh];by_cases h:c=13
  ·subst h;rw[ar,ag,qX rfl]
  ·rw[au (by simpa using h),qW (by simpa using h)]
def zpu(s:List UInt8):Option bp:=if(58:UInt8)∈s/\ql (cq (s.takeWhile (· != 58)))=true then some (cq (s.takeWhile (· != 58)),(s.dropWhile (· != 58)).tail) else none

def qrh(out:List bp)(s:List UInt8):List bp:=match out.getLast? with|some x=>out.dropLast++[(x.1,x.2++s)]|none=>out
def zmh(out:List bp)(x:bp)(s:List UInt8):qrh (out++[x]) s=out++[(x.1,x.2++s)]:=by
 unfold qrh;rw[List.getLast?_concat,List.dropLast_concat]
def hd:Nat->List UInt8->Nat->List bp->Nat×List bp
 |0,_,a,out=>(a,out)|n+1,r,a,out=>
  if r=[] then(a,out) else
  if(ln r).1=[] then(a+(ln r).2,out) else
  if bl ((ln r).1.headD 0)=true/\out≠[] then hd n (r.drop (ln r).2) (a+(ln r).2) (qrh out (ln r).1) else
  match zpu (ln r).1 with|none=>(a,out)|some x=>hd n (r.drop (ln r).2) (a+(ln r).2) (out++[x])
def SmA(a:Nat)(l:List bp):Prop:=l.length<=a/\∀x∈l,x.1.length<=a/\x.2.length<=a
def SmA.mono{a b:Nat}{l:List bp}(h:SmA a l)(hab:a<=b):SmA b l:=⟨Nat.le_trans h.1 hab,fun x hx=>⟨Nat.le_trans (h.2 x hx).1 hab,Nat.le_trans (h.2 x hx).2 hab⟩⟩
def SmA.app{a k:Nat}{l:List bp}(h:SmA a l)(hne:l≠[])(s:List UInt8)(hs:s.length<=k):SmA (a+k) (qrh l s):=by
 rcases List.eq_nil_or_concat l with rfl|⟨t,x,rfl⟩
 ·exact absurd rfl hne
 ·rw[List.concat_eq_append]at *;rw[zmh];refine⟨by have:=h.1;simp only[qM,qL,qZ]at this ⊢;omega,fun y hy => ?_⟩
  rcases List.mem_append.1 hy with hy|hy
  ·have:=h.2 y (List.mem_append_left _ hy);omega
  ·have:=h.2 x oC
   rw[List.mem_singleton.1 hy];simp only[qM];omega



def bu(l:List bp)(n:List UInt8):List (List UInt8):=(l.filter fun x=>x.1.map lo==n.map lo).map (·.2)
def y9(x:bp)(l:List bp)(n:List UInt8):bu (x::l) n=if(x.1.map lo==n.map lo)=true then x.2::bu l n else bu l n:=by
 unfold bu;rw[List.filter_cons];split<;>rfl
def zzd(fu n:Nat)(hfu:90000000<=fu)(nm:List UInt8)(hn:nm.length<=1000):∀(ab aa:List bp)(out:List (List UInt8)),aa.length<n->ab.length+aa.length<100000000->l9 aa->out.length+aa.length<1000000000 ->
  qdf fu n (ab++aa) nm (ab.length:Int) out=some (out++bu aa nm):=by
 induction n with
 |zero=>intro ab aa out h;omega|succ n ih=>
  intro ab aa out h hb hs hk;rw[qdf,qwn]
  cases aa with
  |nil=>rw[ao];simp[bu]|cons x aa=>
   simp only[qL]at h hb hk;obtain⟨q1,q2⟩:=hs.2 x qH;have next:∀out':List (List UInt8),out'.length<=out.length+1->qdf fu n (ab++x::aa) nm (ae ((ab.length:Int)+1)) out'=some (out'++bu aa nm):=by
    intro out' hj;have:=ih (ab++[x]) aa out' oA oB hs.tail oA
    rw[aq _]
    simpa using this
   rw[ql4,qL,ag,a7,qB,qrc fu _ _ oA oA oN oN,qB,y9]
   cases hc:x.1.map lo==nm.map lo
   ·rw[au (by rfl),qW oE]
    exact next out oA
   ·rw[ar,qX rfl,qB,ag oL,next _ oC]
    simp
def q5x(fu:Nat)(hfu:90000000<=fu)(l:List bp)(nm:List UInt8)(hn:nm.length<=1000)(hs:l9 l):qii fu l nm=some (bu l nm):=by
 have h1:=hs.1;have:=zzd fu fu hfu nm hn [] l [] oA oB hs oB
 exact this
def zt7(f:Bs->Bs->Option Pc):∀(n:Nat)(acc:List Pc)(s:Bs)(l:List Pc),dm f n acc s=some l->∃t,l=acc++t:=by
 intro n
 induction n with
 |zero=>intro acc s l h;cases h
 |succ n ih=>
  intro acc s l h;rw[dm]at h
  cases ht:bc s with
  |nil=>rw[ht]at h;cases h;exact⟨[],oC⟩
  |cons c t=>
   rw[ht]at h;simp only at h;by_cases hc:c=59
   ·rw[qX hc]at h
    cases hx:qt t with
    |none=>rw[hx]at h;cases h
    |some x=>
     rw[hx]at h;simp only at h
     cases hp:f x.1.1 x.1.2 with
     |none=>rw[hp]at h;cases h
     |some p=>
      rw[hp]at h;simp only at h;obtain⟨u,e⟩:=ih _ _ _ h;exact⟨p::u,by rw[e];simp⟩
   ·rw[qW hc]at h;cases h
def ku(p:Pc):Prop:=p.2.1<1000000000
def zt6:∀(n:Nat)(acc:List Pc)(s:Bs),(∀p∈acc,ku p)->(∀l,dm f8 n acc s=some l->(∀p∈l,ku p)->dm ig n acc s=some l) /\
  (∀l,dm f8 n acc s=some l->(∃p∈l,¬ku p)->dm ig n acc s=none)/\(dm f8 n acc s=none->dm ig n acc s=none):=by
 intro n
 induction n with
 |zero=>intro acc s _;exact⟨fun l h=>(nomatch h),fun l h=>(nomatch h),fun _=>rfl⟩
 |succ n ih=>
  intro acc s ha;rw[dm,dm]
  cases ht:bc s with
  |nil=>exact⟨fun l h _=>h,fun l h hb=>(by cases h;obtain⟨p,hp,hq⟩:=hb;exact absurd (ha p hp) hq),fun h=>h⟩
  |cons c t=>
   simp only;by_cases hc:c=59
   ·rw[qX hc,qX hc]
    cases hx:qt t with
    |none=>exact⟨fun l h=>(nomatch h),fun l h=>(nomatch h),fun _=>rfl⟩
    |some x=>
     simp only;unfold ig
     cases hp:f8 x.1.1 x.1.2 with
     |none=>exact⟨fun l h=>(nomatch h),fun l h=>(nomatch h),fun _=>rfl⟩
     |some p=>
      simp only;by_cases hs:p.2.1<1000000000
      ·simp only[qX hs];exact ih (acc++[p]) x.2 (fun y hy=>(List.mem_append.1 hy).elim (ha y) (fun e=>by rw[List.mem_singleton.1 e];exact hs))
      ·simp only[qW hs];refine⟨fun l h hall => ?_,fun _ _ _=>by first|rfl|trivial,fun _=>by first|rfl|trivial⟩
       obtain⟨u,e⟩:=zt7 f8 n _ _ _ h;exact absurd (hall p (by rw[e];simp)) hs
   ·rw[qW hc,qW hc];exact⟨fun l h=>(nomatch h),fun l h=>(nomatch h),fun _=>rfl⟩
def zt8:∀(n:Nat)(acc:List Pc)(s:Bs)(l:List Pc),dm f8 n acc s=some l->c7 l<=c7 acc+s.length/\((∀p∈acc,nb p)->∀p∈l,nb p):=by
 intro n
 induction n with
 |zero=>intro acc s l h;cases h
 |succ n ih=>
  intro acc s l h;have hl:=mo s;rw[dm]at h
  cases ht:bc s with
  |nil=>rw[ht]at h;cases h;exact⟨Nat.le_add_right _ _,fun h=>h⟩
  |cons c t=>
   rw[ht]at h hl;simp only[qL]at h hl;by_cases hc:c=59
   ·rw[qX hc]at h
    cases hx:qt t with
    |none=>rw[hx]at h;cases h
    |some x=>
     rw[hx]at h;simp only at h;have hxl:=(q3d (n:=x.1.1) (v:=x.1.2) (t:=x.2) hx).1
     cases hp:f8 x.1.1 x.1.2 with
     |none=>rw[hp]at h;cases h
     |some p=>
      rw[hp]at h;simp only at h;obtain⟨g1,g2,g3,g4,_⟩:=zem hp;obtain⟨e1,e2⟩:=ih _ _ _ h;rw[zgx,g2]at e1;exact⟨oA,fun hh=>e2 (fun y hy=>(List.mem_append.1 hy).elim (hh y) (fun e=>by rw[List.mem_singleton.1 e];exact⟨g3,g4⟩))⟩
   ·rw[qW hc]at h;cases h
def zd1:∀(q:List Pc)(k:Int),oc q k->∀x∈q,x.2.1<k+q.length
 |[],_,_,_,h=>by cases h
 |p::r,k,h,x,hx=>by
  simp only[qL];rcases List.mem_cons.1 hx with e|e
  ·subst e;have:=h.1;omega
  ·have:=zd1 r _ h.2 x e;omega
def zda{a b c:Bs}(h1:lk a b=true)(h2:lk b c=true):lk a c=true:=by
 unfold lk at *;simp only[beq_iff_eq]at *;rw[h1,h2]
def zso(l:List Pc){a b:Bs}(h:lk a b=true):cu a l=cu b l:=by
 unfold cu;congr 1;funext x;rw[Bool.eq_iff_iff];exact⟨fun g=>zda g h,fun g=>zda g (by rw[q3e];exact h)⟩
def zte(l:List Pc):∀(aa ab:List Pc)(out:List ck),l=ab++aa->(f7 ab aa out).1=true->(∀x∈ab,th (cu x.1 l)≠none)->∀x∈l,th (cu x.1 l)≠none:=by
 intro aa
 induction aa with
 |nil=>intro ab out hl _ hp;rw[hl,List.append_nil];rw[hl,List.append_nil]at hp;exact hp|cons p aa ih=>
  intro ab out hl h hp;rw[f7]at h;by_cases hany:ab.any (fun x=>lk x.1 p.1)=true
  ·rw[qX hany]at h;refine ih (ab++[p]) out (by rw[hl];simp) h (fun x hx => ?_)
   rcases List.mem_append.1 hx with g|g
   ·exact hp x g
   ·rw[List.mem_singleton.1 g];obtain⟨y,hy,hk⟩:=List.any_eq_true.1 hany;rw[← zso l hk];exact hp y hy
  ·rw[qW hany,← hl]at h
   cases hj:th (cu p.1 l) with
   |none=>rw[hj]at h;cases h
   |some v=>
    rw[hj]at h;refine ih (ab++[p]) _ (by rw[hl];simp) h (fun x hx => ?_)
    rcases List.mem_append.1 hx with g|g
    ·exact hp x g
    ·rw[List.mem_singleton.1 g,hj];simp
def zra(A:List Pc)(hn:∀x∈A,nb x)(hl:A.length<=300000)(h:th A≠none):∀x∈A,ku x:=by
 cases A with
 |nil=>intro x hx;cases hx
 |cons p l=>
  rw[qs5]at h;by_cases h0:p.2.1<0
  ·rw[qX h0]at h;by_cases h1:l=[]
   ·subst h1;intro x hx;rw[List.mem_singleton.1 hx];unfold ku;omega
   ·rw[qW h1]at h;exact absurd rfl h
  ·rw[qW h0]at h;obtain⟨_,h2,_⟩:=q48 (p::l) hn
   have hnum:oc (ij (p::l)) 0:=by
    by_cases hq:oc (ij (p::l)) 0
    ·exact hq
    ·rw[zdb _ _ _ hq]at h;exact absurd rfl h
   intro x hx;have:=zd1 _ 0 hnum x (h2.mem_iff.2 hx);rw[h2.length_eq]at this;unfold ku;omega
def ztf(l:List Pc)(hn:∀x∈l,nb x)(hl:l.length<=300000)(hb:∃p∈l,¬ku p):(f7 [] l []).1=false:=by
 cases h:(f7 [] l []).1
 ·rfl
 ·obtain⟨p,hp,hq⟩:=hb;have:=zte l l [] [] rfl h oC p hp
  refine absurd (zra (cu p.1 l) (fun x hx=>hn x (List.mem_filter.1 hx).1) ?_ this p (List.mem_filter.2 ⟨hp,q3f _⟩)) hq
  have:=List.length_filter_le (fun x:Pc=>lk x.1 p.1) l
  unfold cu;omega
def vi(s:Bs):Option ef:=match pd f8 s with|none=>none|some m=>if(f7 [] m.2.2 []).1=true then some (m.1,(m.2.1,(f7 [] m.2.2 []).2)) else none
def zeh{f:Bs->Bs->Option Pc}{s:Bs}{m:Bs×Bs×List Pc}(h:pd f s=some m):∃c,dm f (s.length+1) [] c=some m.2.2/\c.length+m.1.length+m.2.1.length<=s.length:=by
 have l1:=qb9 tk s;have l2:=qf7 47 (bz tk s).2;have l3:=qb9 tk (di 47 (bz tk s).2).2;unfold pd at h;simp only at h;split at h
 ·cases h
 ·cases hp:dm f (s.length+1) [] (bz tk (di 47 (bz tk s).2).2).2 with
  |none=>rw[hp]at h;cases h
  |some l=>
   rw[hp]at h;cases h;exact⟨_,hp,oM⟩
def zei{s:Bs}{m:Bs×Bs×List Pc}(h:pd f8 s=some m):c7 m.2.2<=s.length/\∀p∈m.2.2,nb p:=by
 obtain⟨c,h1,h2⟩:=zeh h;obtain⟨g1,g2⟩:=zt8 _ _ _ _ h1;exact⟨by simp[c7]at g1 ⊢;omega,g2 oC⟩
def ztg(l:List Pc)(hz:c7 l<=300000):∀(aa ab:List Pc)(out:List ck),l=ab++aa->out.length<=ab.length->(∀x∈out,x.1.length<=4000000/\x.2.length<=4000000)->la (f7 ab aa out).2:=by
 have hll:=oh l;intro aa
 induction aa with
 |nil=>intro ab out hl ho hs;rw[hl]at hll;simp at hll;exact⟨by rw[f7];simp only;rw[hl]at hz;simp at hz;omega,hs⟩|cons p aa ih=>
  intro ab out hl ho hs;rw[f7];have hpl:=qga (show p∈l by rw[hl];simp)
  split
  ·exact ih (ab++[p]) out (by rw[hl];simp) oB hs
  ·rw[← hl]
   cases hj:th (cu p.1 l) with
   |none=>exact⟨oC,oC⟩|some v=>
    refine ih (ab++[p]) _ (by rw[hl];simp) oB (fun x hx => ?_)
    rcases List.mem_append.1 hx with g|g
    ·exact hs x g
    ·rw[List.mem_singleton.1 g];refine⟨oM,?_⟩
     simp only;have hzf:=q5h (fun x=>lk x.1 p.1) l
     have hN:cu p.1 l=l.filter fun x=>lk x.1 p.1:=rfl
     rw[hN]at hj;generalize l.filter (fun x=>lk x.1 p.1)=A at hj hzf
     cases A with
     |nil=>cases hj
     |cons a A=>
      rw[qs5]at hj;split at hj
      ·split at hj
       ·cases hj
        have:=qga (qH (a:=a) (l:=A));omega
       ·cases hj
      ·cases hL:mn (ij (a::A)) 0 [] with
       |none=>rw[hL]at hj;cases hj
       |some w=>
        rw[hL]at hj;cases hj;have:=zzh w.length false w;have hw:w.length<=c7 (ij (a::A)):=by
         have hnum:=q3l _ _ _ _ hL;rw[q3m _ _ _ hnum]at hL;cases hL
         generalize ij (a::A)=q;clear hnum
         induction q with
         |nil=>simp|cons y q ih2=>
          have:=qmz y;simp only[List.nil_append]at ih2 ⊢;rw[List.flatMap_cons,qM,qb8];omega
        have hq:c7 (ij (a::A))<=c7 (a::A):=by
         unfold ij
         cases ht:rl (a::A) with
         |none=>simp[c7]|some q=>
          have h1:=(zgm q).1.map (·.1);simp only;rw[q5i h1]
          have e:q.map (·.1)=a::A:=by
           clear h1 hL hzf hw this;generalize a::A=B at ht
           induction B generalizing q with
           |nil=>cases ht;rfl
           |cons b B ih3=>
            rw[rl]at ht;split at ht
            ·cases hB:rl B with
             |none=>rw[hB]at ht;cases ht
             |some r=>rw[hB]at ht;cases ht;simp[ih3 r hB]
            ·cases ht
          rw[e];exact wF _
        show(vu [239,191,189] w.length false w).length<=4000000;omega
def q3q{s:Bs}{m:ef}(h:vi s=some m)(hs:s.length<=300000:=by omega):ur m:=by
 unfold vi at h
 cases hp:pd f8 s with
 |none=>rw[hp]at h;cases h
 |some x=>
  rw[hp]at h;simp only at h;split at h
  ·cases h
   obtain⟨c,_,h2⟩:=zeh hp;obtain⟨h3,_⟩:=zei hp;exact⟨oM,oM,ztg x.2.2 oA x.2.2 [] [] rfl oC oC⟩
  ·cases h
def zsi(fu:Nat)(hfu:90000000<=fu)(s:Bs)(h:s.length<=300000:=by omega):qhv fu s=some (match vi s with|some m=>(m,true)|none=>bad):=by
 rw[zv8 fu hfu s h];unfold vi;have hR:=fun c=>zt6 (s.length+1) [] c oC
 unfold pd;simp only;by_cases hc:(bz tk s).1=[]\/(di 47 (bz tk s).2).1=false\/(bz tk (di 47 (bz tk s).2).2).1=[]
 ·rw[qX hc,qX hc]
 ·rw[qW hc,qW hc];obtain⟨r1,r2,r3⟩:=hR (bz tk (di 47 (bz tk s).2).2).2
  cases hp:dm f8 (s.length+1) [] (bz tk (di 47 (bz tk s).2).2).2 with
  |none=>rw[r3 hp];rfl|some l=>
   simp only[wQ];have hsz:c7 l<=s.length/\∀p∈l,nb p:=zei (s:=s) (m:=((bz tk s).1,(bz tk (di 47 (bz tk s).2).2).1,l)) (by unfold pd;simp only;rw[qW hc,hp];rfl)
   have hll:=oh l;by_cases hall:∀p∈l,ku p
   ·rw[r1 l hp hall];simp only[wQ];have:=zv3 fu hfu l oA hsz.2 [] [] (bz tk s).1 (bz tk (di 47 (bz tk s).2).2).1 fu [] l [] rfl oA oC
    rw[show(([]:List Pc).length:Int)=0 from rfl]at this
    rw[this];cases (f7 [] l []).1<;>rfl
   ·have hb:∃p∈l,¬ku p:=by
     apply Classical.byContradiction;intro hq;exact hall (fun p hp2=>Classical.byContradiction fun hq2=>hq ⟨p,hp2,hq2⟩)
    rw[r2 l hp hb,ztf l hsz.2 oA hb];rfl
def vl(s:Bs):Option ef:=if 4000<s.length then none else match vi s with|none=>none|some m=>if(ib m).1≠0 then none else some m
def zr6(fu:Nat)(hfu:90000000<=fu)(s:Bs)(h:s.length<=4000000):∃R,qdz fu s=some R/\match vl s with
  |some m=>R = .inr (m.1,(m.2.1,(0,(0,m.2.2))))|none=>∃f:Int×Int,R = .inl ([],([],f))/\f.1≠0:=by
 unfold qdz vl;by_cases h4:4000<s.length
 ·rw[ag,qX h4];exact⟨_,rfl,_,rfl,oE⟩
 rw[ao,qW h4]
 obtain⟨R,g1,g2⟩:=zsf fu hfu (fun l=>f7 [] l []) (fun l hl hn=>ztc fu hfu l hl hn) s
 rw[g1,qB];have hfail:qbj R->∃R',(be R (fun a3=>bif !a3.2.2 then(cn (11:Int) (-5:Int)).bind fun x5=>some (.inl (([]:Bs),(([]:Bs),x5))) else(uo fu (a3.1,(a3.2.1,[]))).bind fun x6=>(fv x6).bind fun x7=>bif x7 then(cn x6.1 (-6:Int)).bind fun x8=>some (.inl (([]:Bs),(([]:Bs),x8))) else(dx).bind fun x9=>some (.inl (a3.1,(a3.2.1,x9)))) (fun b4=>bif !b4.2.2.1 then(cn (11:Int) (-5:Int)).bind fun x10=>some (.inl (([]:Bs),(([]:Bs),x10))) else(uo fu (b4.1,(b4.2.1,b4.2.2.2))).bind fun x11=>(fv x11).bind fun x12=>bif x12 then(cn x11.1 (-6:Int)).bind fun t7=>some (.inl (([]:Bs),(([]:Bs),t7))) else(dx).bind fun x14=>some (.inr (b4.1,(b4.2.1,(x14.1,(x14.2,b4.2.2.2)))))):Option q86)=some R'/\∃f:Int×Int,R' = .inl ([],([],f))/\f.1≠0:=by
  intro hf
  cases R with|inl x=>unfold qbj at hf;simp only at hf;simp only[be,hf];exact⟨_,rfl,_,rfl,oE⟩|inr x=>unfold qbj at hf;simp only at hf;simp only[be,hf];exact⟨_,rfl,_,rfl,oE⟩
 unfold vi
 cases hp:pd f8 s with
 |none=>rw[hp]at g2;exact hfail g2|some m=>
  rw[hp]at g2;simp only at g2 ⊢;by_cases ht:(f7 [] m.2.2 []).1=true
  ·rw[qX ht]at g2;subst g2;have hsz:=q3q (s:=s) (m:=(m.1,(m.2.1,(f7 [] m.2.2 []).2))) (by unfold vi;rw[hp];simp only;rw[qX ht]) oA
   simp only[be,qX ht];rw[bt,q3t fu hfu _ hsz,qB,xp,qB,ip];by_cases h0:(ib (m.1,(m.2.1,(f7 [] m.2.2 []).2))).1≠0
   ·rw[qX h0,qX h0];exact⟨_,rfl,_,rfl,h0⟩
   ·rw[qW h0,qW h0];exact⟨_,rfl,rfl⟩
  ·rw[qW ht]at g2 ⊢;exact hfail g2
def zen{s:Bs}{m:ef}(h:vl s=some m):ur m/\(ib m).1=0:=by
 unfold vl at h;split at h
 ·cases h
 ·rename_i h4
  cases hm:vi s with
  |none=>rw[hm]at h;cases h
  |some x=>
   rw[hm]at h;simp only at h;split at h
   ·cases h
   ·rename_i h0;cases h
    exact⟨q3q hm,Classical.byContradiction h0⟩
open Go.Lib (decDigits itoa validD)
def dgH(c:UInt8):UInt8:=(pt (v7 c (min (4:Int).toNat 8))).getD 0
def dgL(c:UInt8):UInt8:=(pt c).getD 0
def zoq:∀n:_root_.Fin 256,pt (v7 (UInt8.ofNat n.val) (min (4:Int).toNat 8))=some (dgH (UInt8.ofNat n.val))/\pt (UInt8.ofNat n.val)=some (dgL (UInt8.ofNat n.val)):=by decide +kernel
def two(c:UInt8):Bs:=[dgH c,dgL c]
def q5r(c:UInt8):(two c).length=2:=rfl
def zor(c:UInt8):pt (v7 c (min (4:Int).toNat 8))=some (dgH c)/\pt c=some (dgL c)/\[dgH c,dgL c]=two c:=
 have h:=iq (fun c=>pt (v7 c (min (4:Int).toNat 8))=some (dgH c)/\pt c=some (dgL c)) zoq c
 ⟨h.1,h.2,rfl⟩
def que:∀n:_root_.Fin 256,rx (UInt8.ofNat n.val)=some (two (UInt8.ofNat n.val)):=by decide +kernel
def zhf(c:UInt8):rx c=some (two c):=iq (fun c=>rx c=some (two c)) que c
def jo(c:UInt8):Bs:=if tk c=true then[c] else 37::two c
def q5w(c:UInt8):1<=(jo c).length/\(jo c).length<=3:=by
 unfold jo;split
 ·simp
 ·rw[qL,q5r];omega
def gu(cur:Bs):Bs->List Bs|[]=>[cur]|c::t=>if cur.length+(jo c).length<=60 then gu (cur++jo c) t else cur::gu (jo c) t
def qtl:∀(t cur:Bs),(gu cur t).length<=t.length+1/\1<=(gu cur t).length
 |[],_=>by simp[gu]|c::t,cur=>by
  rw[gu];split
  ·have:=qtl t (cur++jo c);simp only[qL];omega
  ·have:=qtl t (jo c);simp only[qL];omega
def qtm:∀(t cur:Bs),cur.length<=60->∀x∈gu cur t,x.length<=60
 |[],cur,h,x,hx=>by rw[gu,List.mem_singleton]at hx;rw[hx];exact h|c::t,cur,h,x,hx=>by
  have hu:=q5w c;rw[gu]at hx;split at hx
  ·exact qtm t _ oP x hx
  ·rcases List.mem_cons.1 hx with e|e
   ·rw[e];exact h
   ·exact qtm t _ oA x e
def mt(nm:Bs):Nat->List Bs->Bs|_,[]=>[]|n,p::ps=>(((((([59,32]:Bs)++nm)++([42]:Bs))++decDigits n)++([42,61]:Bs))++p)++mt nm (n+1) ps
def zd3(nm:Bs)(hn:nm.length<=1000):∀(ps:List Bs)(n:Nat),n+ps.length<=100000000->(∀x∈ps,x.length<=60)->(mt nm n ps).length<=ps.length*1200
 |[],_,_,_=>by simp[mt]|p::ps,n,h,hs=>by
  simp only[qL]at h;have h1:=zd3 nm hn ps (n+1) oA (fun x hx=>hs x (qE _ hx))
  have h2:=hs p qH;have h3:=qlj 9 n oA oA
  rw[mt];simp only[qM,qL,qZ];omega
def ztr(fu n:Nat):∀(ab aa cur:Bs)(done:List Bs),aa.length<n->ab.length+aa.length<1000000->done.length<=ab.length->cur.length<=60 ->
  qd6 fu n (ab++aa) ((ab.length+aa.length:Nat):Int) (ab.length:Int) (done++[cur])=some (done++gu cur aa):=by
 have hrm:=og
 induction n with
 |zero=>intro ab aa cur done h;omega|succ n ih=>
  intro ab aa cur done h hb hd hc;rw[qd6,qyx]
  cases aa with
  |nil=>rw[ao];rfl|cons c t=>
   simp only[qL]at h hb;have hu:=q5w c;have e:(ab.length+(c::t).length:Nat)=ab.length+1+t.length:=by simp only[qL];omega
   have p1:qj0 fu (qd6 fu n) (ab++c::t) (jo c) ((ab.length+(c::t).length:Nat):Int) (ab.length:Int) (done++[cur])=some (done++gu cur (c::t)):=by
    have hl:(((done++[cur]).length:Nat):Int)-1=(done.length:Int):=oC
    rw[qj0,hl,bq,ag,xu,qB,g7 _ _,gu,aq _,e]
    have st:=fun cur' done'(h1:done'.length<=ab.length+1)(h2:cur'.length<=60)=>ih (ab++[c]) t cur' done' oA oB (by simpa using h1) h2
    simp only[qM,qL,qZ,qS,wM,wO]at st;by_cases h60:cur.length+(jo c).length<=60
    ·rw[ag,qX h60,ag,qB,ag oO,ag,qB,qmt]
     exact st (cur++jo c) done oA oP
    ·rw[ao,qW h60,ag oH]
     have:=st (jo c) (done++[cur]) oB oA
     refine this.trans ?_;simp
   rw[ag oG,aq _,ag oJ,a7,qB,qm0,qB,qmu]
   rw[jo]at p1;obtain⟨d1,d2,d3⟩:=zor c;cases hk:tk c
   ·rw[da,qB,d1,qB,qB,d2,qB];rw[hk,qW oC,← d3]at p1
    exact p1
   ·rw[bt];rw[hk,qX rfl]at p1;exact p1
def qy:Bs:=[117,116,102,56,39,39]
def zsg(fu:Nat)(hfu:90000000<=fu)(v:Bs)(h:v.length<=500000:=by omega):qpq fu v=some (gu qy v):=by
 have:=ztr fu fu [] v qy [] oA oB oC oE
 simpa [qpq,qy] using this
def gv(c:UInt8):Bool:=decide (32<=c)&&decide (c<=126)
def zt4(c:UInt8):qjt c=some (gv c):=by unfold qjt gv;by_cases h:(32:UInt8)<=c<;>simp[h]
def zl7(fu:Nat)(s:Bs)(h:s.length<fu:=by omega)(hb:s.length<9223372036854775807:=by omega):qo1 fu s=some (s.all gv):=by
 have e:∀n,qjc fu n=qa6 qjt n:=by
  intro n;induction n with|zero=>rfl|succ n ih=>rw[qjc,ih];funext a b c;rfl
 unfold qo1;rw[e];exact q00 _ _ zt4 _ _ h hb
def quo(s:Bs):Bs:=e7 92 34 [92,92] [92,34] s
def q4n(s:Bs):(quo s).length<=2*s.length:=by
 unfold quo;rw[qsf oE]
 have h1:=List.count_le_length (a:=(92:UInt8)) (l:=s);unfold js;have:List.count 92 s+List.count 34 s<=s.length:=by
  induction s with
  |nil=>simp|cons c s ih=>
   have h1:=List.count_le_length (a:=(92:UInt8)) (l:=s);have:=ih h1;simp only[List.count_cons,qL];by_cases e:c=92
   ·subst e;simp;omega
   ·have:(c==92)=false:=by simpa using e
    rw[this];simp only[wJ,if_false];split<;>omega
 omega
def mw(p:ck):Bs:=if fk p.2=true then((([59,32]:Bs)++p.1)++([61]:Bs))++p.2
 else if p.2.length<=60/\p.2.all gv=true then((((([59,32]:Bs)++p.1)++([61,34]:Bs))++quo p.2)++([34]:Bs))
 else mt p.1 0 (gu qy p.2)
def zta(fu n:Nat)(z:ck)(hz:z.1.length<=1000):∀(ab aa:List Bs)(out:Bs),aa.length<n->ab.length+aa.length<1000000->out.length<=ab.length*1200->(∀x∈aa,x.length<=60) ->
  qju fu n out ((ab.length+aa.length:Nat):Int) (ab.length:Int) z (ab++aa)=some (out++mt z.1 ab.length aa):=by
 induction n with
 |zero=>intro ab aa out h;omega|succ n ih=>
  intro ab aa out h hb ho hs;rw[qju,qyq]
  cases aa with
  |nil=>rw[ao];simp[mt]|cons p t=>
   simp only[qL]at h hb;have hp:=hs p qH;have hd:=qlj 9 ab.length oA oA
   rw[ag oG,ag,xu,qB,ag oF,ag oF]
   have hi:qau (ab.length:Int)=some (decDigits ab.length):=by unfold qau;rw[ag,q26]
   rw[hi,qB,ag oF,ag oF,ag oF,ag oF,aq _]
   have st:=ih (ab++[p]) t (out++((((((([59,32]:Bs)++z.1)++([42]:Bs))++decDigits ab.length)++([42,61]:Bs))++p))) oA oB oH (fun x hx=>hs x (qE _ hx))
   simp only[qM,qL,qZ,wO]at st;rw[show(ab.length+(p::t).length:Nat)=ab.length+1+t.length by simp only[qL];omega]
   rw[show(ab++[p])++t=ab++p::t by simp]at st
   refine st.trans ?_;rw[mt,qS]
def ztb(fu:Nat)(hfu:90000000<=fu)(p:ck)(h1:p.1.length<=1000)(h2:p.2.length<=100000):qpn fu p=some (mw p):=by
 unfold qpn mw;rw[quc fu _,qB]
 cases ht:fk p.2
 ·rw[au rfl,qW oC]
  have hno:qd2 fu false p=some (mt p.1 0 (gu qy p.2)):=by
   rw[qd2,au rfl,qyr,zsg fu hfu _,qB]
   have hl:=qtl p.2 qy;have:=zta fu fu p h1 [] (gu qy p.2) [] oA oB oC (qtm _ _ oE)
   simpa using this
  by_cases h60:p.2.length<=60
  ·rw[ag,zl7 fu _,qB]
   cases ha:p.2.all gv
   ·rw[hno,qW oC]
   ·rw[qX ⟨h60,rfl⟩,qd2,ar rfl,ag oF,ag oF]
    have hq:=q4n p.2;rw[show qzv ([([92]:Bs),([92,92]:Bs),([34]:Bs),([92,34]:Bs)]:List Bs)=some (0,0,0,[[92],[92,92],[34],[92,34]]) by rfl,qB]
    have hr:w9 p.2 0 0 0 [[92],[92,92],[34],[92,34]]=some (quo p.2):=by
     unfold w9 quo;simp only;rw[ag (by refine⟨?_,?_,oE,oA⟩<;>first|rfl|trivial)]
    rw[hr,qB,ag oF,ag oF]
  ·rw[ao,hno,qW oA]
 ·rw[ar rfl,qX rfl,ag oF,ag oF,ag oF]
def zet(p:ck)(h1:p.1.length<=1000)(h2:p.2.length<=100000):(mw p).length<=200000000:=by
 have hq:=q4n p.2;have hl:=qtl p.2 qy;have hn:=zd3 p.1 h1 (gu qy p.2) 0 oA (qtm _ _ oE)
 unfold mw;split
 ·simp;omega
 ·split
  ·simp;omega
  ·omega
def pb(m:ef):Bs:=((m.1++([47]:Bs))++m.2.1)++m.2.2.flatMap mw
def SmV(m:ef):Prop:=m.1.length<=1000/\m.2.1.length<=1000/\m.2.2.length<=1000/\∀p∈m.2.2,p.1.length<=1000/\p.2.length<=100000
def zg8{s:Bs}(h:fk s=true):s.length<=60:=by unfold fk at h;simp at h;exact h.1.2
def zeg:∀(l ab:List ck),(tn ab l).1=0->∀p∈l,fk p.1=true/\p.1.length<=20/\p.2.length<=500/\validD p.2=true
 |[],_,_,p,hp=>by cases hp
 |q::l,ab,h,p,hp=>by
  rw[tn]at h;split at h
  ·cases h
  ·split at h
   ·cases h
   ·split at h
    ·cases h
    ·split at h
     ·cases h
     ·rename_i g1 g2 g3 g4;rcases List.mem_cons.1 hp with e|e
      ·subst e;refine⟨?_,oA,oA,?_⟩
       ·cases hh:fk p.1
        ·exact absurd (.inl hh) g1
        ·rfl
       ·cases hh:validD p.2
        ·exact absurd hh g4
        ·rfl
      ·exact zeg l _ h p e
def zr7{m:ef}(h:(ib m).1=0):fk m.1=true/\fk m.2.1=true/\m.2.2.length<=60/\∀p∈m.2.2,fk p.1=true/\p.1.length<=20/\p.2.length<=500/\validD p.2=true:=by
 unfold ib at h;split at h
 ·cases h
 ·split at h
  ·cases h
  ·rename_i g1 g2;refine⟨?_,?_,oA,zeg _ _ h⟩
   ·cases hh:fk m.1
    ·exact absurd (.inl hh) g1
    ·rfl
   ·cases hh:fk m.2.1
    ·exact absurd (.inr hh) g1
    ·rfl
def ql8{m:ef}(h:(ib m).1=0):SmV m:=by
 obtain⟨h1,h2,h3,h4⟩:=zr7 h;have:=zg8 h1;have:=zg8 h2;exact⟨oA,oA,oA,fun p hp=>by have:=h4 p hp;omega⟩
def SmV.smD{m:ef}(h:SmV m):ur m:=⟨by have:=h.1;omega,by have:=h.2.1;omega,by have:=h.2.2.1;omega,fun x hx=>by have:=h.2.2.2 x hx;omega⟩
def zt3(fu n:Nat)(hfu:90000000<=fu)(z:Int×Int):∀(ab aa:List ck)(out:Bs),aa.length<n->ab.length+aa.length<=1000->(∀p∈aa,p.1.length<=1000/\p.2.length<=100000)->out.length<=3000+ab.length*200000000 ->
  qjq fu n out (ab++aa) ((ab.length+aa.length:Nat):Int) (ab.length:Int) z=some (if 4000<(out++aa.flatMap mw).length then([],(1,-4)) else(out++aa.flatMap mw,(0,0))):=by
 induction n with
 |zero=>intro ab aa out h;omega|succ n ih=>
  intro ab aa out h hb hs ho;rw[qjq,qyl]
  cases aa with
  |nil=>
   rw[ao]
   simp only[List.flatMap_nil,List.append_nil];by_cases h4:4000<out.length
   ·rw[ag,qX h4,qx];rfl
   ·rw[ao,qW h4,zsc];rfl
  |cons p t=>
   simp only[qL]at h hb;have hp:=hs p qH;have hpl:=zet p hp.1 hp.2;rw[ag oG,a7,qB,ztb fu hfu p hp.1 hp.2,qB,ag oO,aq _]
   have st:=ih (ab++[p]) t (out++mw p) oA oB (fun x hx=>hs x (qE _ hx)) oB
   simp only[qM,qL,qZ,wO]at st;rw[show(ab++[p])++t=ab++p::t by simp]at st
   rw[show(ab.length+(p::t).length:Nat)=ab.length+1+t.length by simp only[qL];omega]
   refine st.trans ?_;simp only[List.flatMap_cons,qS,qM,Nat.add_assoc]
def zt2(fu:Nat)(hfu:90000000<=fu)(m:ef)(hs:ur m):qpm fu m=some (if(ib m).1≠0 then([],ib m) else if 4000<(pb m).length then([],(1,-4)) else(pb m,(0,0))):=by
 unfold qpm;rw[q3t fu hfu m hs,qB,xp,qB,ip];by_cases h:(ib m).1≠0
 ·rw[qX h,qX h]
 ·rw[qW h,qW h];obtain⟨g1,g2,g3,g4⟩:=ql8 (m:=m) oA
  rw[ag oF,ag oF]
  have:=zt3 fu fu hfu (0,0) [] m.2.2 ((m.1++([47]:Bs))++m.2.1) oA oB g4 oB
  simpa [pb] using this
def zuk(fu n:Nat):∀(ab aa out:Bs),aa.length<n->ab.length+aa.length<1000000->out.length<=1+2*ab.length ->
  zw fu n (ab++aa) out (ab.length:Int)=some ((out++quo aa)++[34]):=by
 induction n with
 |zero=>intro ab aa out h;omega|succ n ih=>
  intro ab aa out h hb ho;rw[zw,qwc]
  cases aa with
  |nil=>rw[ao,ag oF];simp[quo,e7]|cons c t=>
   simp only[qL]at h hb;have st:=fun o(ho:List.length o<=1+2*(ab.length+1))=>ih (ab++[c]) t o oA oB (by simpa using ho)
   simp only[qM,qL,qZ,qS,wM,wO]at st;have y:zx fu (zw fu n) (ab++c::t) out (ab.length:Int) true=some ((out++([92,c]++quo t))++[34]):=by
    rw[zx,ar rfl,ag oF,aq _,ag oJ,qmu,ag oF]
    refine(st (out++[92]++[c]) oB).trans ?_
    simp
   have nn:zx fu (zw fu n) (ab++c::t) out (ab.length:Int) false=some ((out++([c]++quo t))++[34]):=by
    rw[zx,au rfl,aq _,ag oJ,qmu,ag oF]
    refine(st (out++[c]) oB).trans ?_
    simp
   have hq:quo (c::t)=qf 92 34 [92,92] [92,34] c++quo t:=by unfold quo e7;rw[List.flatMap_cons]
   rw[ag oJ,a7,qB,ez,hq]
   unfold qf;by_cases h1:c=34
   ·subst h1;rw[qX rfl,y];rfl
   ·rw[qW h1,qB];by_cases h2:c=92
    ·subst h2;rw[show((92:UInt8)==92)=true from rfl,y];rfl
    ·rw[show(c==92)=false by simpa using h2,nn,qW h2,qW h1]
def zv7(fu:Nat)(hfu:90000000<=fu)(s:Bs)(h:s.length<=100000):qoc fu s=some (([34]++quo s)++[34]):=by
 have:=zuk fu fu [] s [34] oA oB oC
 simpa [qoc] using this
def zv5(fu n:Nat)(hfu:90000000<=fu)(z:ck)(hz:z.1.length<=1000):∀(ab aa cur out:Bs)(k:Nat),z.2=ab++aa->aa.length<n->z.2.length<=100000->k<=ab.length->cur.length<=60->out.length<=k*1200 ->
  qc9 fu n out cur (k:Int) (ab.length:Int) z=some (out++mt z.1 k (gu cur aa)):=by
 induction n with
 |zero=>intro ab aa cur out k _ h;omega|succ n ih=>
  intro ab aa cur out k hzz h hb hk hc ho;have ac:z.2.length=ab.length+aa.length:=by rw[hzz];simp
  have hd:=qlj 9 k oA oA
  rw[qc9,qwb]
  cases aa with
  |nil=>
   rw[ao (by simp only[qZ]at ac;omega),ag oF,ag oF,ag oF,q32 fu oA k,qB,ag oF,ag oF,ag oF]
   rw[gu,mt,mt];simp
  |cons c t=>
   simp only[qL]at h ac;have hu:=q5w c;have hx:ai z.2 (ab.length:Int)=some c:=by rw[hzz];exact a7 ab c t
   have st:=fun cur' out' k'(h1:k'<=ab.length+1)(h2:List.length cur'<=60)(h3:List.length out'<=k'*1200)=>ih (ab++[c]) t cur' out' k' (by rw[hzz];simp) oA hb (by simpa using h1) h2 h3
   simp only[qM,qL,qZ,wO]at st;have p3:qh8 fu (qc9 fu n) out cur (k:Int) (ab.length:Int) (jo c) z=some (out++mt z.1 k (gu cur (c::t))):=by
    rw[qh8,g7 _ _,gu]
    by_cases h60:cur.length+(jo c).length<=60
    ·rw[ao,qX h60,qh9,ag oO,qob,aq _]
     exact st (cur++jo c) out k oA oP ho
    ·rw[ag,qW h60,ag oF,ag oF,ag oF,q32 fu oA k,qB,ag oF,ag oF,ag oF,qh9,ag oF,qob,aq _,aq _,List.nil_append]
     refine(st (jo c) _ (k+1) oA oA oH).trans ?_
     rw[mt];simp
   rw[ag,hx,qB,zhf,qB,ag (by rw[q5r];simp[ap]),qB,q40 fu oA,qB]
   rw[jo]at p3;cases hk2:tk c
   ·rw[au rfl];rw[hk2,qW oC]at p3
    exact p3
   ·rw[ar rfl,aq _,ag]
    rw[hk2,qX rfl]at p3;have e:List.take (((ab.length+1:Nat):Int).toNat-((ab.length:Nat):Int).toNat) (List.drop ((ab.length:Nat):Int).toNat z.2)=[c]:=by rw[hzz];exact qmu ab c t
    rw[e];exact p3
def zv4(fu n:Nat)(hfu:90000000<=fu)(z:ck)(hz:z.1.length<=1000)(hb:z.2.length<=100000)(ht:fk z.2=false):∀(ab aa:Bs)(f:Bool),z.2=ab++aa->aa.length<n->f=(decide (z.2.length<=60)&&ab.all gv) ->
  qh6 fu n f (ab.length:Int) z=some (mw z):=by
 induction n with
 |zero=>intro ab aa f _ h;omega|succ n ih=>
  intro ab aa f hzz h hf;have ac:z.2.length=ab.length+aa.length:=by rw[hzz];simp
  rw[qh6,qwa]
  cases aa with
  |nil=>
   rw[List.append_nil]at hzz;rw[ao (by simp only[qZ]at ac;omega),hf]
   unfold mw;rw[ht,qW oC,← hzz]
   cases hc:(decide (z.2.length<=60)&&z.2.all gv)
   ·rw[au rfl,qW (by intro q;rw[q.2,decide_eq_true q.1]at hc;cases hc)]
    have:=zv5 fu fu hfu z hz [] z.2 qy [] 0 rfl oA hb oC oE oC
    simpa [qy] using this
   ·rw[qA,decide_eq_true_eq]at hc;have hq:=q4n z.2;rw[ar rfl,qX hc,ag oF,ag oF,zv7 fu hfu _ hb,qB,ag oF]
    simp
  |cons c t=>
   simp only[qL]at h ac;have hx:ai z.2 (ab.length:Int)=some c:=by rw[hzz];exact a7 ab c t
   have st:=fun f'(hf':f'=(decide (z.2.length<=60)&&(ab++[c]).all gv))=>ih (ab++[c]) t f' (by rw[hzz];simp) oA hf'
   simp only[qM,qL,qZ,wO]at st;have hp:(decide (32<=(c.toNat:Int)/\(c.toNat:Int)<=126))=gv c:=by
    unfold gv;rw[Bool.eq_iff_iff];simp only[decide_eq_true_eq,qA,UInt8.le_iff_toNat_le];show _↔32<=c.toNat/\c.toNat<=126;omega
   rw[ag]
   cases f
   ·rw[au rfl,qh7,aq _]
    exact st false (by
     rw[List.all_append];cases h1:decide (z.2.length<=60)
     ·rfl
     ·rw[h1,Bool.true_and]at hf;rw[← hf];rfl)
   ·rw[ar rfl,hx,qB,gw,hp,qB,qh7,aq _]
    exact st (gv c) (by
     rw[List.all_append,← Bool.and_assoc,← hf];simp)
def zv2(fu:Nat)(hfu:90000000<=fu)(p:ck)(h1:p.1.length<=1000)(h2:p.2.length<=100000):qoa fu p=some (mw p):=by
 unfold qoa;rw[qt4 fu oA _,qB]
 cases ht:fk p.2
 ·rw[au rfl];exact zv4 fu fu hfu p h1 h2 ht [] p.2 _ rfl oA oB
 ·rw[ar rfl,ag oF,ag oF,ag oF]
  unfold mw;rw[qX ht]
def zvq(fu n:Nat)(hfu:90000000<=fu)(m:ef)(hs:SmV m):∀(ab aa:List ck)(out:Bs),m.2.2=ab++aa->aa.length<n->out.length<=3000+ab.length*200000000 ->
  qh4 fu n out (ab.length:Int) m=some (out++aa.flatMap mw):=by
 induction n with
 |zero=>intro ab aa out _ h;omega|succ n ih=>
  intro ab aa out hm h ho;have hl:=hs.2.2.1;have ac:m.2.2.length=ab.length+aa.length:=by rw[hm];simp
  rw[qh4,qv8]
  cases aa with
  |nil=>rw[ao (by simp only[qZ]at ac;omega)];simp|cons p t=>
   simp only[qL]at h ac;have hp:=hs.2.2.2 p (by rw[hm];simp)
   have hpl:=zet p hp.1 hp.2;have hx:ai m.2.2 (ab.length:Int)=some p:=by rw[hm];exact a7 ab p t
   rw[ag,hx,qB,zv2 fu hfu p hp.1 hp.2,qB,ag oO,aq _]
   have st:=ih (ab++[p]) t (out++mw p) (by rw[hm];simp) oA oB
   simp only[qM,qL,qZ,wO]at st;refine st.trans ?_;rw[List.flatMap_cons,qS]
def zvr(fu:Nat)(hfu:90000000<=fu)(m:ef)(hs:SmV m):qn8 fu m=some (pb m):=by
 obtain⟨g1,g2,g3,g4⟩:=hs;unfold qn8;rw[ag oF,ag oF]
 have:=zvq fu fu hfu m ⟨g1,g2,g3,g4⟩ [] m.2.2 ((m.1++([47]:Bs))++m.2.1) rfl oA oB
 simpa [pb] using this
end Go.Sym
namespace Go.Sym
abbrev cr:Bs:=[67,111,110,116,101,110,116,45,84,121,112,101]
abbrev ctn:Bs:=[99,111,110,116,101,110,116,45,116,121,112,101]
abbrev mpN:Bs:=[109,117,108,116,105,112,97,114,116]
abbrev er:Bs:=[98,111,117,110,100,97,114,121]
def zhr(l:List bp):bu l ctn=bu l cr:=rfl
def gz(l:List bp):Option ef:=match bu l cr with|[v]=>vl v|_=>none
def tyP(fu:Nat)(k:Int)(v:Bs):Option q0d:=(qdz fu v).bind fun x4=>be x4 (fun a5=>(fv a5.2.2).bind fun x7=>some (.inl (a5.1,(a5.2.1,(k,!x7))))) (fun b6=>(fv (b6.2.2.1,b6.2.2.2.1)).bind fun x8=>some (.inr (b6.1,(b6.2.1,(k,(!x8,b6.2.2.2.2))))))
def zyv(fu:Nat)(hfu:90000000<=fu)(k:Int)(v:Bs)(h:v.length<=4000000):tyP fu k v=some (match vl v with|some m => .inr (m.1,(m.2.1,(k,(true,m.2.2))))|none => .inl ([],([],(k,false)))):=by
 unfold tyP;obtain⟨R,h1,h2⟩:=zr6 fu hfu v h;rw[h1,qB]
 cases hp:vl v with
 |none=>
  rw[hp]at h2;obtain⟨f,rfl,hf⟩:=h2;simp only[be,xp,qB];have:(f.1 != 0)=true:=by simpa using hf
  rw[this];rfl
 |some m=>rw[hp]at h2;simp only at h2;subst h2;rfl
section typ
variable(fu:Nat)(hfu:90000000<=fu)(l:List bp)(hs:∀x∈l,x.1.length<=4000000/\x.2.length<=4000000)(hl:l.length<=4000000)
include hfu hs hl
def zyx(k:Nat)(y:bp)(hy:ai l (k:Int)=some y)(n:Nat):∀(ab aa:List bp),l=ab++aa->aa.length<n ->
  w8 fu n l (k:Int) (ab++aa) ((ab.length+aa.length:Nat):Int) (ab.length:Int) [] []=if bu aa cr=[] then tyP fu (k:Int) y.2 else some (.inl ([],([],(0,false)))):=by
 induction n with
 |zero=>intro ab aa _ h;omega|succ n ih=>
  intro ab aa hp h;have ac:l.length=ab.length+aa.length:=by rw[hp];simp
  rw[w8,qpw]
  cases aa with
  |nil=>rw[ao,ao,hy,qB,show bu [] cr=[] from rfl,qX rfl];rfl|cons x t=>
   simp only[qL]at h ac;have hx:=hs x (by rw[hp];simp)
   have st:=ih (ab++[x]) t (by rw[hp];simp) oA
   simp only[qM,qL,qZ,qS,wM,wO]at st;rw[ag oG,a7,qB,kq fu hfu _ _ hx.1 oC,qB,y9]
   cases hk:lk x.1 cr
   ·rw[au rfl,qd8,aq _,qW (show ¬((x.1.map lo==cr.map lo)=true) by show ¬lk x.1 cr=true;rw[hk];simp),show(ab.length+(x::t).length:Nat)=ab.length+1+t.length by simp only[qL];omega]
    exact st
   ·rw[ar rfl,ag,qX (show(x.1.map lo==cr.map lo)=true from hk),qW oC]
def zyw(n:Nat):∀(ab aa:List bp),l=ab++aa->aa.length<n ->
  (bu aa cr=[]->w8 fu n l (-1) (ab++aa) ((ab.length+aa.length:Nat):Int) (ab.length:Int) [] []=some (.inl ([],([],(0,false))))) /\
  (∀u x w,aa=u++x::w->bu u cr=[]->lk x.1 cr=true->w8 fu n l (-1) (ab++aa) ((ab.length+aa.length:Nat):Int) (ab.length:Int) [] []=if bu w cr=[] then tyP fu ((ab.length+u.length:Nat):Int) x.2 else some (.inl ([],([],(0,false))))):=by
 induction n with
 |zero=>intro ab aa _ h;omega|succ n ih=>
  intro ab aa hp h;have ac:l.length=ab.length+aa.length:=by rw[hp];simp
  rw[w8,qpw]
  cases aa with
  |nil=>exact⟨fun _=>by rw[ao,ag],fun u x w e=>by simp at e⟩
  |cons y t=>
   simp only[qL]at h ac;have hy:=hs y (by rw[hp];simp)
   obtain⟨s1,s2⟩:=ih (ab++[y]) t (by rw[hp];simp) oA
   simp only[qM,qL,qZ,qS,wM,wO]at s1 s2;rw[ag oG,a7,qB,kq fu hfu _ _ hy.1 oC,qB,y9,show(ab.length+(y::t).length:Nat)=ab.length+1+t.length by simp only[qL];omega]
   cases hk:lk y.1 cr
   ·rw[au rfl,qd8,aq _,qW (show ¬((y.1.map lo==cr.map lo)=true) by show ¬lk y.1 cr=true;rw[hk];simp)]
    refine⟨s1,fun u x w e hu hx => ?_⟩
    cases u with
    |nil=>rw[List.nil_append,List.cons.injEq]at e;rw[e.1,hx]at hk;cases hk
    |cons z u=>
     rw[wK,List.cons.injEq]at e;obtain⟨rfl,e⟩:=e;rw[y9,qW (show ¬((y.1.map lo==cr.map lo)=true) by show ¬lk y.1 cr=true;rw[hk];simp)]at hu
     have:=s2 u x w e hu hx;rw[show(ab.length+(y::u).length:Nat)=ab.length+1+u.length by simp only[qL];omega]
     exact this
   ·rw[ar rfl,ao,qd8,aq _,qX (show(y.1.map lo==cr.map lo)=true from hk)]
    refine⟨fun e=>by simp at e,fun u x w e hu hx => ?_⟩
    cases u with
    |nil=>
     rw[List.nil_append,List.cons.injEq]at e;obtain⟨rfl,rfl⟩:=e;have:=zyx fu hfu l hs hl ab.length y (by rw[hp];exact a7 ab y t) n (ab++[y]) t (by rw[hp];simp) oA
     simp only[qM,qL,qZ,qS,wM,wO]at this;exact this
    |cons z u=>
     rw[wK,List.cons.injEq]at e;obtain⟨rfl,e⟩:=e;rw[y9,qX (show(y.1.map lo==cr.map lo)=true from hk)]at hu
     simp at hu
def q5u:∃R,qd7 fu l=some R/\match gz l with
  |some m=>∃ab x aa,l=ab++x::aa/\bu l cr=[x.2]/\lk x.1 cr=true/\bu ab cr=[]/\bu aa cr=[]/\R = .inr (m.1,(m.2.1,((ab.length:Int),(true,m.2.2))))|none=>∃k,R = .inl ([],([],(k,false))):=by
 obtain⟨h1,h2⟩:=zyw fu hfu l hs hl fu [] l rfl oA
 simp only[List.nil_append,qZ,wO]at h1 h2;unfold qd7;rw[show((0:Nat):Int)=0 from rfl]at h1 h2
 have hd:bu l cr=[]\/∃u x w,l=u++x::w/\bu u cr=[]/\lk x.1 cr=true:=by
  clear h1 h2 hs hl
  induction l with
  |nil=>exact .inl rfl|cons y t ih=>
   rw[y9];cases hk:lk y.1 cr
   ·rw[qW (show ¬((y.1.map lo==cr.map lo)=true) by show ¬lk y.1 cr=true;rw[hk];simp)]
    rcases ih with g|⟨u,x,w,e,g1,g2⟩
    ·exact .inl g
    ·exact .inr ⟨y::u,x,w,by rw[e];rfl,by rw[y9,qW (show ¬((y.1.map lo==cr.map lo)=true) by show ¬lk y.1 cr=true;rw[hk];simp)];exact g1,g2⟩
   ·exact .inr ⟨[],y,t,rfl,rfl,hk⟩
 have vapp:∀(u w:List bp)(x:bp),lk x.1 cr=true->bu (u++x::w) cr=bu u cr++x.2::bu w cr:=fun u w x hx=>by
  unfold bu;rw[List.filter_append,List.filter_cons,qX (show(x.1.map lo==cr.map lo)=true from hx),List.map_append];rfl
 rcases hd with g|⟨u,x,w,e,g1,g2⟩
 ·refine⟨_,h1 g,?_⟩;unfold gz;rw[g];exact⟨0,rfl⟩
 ·have hr:=h2 u x w e g1 g2;have hv:=vapp u w x g2;rw[← e,g1,List.nil_append]at hv;by_cases hw:bu w cr=[]
  ·rw[qX hw,zyv fu hfu _ _ (hs x (by rw[e];simp)).2]at hr
   refine⟨_,hr,?_⟩;rw[hw]at hv;unfold gz;rw[hv];simp only
   cases hp:vl x.2 with|none=>exact⟨_,rfl⟩|some m=>exact⟨u,x,w,e,rfl,g2,g1,hw,rfl⟩
  ·rw[qW hw]at hr;refine⟨_,hr,?_⟩;unfold gz;rw[hv]
   cases hh:bu w cr with|nil=>exact absurd hh hw|cons=>exact⟨0,rfl⟩
end typ
def quh{l:List bp}{m:ef}(h:gz l=some m):(ib m).1=0:=by
 unfold gz at h;split at h
 ·exact(zen h).2
 ·cases h
def qui(fu:Nat)(hfu:90000000<=fu)(l:List bp)(hs:l9 l):qab fu l=some (match gz l with|some m=>(m,true)|none=>(([],([],[])),false)):=by
 unfold qab;rw[q5x fu hfu l ctn oC hs,qB,zhr,ip]
 unfold gz
 cases hv:bu l cr with
 |nil=>rw[qX oC];rfl|cons v t=>
  cases t with
  |cons w t=>rw[qX oG];rfl|nil=>
   rw[qW oC,ag,show([v]:List Bs)[(0:Int).toNat]? = some v from rfl,qB,qot]
   simp only;unfold vl;by_cases h4:4000<v.length
   ·rw[ag,qX h4]
   ·rw[ao,qW h4,qxl,ag,show([v]:List Bs)[(0:Int).toNat]? = some v from rfl,qB,zsi fu hfu v,qB]
    cases hm:vi v with
    |none=>rfl|some m=>
     simp only;rw[bt,zvo fu hfu m (q3q hm),qB,ip]
     by_cases h0:(ib m).1≠0
     ·rw[qX h0,qX h0]
     ·rw[qW h0,qW h0]
def bOk(b:Bs):Bool := !b.isEmpty&&(decide (b.length<=60)&&(b.all gv && !(b.getLast? == some 32)))
def bnd(l:List bp):Option Bs:=match gz l with|some m=>if lk m.1 mpN=true/\(ce m.2.2 er).2=true/\bOk (ce m.2.2 er).1=true then some (ce m.2.2 er).1 else none|none=>none
def qtk(l:List ck)(nm:Bs)(M:Nat)(h:∀x∈l,x.2.length<=M):(ce l nm).1.length<=M:=by
 induction l with
 |nil=>simp[ce,par]|cons p l ih=>
  rw[q4b];split
  ·exact h p qH
  ·exact ih (fun x hx=>h x (qE _ hx))
def ztl(c:UInt8):qj9 c=some (gv c):=by unfold qj9 gv;by_cases h:(32:UInt8)<=c<;>simp[h]
def zl8(fu:Nat)(s:Bs)(h:s.length<fu:=by omega)(hb:s.length<9223372036854775807:=by omega):qo2 fu s=some (s.all gv):=by
 have e:∀n,qjd fu n=qa6 qj9 n:=by
  intro n;induction n with|zero=>rfl|succ n ih=>rw[qjd,ih];funext a b c;rfl
 unfold qo2;rw[e];exact q00 _ _ ztl _ _ h hb
def zp8(t:Bs)(hb:t.length<=4000000:=by omega):qqg t [32]=some (t.getLast? == some 32):=by
 unfold qqg qjo;rw[show(([32]:List UInt8).length:Int)=1 from rfl]
 rcases List.eq_nil_or_concat t with rfl|⟨u,c,rfl⟩
 ·rfl
 ·rw[List.concat_eq_append]at *;simp only[qM,qL,qZ]at hb;rw[ia,il _ oA,ag,ag,qB,List.getLast?_concat]
  have e:List.drop ((u.length:Nat):Int).toNat (u++[c])=[c]:=nv u [c];rw[e];congr 1;rw[Bool.eq_iff_iff];simp
def znl(fu:Nat)(hfu:90000000<=fu)(l:List bp)(hs:∀x∈l,x.1.length<=4000000/\x.2.length<=4000000)(hl:l.length<=4000000):∃R,qpx fu l=some R/\match bnd l with
  |some b=>R=(b,true)|none=>R.2=false:=by
 obtain⟨R,h1,h2⟩:=q5u fu hfu l hs hl;unfold qpx bnd;rw[h1,qB]
 cases ht:gz l with
 |none=>
  rw[ht]at h2;obtain⟨k,rfl⟩:=h2;exact⟨_,rfl,rfl⟩
 |some m=>
  rw[ht]at h2;obtain⟨ab,x,aa,e1,e2,e3,e4,e5,rfl⟩:=h2;have h0:=quh ht;have hv:=ql8 h0;simp only[be];rw[bt,kq fu hfu _ _ (by have:=hv.1;omega) oC,qB]
  cases hk:lk m.1 mpN
  ·rw[qan,da];exact⟨_,rfl,oC⟩
  ·have hbl:=qtk m.2.2 er 100000 (fun x hx=>(hv.2.2.2 x hx).2)
   rw[qan,bt,qy6,q3s fu hfu (m.1,(m.2.1,m.2.2)) er oC hv.smD,qB,qW (by simpa using h0)]
   simp only;generalize hb:(ce m.2.2 er).1=b at *;generalize hi:(ce m.2.2 er).2=i at *;unfold bOk
   cases b with
   |nil=>rw[show(!(([]:Bs)==[]))=false from rfl,au rfl];cases i<;>exact⟨_,rfl,oC⟩
   |cons c b=>
    rw[show(!((c::b:Bs)==[]))=true from rfl,ar rfl]
    by_cases h60:(c::b).length<=60
    ·rw[ag,zl8 fu _,qB]
     cases ha:(c::b).all gv
     ·rw[au rfl];cases i<;>exact⟨_,rfl,by simp[ha]⟩
     ·rw[ar rfl,zp8 _,qB]
      cases i
      ·exact⟨_,rfl,oC⟩
      ·rw[ar rfl];refine⟨_,rfl,?_⟩;cases hg:((c::b).getLast? == some 32)
       ·rw[qX ⟨by first|rfl|trivial,by first|rfl|trivial,by simp only[List.isEmpty_cons,Bool.not_false,Bool.true_and,Bool.and_true];exact decide_eq_true h60⟩];rfl
       ·rw[qW oC];rfl
    ·rw[ao]
     have hnot:¬(decide ((c::b).length<=60)=true):=by simpa using h60
     cases i
     ·exact⟨_,rfl,oC⟩
     ·refine⟨_,rfl,?_⟩;rw[qW (by
       rintro⟨_,_,g⟩
       rw[qA,qA]at g;exact hnot g.2.1)]
def zmg(fu n:Nat)(i:Bool):∀(ab aa:Bs),aa.length<n->ab.length+aa.length<1000000 ->
  ∃R,qis fu n (ab++aa) i (ab.length:Int)=some R/\(if aa.all gv=true/\i=true/\(1<=(ab++aa).length/\(ab++aa).length<=60)/\(ab++aa).getLast? ≠ some 32 then R=(ab++aa,true) else R.2=false):=by
 induction n with
 |zero=>intro ab aa h;omega|succ n ih=>
  intro ab aa h hb;rw[qis,qwy]
  cases aa with
  |nil=>
   rw[ao,List.append_nil]
   cases i
   ·exact⟨_,rfl,by rw[qW oC]⟩
   ·rw[ar rfl,gw,qB];by_cases h60:1<=ab.length/\ab.length<=60
    ·rw[ag]
     rcases List.eq_nil_or_concat ab with rfl|⟨u,c,rfl⟩
     ·simp at h60
     ·rw[List.concat_eq_append]at *;simp only[qM,qL,qZ]at hb;rw[ia,il _ oA,tg,qB]
      refine⟨_,rfl,?_⟩;rw[List.getLast?_concat];by_cases hc:c=32
      ·rw[qW (by simp[hc])];simp[hc]
      ·rw[qX ⟨rfl,rfl,h60,by simpa using hc⟩];simp[hc]
    ·rw[ao];exact⟨_,rfl,by rw[qW (fun g=>h60 g.2.2.1)]⟩
  |cons c t=>
   simp only[qL]at h hb;have hp:(decide (32<=(c.toNat:Int)/\(c.toNat:Int)<=126))=gv c:=by
    unfold gv;rw[Bool.eq_iff_iff];simp only[decide_eq_true_eq,qA,UInt8.le_iff_toNat_le];show _↔32<=c.toNat/\c.toNat<=126;omega
   rw[ag oJ,a7,qB,gw,hp,qB,aq _]
   cases hc:gv c
   ·rw[da];exact⟨_,rfl,by rw[qW (by simp[hc])]⟩
   ·rw[bt];obtain⟨R,g1,g2⟩:=ih (ab++[c]) t oA oB
    rw[qM,wD,qS,wM]at g1;refine⟨R,g1,?_⟩;rw[qS,wM]at g2;rw[List.all_cons,hc,Bool.true_and];exact g2
def zmf(fu:Nat)(hfu:90000000<=fu)(l:List bp)(hs:l9 l):∃R,qok fu l=some R/\match bnd l with
  |some b=>R=(b,true)|none=>R.2=false:=by
 unfold qok bnd;rw[qui fu hfu l hs,qB]
 cases ht:gz l with
 |none=>exact⟨_,rfl,rfl⟩|some m=>
  have h0:=quh ht;have hv:=ql8 h0;simp only;rw[bt,sm fu hfu _ _ (by have:=hv.1;omega) oC,qB]
  cases hk:lk m.1 mpN
  ·rw[qir,da];exact⟨_,rfl,oC⟩
  ·have hbl:=qtk m.2.2 er 100000 (fun x hx=>(hv.2.2.2 x hx).2)
   rw[qir,bt,qwz,qt2 fu hfu m er oC hv.smD.2.2,qB]
   obtain⟨R,g1,g2⟩:=zmg fu fu (ce m.2.2 er).2 [] (ce m.2.2 er).1 oA oB
   refine⟨R,g1,?_⟩;simp only[List.nil_append]at g2;by_cases hc:(ce m.2.2 er).1.all gv=true/\(ce m.2.2 er).2=true/\(1<=(ce m.2.2 er).1.length/\(ce m.2.2 er).1.length<=60)/\(ce m.2.2 er).1.getLast? ≠ some 32
   ·rw[qX hc]at g2;have hb:bOk (ce m.2.2 er).1=true:=by
     unfold bOk;have:(ce m.2.2 er).1.isEmpty=false:=by
      cases hh:(ce m.2.2 er).1 with|nil=>rw[hh]at hc;simp at hc|cons=>rfl
     rw[this,hc.1,decide_eq_true hc.2.2.1.2];simp;exact hc.2.2.2
    rw[qX ⟨by first|rfl|trivial,hc.2.1,hb⟩];exact g2
   ·rw[qW hc]at g2;rw[qW (by
     rintro⟨_,q1,q2⟩
     apply hc;unfold bOk at q2;simp only[qA,Bool.not_eq_true',decide_eq_true_eq,beq_eq_false_iff_ne]at q2;refine⟨q2.2.2.1,q1,⟨?_,q2.2.1⟩,q2.2.2.2⟩
     cases hh:(ce m.2.2 er).1 with
     |nil=>rw[hh]at q2;simp at q2| cons=>simp)]
    exact g2
def zaj{l:List bp}{b:Bs}(h:bnd l=some b):1<=b.length/\b.length<=60:=by
 unfold bnd at h;split at h
 ·split at h
  ·rename_i hc;cases h
   have q:=hc.2.2;unfold bOk at q;simp only[qA,Bool.not_eq_true',decide_eq_true_eq]at q;refine⟨?_,q.2.1⟩;generalize (ce _ er).1=z at *
   cases z with|nil=>simp at q|cons=>simp
  ·cases h
 ·cases h
def qfo(t b:Bs):Int:=if t=([45,45]:Bs)++b then 1 else if t=(([45,45]:Bs)++b)++([45,45]:Bs) then 2 else 0
def kj(line b:Bs):Int:=qfo (cq line) b
def jb{α:Type}{a b:Bs}{x y:α}:(bif a==b then x else y)=if a=b then x else y:=by
 by_cases h:a=b
 ·rw[ar (by simpa using h),qX h]
 ·rw[au (by simpa using h),qW h]
def zrd(fu:Nat)(hfu:90000000<=fu)(line b:Bs)(h:line.length<=4000000)(hb:b.length<=1000):qp6 fu line b=some (kj line b):=by
 unfold qp6 kj qfo;rw[q5q fu line oA oA oA,qB,ag oF,jb,ag oF,ag oF,jb]
 split
 ·rfl
 ·split<;>rfl
def zrv(fu:Nat)(s b:Bs)(hs:s.length<=4000000)(hb:b.length<=1000)(n:Nat):∀(u w:Bs),s=u++w->u.length<n->qdm fu n s b (u.length:Int)=some (qfo (cq u) b):=by
 induction n with
 |zero=>intro u w _ h;omega|succ n ih=>
  intro u w hu h;have ac:s.length=u.length+w.length:=by rw[hu];simp
  have fin:qdn fu (qdm fu n) s b (u.length:Int) false=some (qfo u b):=by
   rw[qdn,au rfl,ag,ag oF,show List.take ((u.length:Nat):Int).toNat s=u by rw[hu];exact qca u w,jb,ag,ag oF,ag oF,jb]
   unfold qfo;split
   ·rfl
   ·split<;>rfl
  rw[qdm,qxa];rcases List.eq_nil_or_concat u with rfl|⟨t,c,rfl⟩
  ·rw[ao];exact fin
  ·rw[List.concat_eq_append]at *;rw[ag,ia,il _ (by simp at ac;omega),yp]
   have hx:ai s (t.length:Int)=some c:=by rw[hu,qS];exact a7 t c w
   rw[hx,qB,qb3,qB];cases hc:bl c
   ·rw[ia]at fin;rw[fin];rfl
   ·rw[qdn,ar rfl,qxb,il _ (by simp at ac;omega),qX rfl]
    exact ih t (c::w) (by rw[hu];simp) (by simp at h;omega)
def zrt(fu:Nat)(hfu:90000000<=fu)(s b:Bs)(hs:s.length<=4000000)(hb:b.length<=1000):qw9 fu s b=some (kj s b):=
 zrv fu s b hs hb fu s [] oC oA
def cy:Bs->Bs|[]=>[]|c::t=>if g9 c t=true then[] else c::cy t
def d8:Bs->Bs|[]=>[]|c::t=>if g9 c t=true then t.tail else d8 t
def qbf:∀r:Bs,(r=cy r++13::10::d8 r/\Lib.index r [13,10]=((cy r).length:Int))\/(cy r=r/\d8 r=[]/\Lib.index r [13,10] = -1)
 |[] => .inr ⟨rfl,rfl,rfl⟩|c::t=>by
  have hp:([13,10]:Bs).isPrefixOf (c::t)=g9 c t:=by
   unfold g9
   cases t with|nil=>simp[List.isPrefixOf]|cons d t=>simp[List.isPrefixOf,qrq]
  rw[cy,d8,Lib.index,hp];by_cases hc:g9 c t=true
  ·obtain⟨rfl,r',rfl⟩:=qs1 hc;rw[qX hc,qX hc,qX hc];exact .inl ⟨rfl,rfl⟩
  ·rw[qW hc,qW hc,qW hc];rcases qbf t with⟨h1,h2⟩|⟨h1,h2,h3⟩
   ·refine .inl ⟨by rw[wK,← h1],?_⟩
    rw[h2,qW oC];simp
   ·refine .inr ⟨by rw[h1],h2,?_⟩
    rw[h3];rfl
def q1z(r:Bs):r.take (cy r).length=cy r:=by
 rcases qbf r with⟨h1,_⟩|⟨h1,_,_⟩
 ·have e:r.take (cy r).length=(cy r++13::10::d8 r).take (cy r).length:=by rw[← h1]
  rw[e,List.take_left]
 ·rw[h1];simp
def qth(r:Bs):d8 r <:+ r:=by
 rcases qbf r with⟨h1,_⟩|⟨_,h2,_⟩
 ·exact⟨cy r++[13,10],by simp;exact h1.symm⟩
 ·rw[h2];exact List.nil_suffix
def q33(c:UInt8)(t:Bs):(d8 (c::t)).length<=t.length:=by
 rcases qbf (c::t) with⟨h1,_⟩|⟨_,h2,_⟩
 ·have:=congrArg List.length h1;simp only[qM,qL]at this;omega
 ·rw[h2];simp
def q1y(r:Bs):(cy r).length<=r.length:=by
 rcases qbf r with⟨h1,_⟩|⟨h1,_,_⟩
 ·have:=congrArg List.length h1;simp only[qM,qL]at this;omega
 ·rw[h1];exact wF _
def q10(s r:Bs):Bs:=s.take (s.length-r.length-2)
def mb(st:Option Bs)(r:Bs)(out:List Bs):List Bs:=match st with|some s=>out++[q10 s r]|none=>out
def jc(b:Bs):Nat->Bs->Option Bs->List Bs->List Bs
 |0,_,_,out=>out|_+1,[],st,out=>match st with|some s=>out++[s]|none=>out
 |n+1,c::t,st,out=>if kj (cy (c::t)) b=0 then jc b n (d8 (c::t)) st out
  else if kj (cy (c::t)) b=2 then mb st (c::t) out else jc b n (d8 (c::t)) (some (d8 (c::t))) (mb st (c::t) out)
def gg(body:Bs)(st:Option Bs):Int:=match st with|some s=>pos body s|none => -1
def zre(l b:Bs):kj l b=0\/kj l b=1\/kj l b=2:=by
 unfold kj qfo;split
 ·exact .inr (.inl rfl)
 ·split
  ·exact .inr (.inr rfl)
  ·exact .inl rfl
def q3p{body s r:Bs}(hs:s <:+ body)(hr:r <:+ s)(hb:body.length<=4000000):0<=pos body s/\pos body s<=(if ae (pos body r-2)>pos body s then ae (pos body r-2) else pos body s)/\(if ae (pos body r-2)>pos body s then ae (pos body r-2) else pos body s)<=(body.length:Int) /\
  List.take ((if ae (pos body r-2)>pos body s then ae (pos body r-2) else pos body s).toNat-(pos body s).toNat) (List.drop (pos body s).toNat body)=q10 s r:=by
 have h1:=hs.length_le;have h2:=hr.length_le;rw[qmf hs];unfold q10 pos;rw[bq]
 refine⟨oA,?_,?_,?_⟩
 ·split<;>omega
 ·split<;>omega
 ·congr 1;split<;>omega
def zt0{body r:Bs}(hr:r <:+ body)(hb:body.length<=4000000):(if(body.length:Int)<ae (ae (pos body r+((cy r).length:Int))+2) then(body.length:Int) else ae (ae (pos body r+((cy r).length:Int))+2))=pos body (d8 r):=by
 have h1:=hr.length_le;rcases qbf r with⟨h,_⟩|⟨h,h2,_⟩
 ·have:=congrArg List.length h;simp only[qM,qL]at this;unfold pos;rw[g7 _ _,bq]
  split<;>omega
 ·rw[h2,h,jk];unfold pos;rw[g7 _ _,bq]
  split<;>omega
def zn6(fu:Nat)(hfu:90000000<=fu)(body b:Bs)(hb:body.length<=4000000)(hbb:b.length<=1000)(r:Bs)(hr:r <:+ body)(st:Option Bs)(hst:∀s,st=some s->s <:+ body/\r <:+ s)(z out:List Bs)(ho:out.length<=4000000:=by omega) :
  qd9 fu (pos body r) (cy r) body b (gg body st) z out =
   if kj (cy r) b=0 then some (.inl (body,(b,(gg body st,(z,out))))) else if kj (cy r) b=2 then some (.inr (body,(b,(gg body st,mb st r out)))) else some (.inl (body,(b,(pos body (d8 r),(z,mb st r out))))):=by
 have hrm:=og;have hcl:=q1y r;have hrl:=hr.length_le;unfold qd9;rw[zrd fu hfu _ b oA hbb,qB,eu]
 by_cases h0:kj (cy r) b=0
 ·rw[qX h0,qX h0]
 rw[qW h0,qW h0,zt0 hr hb,eu]
 cases st with
 |none=>
  rw[show gg body none = -1 from rfl,ao]
  try rw[eu]
  by_cases h2:kj (cy r) b=2
  ·rw[qX h2,qX h2];rfl
  ·rw[qW h2,qW h2];rfl
 |some s=>
  obtain⟨g1,g2⟩:=hst s rfl;obtain⟨q1,q2,q3,q4⟩:=q3p g1 g2 hb;rw[show gg body (some s)=pos body s from rfl,ag q1,ag ⟨q1,q2,q3⟩,q4,ag]
  by_cases h2:kj (cy r) b=2
  ·rw[qX h2,qX h2];rfl
  ·rw[qW h2,qW h2];rfl
def q9o(st:Option Bs)(r:Bs)(out:List Bs):(mb st r out).length<=out.length+1:=by unfold mb;cases st<;>simp
def zb4(st:Option Bs)(out:List Bs):List Bs:=match st with|some s=>out++[s]|none=>out
def zn5(fu:Nat)(hfu:90000000<=fu)(body b:Bs)(hb:body.length<=4000000)(hbb:b.length<=1000)(z:List Bs)(n:Nat):∀(r:Bs)(st:Option Bs)(out:List Bs),r <:+ body->(∀s,st=some s->s <:+ body/\r <:+ s)->r.length<n->out.length+r.length<=4000000 ->
  (∃x,qap fu n (pos body r) body body b (gg body st) z out=some (.inl (body,(body,(b,(x,jc b n r st out)))))) \/
  (∃st' out',qap fu n (pos body r) body body b (gg body st) z out=some (.inr (body,(body,(b,(gg body st',(z,out'))))))/\jc b n r st out=zb4 st' out'/\out'.length<=4000000/\∀s,st'=some s->s <:+ body):=by
 induction n with
 |zero=>intro r st out _ _ h;omega|succ n ih=>
  intro r st out hr hst h ho;rw[qap,qzg]
  cases r with
  |nil=>
   rw[jk,ao]
   exact .inr ⟨st,out,rfl,rfl,oA,fun s hs=>(hst s hs).1⟩
  |cons c t=>
   simp only[qL]at h ho;have hL:(c::t).length=t.length+1:=rfl;have hrl:=hr.length_le;simp only[qL]at hrl;have hcl:=q1y (c::t);have hnl:=q33 c t;have hge:=vm body (c::t);have hnx:d8 (c::t) <:+ body:=(qth _).trans hr;rw[ag (od hr),ag hge,ag oE,qmf hr]
   have hI:qag (c::t) [13,10]=some (Lib.index (c::t) [13,10]):=by
    unfold qag;rw[ag (by refine⟨oC,oG,by simp[maxLen]⟩)]
   have step:∀q:Option q0e,q=((qd9 fu (pos body (c::t)) (cy (c::t)) body b (gg body st) z out).bind fun x2=>be x2 (fun a3=>qap fu n (pos body (d8 (c::t))) body a3.1 a3.2.1 a3.2.2.1 a3.2.2.2.1 a3.2.2.2.2) (fun b4=>some (.inl (body,b4)))) ->
     (∃x,q=some (.inl (body,(body,(b,(x,jc b (n+1) (c::t) st out))))))\/(∃st' out',q=some (.inr (body,(body,(b,(gg body st',(z,out'))))))/\jc b (n+1) (c::t) st out=zb4 st' out'/\out'.length<=4000000/\∀s,st'=some s->s <:+ body):=by
    intro q hq;rw[hq,zn6 fu hfu body b hb hbb (c::t) hr st hst z out,jc]
    have hal:=q9o st (c::t) out;by_cases h0:kj (cy (c::t)) b=0
    ·simp only[qX h0,qB,be];exact ih (d8 (c::t)) st out hnx (fun s hs=>⟨(hst s hs).1,(qth _).trans (hst s hs).2⟩) oA oA
    ·simp only[qW h0];by_cases h2:kj (cy (c::t)) b=2
     ·simp only[qX h2,qB,be];exact .inl ⟨_,rfl⟩
     ·simp only[qW h2,qB,be];exact ih (d8 (c::t)) (some (d8 (c::t))) _ hnx (fun s hs=>by cases hs;exact⟨hnx,List.suffix_refl _⟩) oA oA
   apply step;rw[hI,qB];rcases qbf (c::t) with⟨h1,h2⟩|⟨h1,h2,h3⟩
   ·have ac:=congrArg List.length h1;simp only[qM,qL]at ac;have e1:ae (pos body (c::t)+((cy (c::t)).length:Int))=((body.length-(c::t).length+(cy (c::t)).length:Nat):Int):=by unfold pos;rw[g7 _ _]
    have e2:ae (((body.length-(c::t).length+(cy (c::t)).length:Nat):Int)+2)=pos body (d8 (c::t)):=by unfold pos;rw[bq];simp only[qL];omega
    have e3:((body.length-(c::t).length+(cy (c::t)).length:Nat):Int).toNat-(pos body (c::t)).toNat=(cy (c::t)).length:=by unfold pos;omega
    rw[h2,ag,e1,ag (by unfold pos;simp only[qL];omega),e3,q1z,e2]
   ·have e3:(body.length:Int).toNat-(pos body (c::t)).toNat=(cy (c::t)).length:=by rw[h1];unfold pos;omega
    rw[h3,ao,ag,e3,q1z,h2,jk]
def za5(b:Bs):∀(n:Nat)(r:Bs)(st:Option Bs)(out:List Bs),r.length<n->jc b n r st out=jc b (r.length+1) r st out:=by
 intro n
 induction n using Nat.strongRecOn with
 |ind n ih=>
  intro r st out h;obtain⟨n,rfl⟩:∃m,n=m+1:=⟨n-1,oA⟩
  cases r with
  |nil=>rfl|cons c t=>
   simp only[qL]at h ⊢;have hnl:=q33 c t;rw[jc,jc];have e:∀st' out',jc b n (d8 (c::t)) st' out'=jc b (t.length+1) (d8 (c::t)) st' out':=fun st' out'=>by
    rw[ih n oA _ _ _ oA]
    by_cases hq:t.length+1=n
    ·rw[hq];exact(ih n oA _ _ _ oA).symm
    ·exact(ih (t.length+1) oA _ _ _ oA).symm
   rw[e,e]
def qbe(body b:Bs):List Bs:=jc b (body.length+1) body none []
def zn7(fu:Nat)(hfu:90000000<=fu)(body b:Bs)(hb:body.length<=4000000)(hbb:b.length<=1000):qpz fu body b=some (qbe body b):=by
 have hrm:=og;unfold qpz qze qzf qbe;rw[qB];have:=zn5 fu hfu body b hb hbb [] fu body none [] (List.suffix_refl _) oC oA (by simpa using hb)
 rw[q4g,show gg body none = -1 from rfl,za5 b fu body none [] oA]at this
 rcases this with⟨x,h⟩|⟨st',out',h1,h2,h3,h4⟩
 ·rw[h];rfl
 ·rw[h1,qB,h2];simp only[be]
  cases st' with
  |none=>rw[show gg body none = -1 from rfl,ao];rfl|some s=>
   have hge:=vm body s;rw[show gg body (some s)=pos body s from rfl,ag hge.1,ag hge,ag,qmf (h4 s rfl)];rfl
def zur(fu:Nat)(r0:(Bs->Bs->Int->Int->(List Bs)->Option ((List Bs))))(body b:Bs)(s6 s7:Int)(out:List Bs)(hb:body.length<=4000000)(n:Nat):∀(u:Bs),u <:+ body->u.length<n ->
  qiv fu r0 n body b s6 s7 (pos body u) out=qix fu r0 body b s6 s7 (pos body (u.drop (cy u).length)) (pos body (d8 u)) out:=by
 induction n with
 |zero=>intro u _ h;omega|succ n ih=>
  intro u hu h;rw[qiv,qw4]
  cases u with
  |nil=>rw[jk,ao,qiw,au rfl,ar];simp[d8,jk]|cons c t=>
   have ht:t <:+ body:=(List.suffix_cons _ _).trans hu;simp only[qL]at h;have hc:qco body (pos body (c::t))=some (g9 c t):=by
    obtain⟨p,e1,e2⟩:=zeo hu;have:=hu.length_le;rw[e2,e1];exact ze1 p c t (by rw[e1]at hb;simp at hb;omega)
   rw[ag (od hu),hc,qB,qiw,cy,d8];by_cases hq:g9 c t=true
   ·obtain⟨rfl,r',rfl⟩:=qs1 hq;have hle:=hu.length_le;simp only[qL]at hle;rw[hq,bt,au (by have:=od hu;simp;omega),qX rfl,qX rfl]
    have e:ae (pos body (13::10::r')+2)=pos body r':=by unfold pos;rw[bq oG];simp only[qL];omega
    rw[e];rfl
   ·have:g9 c t=false:=by simpa using hq
    rw[this,da,qw5,qz hu,qW oC,qW oC]
    exact ih t ht oA
def zuv(fu:Nat)(hfu:90000000<=fu)(body b:Bs)(hb:body.length<=4000000)(hbb:b.length<=1000)(n:Nat):∀(r:Bs)(st:Option Bs)(out:List Bs),r <:+ body->(∀s,st=some s->s <:+ body/\r <:+ s)->r.length<n->out.length+r.length<=4000000 ->
  wt fu n body b (gg body st) (pos body r) out=some (jc b n r st out):=by
 have hrm:=og
 induction n with
 |zero=>intro r st out _ _ h;omega|succ n ih=>
  intro r st out hr hst h ho;rw[wt,qw3]
  cases r with
  |nil=>
   rw[jk,ao]
   show _=some (match st with|some s=>out++[s]|none=>out)
   cases st with
   |none=>rw[show gg body none = -1 from rfl,ao]|some s=>
    have hge:=vm body s;rw[show gg body (some s)=pos body s from rfl,ag hge.1,ag hge,ag (by simp;simp at ho;omega),qmf (hst s rfl).1]
  |cons c t=>
   simp only[qL]at h ho;have hrl:=hr.length_le;simp only[qL]at hrl;have hcl:=q1y (c::t);have hnl:=q33 c t;have hnx:d8 (c::t) <:+ body:=(qth _).trans hr;have hal:=q9o st (c::t) out;rw[ag (od hr),zur fu _ body b _ _ out hb fu (c::t) hr oG,jc,qix]
   have hds:(c::t).drop (cy (c::t)).length <:+ (c::t):=List.drop_suffix _ _;have hle:=q4h (s:=body) hds;have g1:=vm body (c::t);have g2:=vm body ((c::t).drop (cy (c::t)).length);have e:List.take ((pos body ((c::t).drop (cy (c::t)).length)).toNat-(pos body (c::t)).toNat) (List.drop (pos body (c::t)).toNat body)=cy (c::t):=by
    rw[q4i hr hds,List.length_drop,show(c::t).length-((c::t).length-(cy (c::t)).length)=(cy (c::t)).length by omega,q1z]
   rw[ag ⟨g1.1,hle,g2.2⟩,e,zrt fu hfu _ b (by simp only[qL]at hcl;omega) hbb,qB]
   have nx:∀st' out',(∀s,st'=some s->s <:+ body/\d8 (c::t) <:+ s)->out'.length<=out.length+1->wt fu n body b (gg body st') (pos body (d8 (c::t))) out'=some (jc b n (d8 (c::t)) st' out'):=fun st' out' h1 h2=>ih _ st' out' hnx h1 oA oA
   rcases zre (cy (c::t)) b with hk|hk|hk
   ·rw[hk,ao,qX rfl,qdk,au (by rfl)]
    exact nx st out (fun s hs=>⟨(hst s hs).1,(qth _).trans (hst s hs).2⟩) oA
   ·rw[hk,ag,qW oA,qW oA]
    have p5:∀o,o=mb st (c::t) out->zz fu (wt fu n) body b (pos body (d8 (c::t))) 1 o=some (jc b n (d8 (c::t)) (some (d8 (c::t))) (mb st (c::t) out)):=by
     intro o he;rw[zz,qdk,au (by rfl),he]
     exact nx (some (d8 (c::t))) _ (fun s hs=>by cases hs;exact⟨hnx,List.suffix_refl _⟩) hal
    cases st with
    |none=>rw[show gg body none = -1 from rfl,ao];exact p5 _ rfl|some s=>
     obtain⟨q1,q2,q3,q4⟩:=q3p (hst s rfl).1 (hst s rfl).2 hb;rw[show gg body (some s)=pos body s from rfl,ag q1,bn]
     by_cases hlt:ae (pos body (c::t)-2)<pos body s
     ·rw[qW oA]at q2 q3 q4
      rw[qX hlt,z6,ag ⟨q1,q2,q3⟩,q4,ag]
      exact p5 _ rfl
     ·rw[qW hlt,z6];by_cases heq:ae (pos body (c::t)-2)=pos body s
      ·rw[qW oA]at q2 q3 q4
       rw[heq,ag ⟨q1,q2,q3⟩,q4,ag]
       exact p5 _ rfl
      ·rw[qX oA]at q2 q3 q4
       rw[ag ⟨q1,q2,q3⟩,q4,ag]
       exact p5 _ rfl
   ·rw[hk,ag,qW oA,qX rfl]
    have p5:∀o,o=mb st (c::t) out->zz fu (wt fu n) body b (pos body (d8 (c::t))) 2 o=some (mb st (c::t) out):=by
     intro o he;rw[zz,qdk,ar,he]
    cases st with
    |none=>rw[show gg body none = -1 from rfl,ao];exact p5 _ rfl|some s=>
     obtain⟨q1,q2,q3,q4⟩:=q3p (hst s rfl).1 (hst s rfl).2 hb;rw[show gg body (some s)=pos body s from rfl,ag q1,bn]
     by_cases hlt:ae (pos body (c::t)-2)<pos body s
     ·rw[qW oA]at q2 q3 q4
      rw[qX hlt,z6,ag ⟨q1,q2,q3⟩,q4,ag]
      exact p5 _ rfl
     ·rw[qW hlt,z6];by_cases heq:ae (pos body (c::t)-2)=pos body s
      ·rw[qW oA]at q2 q3 q4
       rw[heq,ag ⟨q1,q2,q3⟩,q4,ag]
       exact p5 _ rfl
      ·rw[qX oA]at q2 q3 q4
       rw[ag ⟨q1,q2,q3⟩,q4,ag]
       exact p5 _ rfl
def zuw(fu:Nat)(hfu:90000000<=fu)(body b:Bs)(hb:body.length<=4000000)(hbb:b.length<=1000):qw2 fu body b=some (qbe body b):=by
 have:=zuv fu hfu body b hb hbb fu body none [] (List.suffix_refl _) oC oA (by simpa using hb)
 rw[q4g,show gg body none = -1 from rfl,za5 b fu body none [] oA]at this
 exact this
def zgv(l:List bp)(f:bp->Nat)(hf:∀x,x.1.length+x.2.length+1<=f x):l.length<=(l.map f).sum/\∀x∈l,x.1.length+x.2.length<=(l.map f).sum:=by
 induction l with
 |nil=>exact⟨wF _,fun x h=>by cases h⟩
 |cons y l ih=>
  have hy:=hf y;refine⟨by simp only[qL,List.map_cons,List.sum_cons];omega,fun x hx => ?_⟩
  rw[List.map_cons,List.sum_cons];rcases List.mem_cons.1 hx with rfl|hx
  ·omega
  ·have:=ih.2 x hx;omega
def q5g:∀b:List UInt8,(List.map (Ty.byte.bk:Ty.byte.den->Nat) b).sum=b.length
 |[]=>rfl|c::b=>by
  show 1+(List.map (Ty.byte.bk:Ty.byte.den->Nat) b).sum=b.length+1;rw[q5g b];omega
def qbm(x:bp):Nat:=(x.1.length+1)+(x.2.length+1)
def zlh(l:List bp)(b:List UInt8)(h:((l.map qbm).sum+1)+(b.length+1)<=1048576):SmM (l,b):=by
 obtain⟨h1,h2⟩:=zgv l qbm (fun x=>by unfold qbm;omega)
 refine⟨⟨oM,fun x hx => ?_⟩,oM⟩
 have:=h2 x hx;omega
def zlg(m:List bp×List UInt8)(h:(Ty.prod (.list (.prod .str .str)) (.list .byte)).bk m<=1048576):SmM m:=by
 obtain⟨l,b⟩:=m;have h:((l.map qbm).sum+1)+((List.map (Ty.byte.bk:Ty.byte.den->Nat) b).sum+1)<=1048576:=h;rw[q5g]at h;exact zlh l b h
abbrev TP:Type:=Tree (List (Bs×Bs)×Bs)
abbrev τP:Ty := .prod (.list (.prod .str .str)) (.list .byte)
def cv(t:TP):Nat:=(Ty.tree τP).bk t
def vy(x:List (Bs×Bs)×Bs)(l:List TP):cv (.node x l)=τP.bk x+(l.map cv).sum+2:=zhb τP.bk x l
def c8(t:TP):Tree.node t.val t.kids=t:=by cases t;rfl
def zxz(l:List TP)(k:TP)(h:k∈l):cv k<=(l.map cv).sum:=by
 obtain⟨a,b,rfl⟩:=List.append_of_mem h;simp;omega
def qgc{t k:TP}(h:k∈t.kids):cv k+2<=cv t:=by
 cases t with
 |node x l=>
  rw[vy];have:=zxz l k h;omega
def zxy(l:List TP):l.length<=(l.map cv).sum:=by
 induction l with
 |nil=>simp|cons k l ih=>
  have:2<=cv k:=by cases k;rw[vy];omega
  simp only[qL,List.map_cons,List.sum_cons];omega
def qcc(t:TP):t.kids.length+2<=cv t:=by
 cases t with|node x l=>rw[vy];have:=zxy l;show l.length+2<=_;omega
def qgd(t:TP):2<=cv t:=by cases t;rw[vy];omega
def zys(t:TP):τP.bk t.val<=cv t:=by cases t;rw[vy];show τP.bk _<=_;simp only[Tree.val];omega
def o5(x:List (Bs×Bs)×Bs):Prop:=SmM x/\x.1.length<=4000000/\(∀y∈x.1,y.1.length<=4000000/\y.2.length<=4000000)/\x.2.length<=4000000
def zxb(x:List (Bs×Bs)×Bs)(h:τP.bk x<=1048576):o5 x:=by
 refine⟨zlg x h,?_⟩;obtain⟨l,b⟩:=x;have h:((l.map qbm).sum+1)+((List.map (Ty.byte.bk:Ty.byte.den->Nat) b).sum+1)<=1048576:=h;rw[q5g]at h;obtain⟨h1,h2⟩:=zgv l qbm (fun x=>by unfold qbm;omega)
 exact⟨oM,fun y hy=>by have:=h2 y hy;omega,oM⟩
def qun(l:List bp)(b:Bs):Int:=match gz l with|none=>5|some m=>if 0<b.length\/lk m.1 mpN=false\/(ce m.2.2 er).2=true\/60<=m.2.2.length\/bu l cr≠[pb m]\/2000<(pb m).length then 5 else 0
def zzo(fu:Nat)(hfu:90000000<=fu)(t:TP)(hs:o5 t.val):qp7 fu t=some (qun t.val.1 t.val.2):=by
 obtain⟨_,h1,h2,h3⟩:=hs;obtain⟨R,g1,g2⟩:=q5u fu hfu t.val.1 h2 h1;unfold qp7 qun;rw[g1,qB];simp only[c8]
 cases ht:gz t.val.1 with
 |none=>
  rw[ht]at g2;obtain⟨k,rfl⟩:=g2;simp only[be];by_cases hb:0<t.val.2.length
  ·rw[ag,pw,ar rfl]
  ·rw[ao,da,pw,ar rfl]
 |some m=>
  rw[ht]at g2;obtain⟨ab,x,aa,e1,e2,e3,e4,e5,rfl⟩:=g2;have h0:=quh ht;have hv:=ql8 h0;simp only[be];by_cases hb:0<t.val.2.length
  ·rw[ag,pw,ar rfl,qX (.inl hb)]
  rw[ao,bt,kq fu hfu _ _ (by have:=hv.1;omega) oC,qB,pw,c8]
  cases hk:lk m.1 mpN
  ·rw[da,qX (.inr (.inl rfl))]
  rw[bt,qzh,q3s fu hfu (m.1,(m.2.1,m.2.2)) er oC hv.smD,qB,qW (by simpa using h0),zt2 fu hfu (m.1,(m.2.1,m.2.2)) hv.smD,qB,qW (by simpa using h0)]
  rw[show((m.1,(m.2.1,m.2.2)):ef)=m from rfl]
  simp only;cases hp:(ce m.2.2 er).2
  ·rw[au rfl];by_cases h60:60<=m.2.2.length
   ·rw[ag,qX (.inr (.inr (.inr (.inl h60))))]
   rw[ao]
   by_cases h4:4000<(pb m).length
   ·rw[qX h4,qX oA];rfl
   ·have hx:ai t.val.1 (ab.length:Int)=some x:=by rw[e1];exact a7 ab x aa
    rw[qW h4];simp only[xp,qB];rw[au (by rfl),hx,qB,zab,e2]
    by_cases he:pb m=x.2
    ·rw[qW (by rw[he];simp),bn]
     by_cases h2k:2000<(pb m).length
     ·rw[qX oA,qX oA]
     ·rw[qW oA,qW (by
       rintro (q|q|q|q|q|q)
       ·exact hb q
       ·simp at q
       ·simp at q
       ·exact h60 q
       ·exact q (by rw[he])
       ·exact h2k q)]
    ·rw[qX (by simpa using he),qX (.inr (.inr (.inr (.inr (.inl (by simpa using fun q=>he q.symm))))))]
  ·rw[ar rfl,qX (.inr (.inr (.inl rfl)))]
def ko(t:TP)(d:Int):Int:=if(qk t.val.1).1≠0 then(qk t.val.1).1 else if 0<t.kids.length then qun t.val.1 t.val.2 else if 12000<t.val.2.length then 1
 else if bs 0 t.val.2≠0 then bs 0 t.val.2 else match bnd t.val.1 with|none=>0|some b=>if d<8/\0<(qbe t.val.2 b).length then 5 else 0
def zm8(fu:Nat)(s:Bs)(h:s.length<fu:=by omega)(hb:s.length<100000000:=by omega):qo3 fu s=some (bs 0 s):=by
 unfold qo3;have:=znj fu fu [] s 0 h (by simpa using hb) oA
 exact this
def zqt(fu:Nat)(hfu:90000000<=fu)(l:List bp)(b:Bs)(d:Int)(hs:o5 (l,b)):qp5 fu l b d=some (match bnd l with|none=>[]|some bb=>if d<8 then qbe b bb else[]):=by
 obtain⟨_,h1,h2,h3⟩:=hs;obtain⟨R,g1,g2⟩:=znl fu hfu l h2 h1;unfold qp5;rw[g1,qB]
 cases hb:bnd l with
 |none=>rw[hb]at g2;simp only at g2;rw[g2,da]|some bb=>
  rw[hb]at g2;simp only at g2;subst g2;rw[bt,bn];have:=zaj hb;by_cases hd:d<8
  ·rw[qW oA];simp only[qX hd];rw[zn7 fu hfu b bb h3 oA];rfl
  ·rw[qX oA];simp only[qW hd]
def zn1(fu:Nat)(hfu:90000000<=fu)(t:TP)(d:Int)(hs:o5 t.val):qpy fu (t,d)=some (ko t d):=by
 unfold qpy ko;rw[zqf fu hfu _ hs.1.1,qB,xp,qB,ip];simp only[c8];by_cases h0:(qk t.val.1).1≠0
 ·rw[qX h0,qX h0]
 rw[qW h0,qW h0,bn];by_cases h1:0<t.kids.length
 ·rw[qX oA,qX h1,zzo fu hfu t hs];rfl
 rw[qW oA,qW h1,bn]
 by_cases h2:12000<t.val.2.length
 ·rw[qX oA,qX h2]
 rw[qW oA,qW h2,zm8 fu _,qB,ip]
 by_cases h3:bs 0 t.val.2≠0
 ·rw[qX h3,qX h3]
 rw[qW h3,qW h3,zqt fu hfu t.val.1 t.val.2 d hs,qB]
 cases bnd t.val.1 with
 |none=>rfl|some b=>
  simp only;by_cases hd:d<8
  ·simp only[qX hd];rw[bn];by_cases hc:0<(qbe t.val.2 b).length
   ·rw[qX oA,qX ⟨hd,hc⟩]
   ·rw[qW oA,qW (fun q=>hc q.2)]
  ·simp only[qW hd];rw[qW (fun q=>hd q.1)];rfl
def ztj(fu:Nat)(hfu:90000000<=fu)(t:TP)(d:Int)(hs:o5 t.val):qop fu t d=some (ko t d):=by
 unfold qop ko;rw[zvk fu hfu _ hs.1.1,qB,ip];simp only[c8];by_cases h0:(qk t.val.1).1≠0
 ·rw[qX h0,qX h0]
 rw[qW h0,qW h0,bn];by_cases h1:0<t.kids.length
 ·rw[qX oA,qX h1,qui fu hfu _ hs.1.1,qB]
  unfold qun
  cases ht:gz t.val.1 with
  |none=>
   simp only;rw[qt2 fu hfu ([],([],[])) er oC ⟨oC,oC⟩,qB,da,pq,ar rfl]
  |some m=>
   have h0:=quh ht;have hv:=ql8 h0;simp only;rw[qt2 fu hfu m er oC hv.smD.2.2,qB,bt]
   cases hp:(ce m.2.2 er).2
   ·rw[au rfl,sm fu hfu _ _ (by have:=hv.1;omega) oC,qB]
    cases hk:lk m.1 mpN
    ·rw[da,pq,ar rfl,qX (.inr (.inl rfl))]
    rw[bt,bn];by_cases hb:0<t.val.2.length
    ·rw[qX oA,pq,ar rfl,qX (.inl hb)]
    rw[qW oA,pq,bn]
    by_cases h60:60<=m.2.2.length
    ·rw[qX oA,qX (.inr (.inr (.inr (.inl h60))))]
    rw[qW oA,c8,qxc,zvr fu hfu m hv,qB,bn]
    by_cases h2k:2000<(pb m).length
    ·rw[qX oA,qi1,ar rfl,qX oA]
    rw[qW oA,q5x fu hfu _ ctn oC hs.1.1,qB,zhr]
    have hv1:∃v,bu t.val.1 cr=[v]:=by
     unfold gz at ht;split at ht
     ·rename_i v hv2;exact⟨v,hv2⟩
     ·cases ht
    obtain⟨v,hv1⟩:=hv1;rw[hv1,ag,show([v]:List Bs)[(0:Int).toNat]? = some v from rfl,qB,qi1,zab]
    by_cases he:v=pb m
    ·rw[qW (by rw[he];simp),qW (by
      rintro (q|q|q|q|q|q)
      ·exact hb q
      ·simp at q
      ·simp at q
      ·exact h60 q
      ·exact q (by rw[he])
      ·exact h2k q)];rfl
    ·rw[qX (by simpa using he),qX (.inr (.inr (.inr (.inr (.inl (by simpa using he))))))]
   ·rw[ar rfl,pq,ar rfl,qX (.inr (.inr (.inl rfl)))]
 rw[qW oA,qW h1,bn]
 have hbl:=hs.2.2.2;by_cases h2:12000<t.val.2.length
 ·rw[qX oA,qX h2]
 rw[qW oA,qW h2,zup fu _,qB,ip]
 have hbv:(q1g (bs 0 t.val.2)).1=bs 0 t.val.2:=by
  rcases znr t.val.2.length t.val.2 0 (wF _) with h|h|h<;>rw[h]<;>rfl
 rw[hbv];by_cases h3:bs 0 t.val.2≠0
 ·rw[qX h3,qX h3]
 rw[qW h3,qW h3];obtain⟨R,g1,g2⟩:=zmf fu hfu t.val.1 hs.1.1;rw[g1,qB]
 cases hb:bnd t.val.1 with
 |none=>rw[hb]at g2;simp only at g2;rw[g2];rfl|some b=>
  rw[hb]at g2;simp only at g2 ⊢;subst g2;have:=zaj hb;rw[ar rfl,bn];by_cases hd:d<8
  ·rw[qX hd,zuw fu hfu t.val.2 b hbl oA,qB,bn]
   by_cases hc:0<(qbe t.val.2 b).length
   ·rw[qX oA,qX ⟨hd,hc⟩]
   ·rw[qW oA,qW (fun q=>hc q.2)]
  ·rw[qW hd,qW (fun q=>hd q.1)]
def bf:Nat->TP->Int->List (TP×Int)|0,_,_=>[]|n+1,t,d=>(t,d)::t.kids.flatMap fun k=>bf n k (d+1)
def q2r:∀(n:Nat)(t:TP)(d:Int),(bf n t d).length<=cv t:=by
 intro n
 induction n with
 |zero=>intro t d;simp[bf]|succ n ih=>
  intro t d;have key:∀l:List TP,(l.flatMap fun k=>bf n k (d+1)).length<=(l.map cv).sum:=by
   intro l
   induction l with
   |nil=>simp|cons k l ih2=>
    have:=ih k (d+1);rw[List.flatMap_cons,qM,List.map_cons,List.sum_cons];omega
  cases t with
  |node x l=>
   have:=key l;rw[bf,qL,vy];show(l.flatMap _).length+1<=_;omega
def zpt:∀(n:Nat)(t:TP)(d:Int),∀x∈bf n t d,cv x.1<=cv t:=by
 intro n
 induction n with
 |zero=>intro t d x hx;cases hx
 |succ n ih=>
  intro t d x hx;rw[bf]at hx;rcases List.mem_cons.1 hx with e|e
  ·rw[e];exact wF _
  ·obtain⟨k,hk,hx2⟩:=List.mem_flatMap.1 e;have:=ih k (d+1) x hx2;have:=qgc hk;omega
def gd(t:TP):Prop:=cv t<=60000000/\∀n d,∀x∈bf n t d,o5 x.1.val
def zp4{t:TP}(h:gd t):o5 t.val:=h.2 1 0 (t,0) (by rw[bf];exact qH)
def zp3{t k:TP}(h:gd t)(hk:k∈t.kids):gd k:=⟨by have:=qgc hk;have:=h.1;omega,fun n d x hx=>h.2 (n+1) (d-1) x (by
 rw[bf];refine qE _ (List.mem_flatMap.2 ⟨k,hk,?_⟩);rw[show d-1+1=d by omega];exact hx)⟩
def zp2{t:TP}(h:cv t<=1048576:=by omega):gd t:=⟨oA,fun n d x hx=>zxb _ (by have:=zpt n t d x hx;have:=zys x.1;omega)⟩
def lj:List (TP×Int)->Nat->Bool->Option (Nat×Bool)|[],i,fl=>some (i,fl)|x::L,i,fl=>if 40<=i then none else lj L (i+1) (fl||decide (8<x.2))
def zf2:∀(L M:List (TP×Int))(i:Nat)(fl:Bool),lj (L++M) i fl=(lj L i fl).bind fun x=>lj M x.1 x.2
 |[],_,_,_=>rfl|x::L,M,i,fl=>by
  rw[wK,lj,lj];by_cases h:40<=i
  ·rw[qX h,qX h];rfl
  ·rw[qW h,qW h,zf2 L M]
def zf3:∀(L:List (TP×Int))(i:Nat)(fl:Bool)(x:Nat×Bool),i<=40->lj L i fl=some x->x.1<=40
 |[],_,_,_,h,e=>by cases e;exact h
 |y::L,i,fl,x,h,e=>by
  rw[lj]at e;by_cases h4:40<=i
  ·rw[qX h4]at e;cases e
  ·rw[qW h4]at e;exact zf3 L _ _ x oA e
def zf4:∀(L:List (TP×Int))(i:Nat)(fl:Bool),i<=40->lj L i fl=if 40<i+L.length then none else some (i+L.length,fl||L.any fun x=>decide (8<x.2))
 |[],i,fl,h=>by rw[lj,qW oB];simp|x::L,i,fl,h=>by
  rw[lj];by_cases h4:40<=i
  ·rw[qX h4,qX oG]
  ·rw[qW h4,zf4 L _ _ oA]
   by_cases h5:40<i+1+L.length
   ·rw[qX h5,qX oG]
   ·rw[qW h5,qW oG,List.any_cons,Bool.or_assoc,qL,Nat.add_assoc,Nat.add_comm 1]
def zo5(fu:Nat)(hfu:90000000<=fu)(z:Int×Int):∀(n:Nat)(t:TP)(d i:Nat)(fl:Bool),cv t<=n->cv t+d<=70000000->i<=40 ->
  ∃R,qea fu n t (d:Int) (i:Int) z fl=some R/\match lj (bf n t (d:Int)) i fl with
   |none=>∃a b,R = .inl (a,(((2:Int),(-1:Int)),b))|some x=>R = .inr ((x.1:Int),(z,x.2)):=by
 intro n
 induction n with
 |zero=>intro t d i fl h;have:=qgd t;omega|succ n ih=>
  intro t d i fl hz hd hi;rw[qea,qp1,qy4,bf,lj];by_cases h4:40<=i
  ·rw[ag,qX h4,qx];exact⟨_,rfl,_,_,rfl⟩
  rw[ao,qW h4]
  have hr0:(bif fl then some (.inr (z,true)) else some (.inr (z,decide ((8:Int)<(d:Int)))):Option q87)=some (.inr (z,fl||decide ((8:Int)<(d:Int)))):=by cases fl<;>rfl
  rw[hr0,qB];simp only[be];rw[aq i]
  have loop:∀(m:Nat)(ab aa:List TP)(i:Nat)(fl:Bool),t.kids=ab++aa->aa.length<m->i<=40 ->
    ∃R,qka (qea fu n) fu m (d:Int) t.kids (t.kids.length:Int) (ab.length:Int) (i:Int) z fl=some R/\match lj (aa.flatMap fun k=>bf n k ((d:Int)+1)) i fl with
     |none=>∃a b,R = .inl (a,(((2:Int),(-1:Int)),b))|some x=>R = .inr ((x.1:Int),(z,x.2)):=by
   intro m
   induction m with
   |zero=>intro ab aa i fl _ h;omega|succ m ihm=>
    intro ab aa i fl hk h hi;have ac:t.kids.length=ab.length+aa.length:=by rw[hk];simp
    have hks:=qcc t;rw[qka,qy7]
    cases aa with
    |nil=>rw[ao (by simp only[qZ]at ac;omega)];exact⟨_,rfl,rfl⟩|cons k aa=>
     simp only[qL]at h ac;have hkm:k∈t.kids:=by rw[hk];simp
     have hx:ai t.kids (ab.length:Int)=some k:=by rw[hk];exact a7 ab k aa
     have hkz:=qgc hkm;rw[ag,hx,qB,c8,aq d,List.flatMap_cons,zf2]
     obtain⟨R,g1,g2⟩:=ih k (d+1) i fl oA oA hi
     rw[g1,qB];rw[show((d+1:Nat):Int)=(d:Int)+1 by omega]at g2
     cases hr:lj (bf n k ((d:Int)+1)) i fl with
     |none=>
      rw[hr]at g2;obtain⟨a,b,rfl⟩:=g2;exact⟨_,rfl,a,b,rfl⟩
     |some x=>
      rw[hr]at g2;simp only at g2;subst g2;simp only[be,qB];rw[aq _]
      have:=ihm (ab++[k]) aa x.1 x.2 (by rw[hk];simp) oA (zf3 _ _ _ _ hi hr)
      rw[qM,wD]at this;exact this
  have hks:=qcc t;exact loop fu [] t.kids (i+1) _ rfl oA oA
def gc:List (TP×Int)->Nat->Option (Int×Int)|[],_=>none|x::L,i=>if ko x.1 x.2≠0 then some (ko x.1 x.2,(i:Int)) else gc L (i+1)
def zf6:∀(L M:List (TP×Int))(i:Nat),gc (L++M) i=match gc L i with|some f=>some f|none=>gc M (i+L.length)
 |[],_,_=>rfl|x::L,M,i=>by
  rw[wK,gc,gc];by_cases h:ko x.1 x.2≠0
  ·rw[qX h,qX h]
  ·rw[qW h,qW h,zf6 L M,qL,Nat.add_assoc,Nat.add_comm 1]
def zo6(fu:Nat)(hfu:90000000<=fu)(z:Int×Int):∀(n:Nat)(t:TP)(d i:Nat),cv t<=n->cv t+d<=70000000->gd t->i+cv t<=70000000 ->
  ∃R,qeb fu n t (d:Int) (i:Int) z=some R/\match gc (bf n t (d:Int)) i with
   |some f=>∃a,R = .inl (a,f)|none=>R = .inr (((i+(bf n t (d:Int)).length:Nat):Int),z):=by
 intro n
 induction n with
 |zero=>intro t d i h;have:=qgd t;omega|succ n ih=>
  intro t d i hz hd hs hi;have htp:=qgd t;rw[qeb,qp2,qy5];rw[show((t.val.1,t.val.2):List (Bs×Bs)×Bs)=t.val from rfl,c8,zn1 fu hfu t _ (zp4 hs),qB,bf,gc,ip]
  by_cases hc:ko t (d:Int)≠0
  ·rw[qX hc,qX hc,qx];exact⟨_,rfl,_,rfl⟩
  rw[qW hc,qW hc,qB];simp only[be];rw[aq i]
  have loop:∀(m:Nat)(ab aa:List TP)(i:Nat),t.kids=ab++aa->aa.length<m->i+(aa.map cv).sum<=70000000 ->
    ∃R,qkb (qeb fu n) fu m (d:Int) t.kids (t.kids.length:Int) (ab.length:Int) (i:Int) z=some R/\match gc (aa.flatMap fun k=>bf n k ((d:Int)+1)) i with
     |some f=>∃a,R = .inl (a,f)|none=>R = .inr (((i+(aa.flatMap fun k=>bf n k ((d:Int)+1)).length:Nat):Int),z):=by
   intro m
   induction m with
   |zero=>intro ab aa i _ h;omega|succ m ihm=>
    intro ab aa i hk h hi;have ac:t.kids.length=ab.length+aa.length:=by rw[hk];simp
    have hks:=qcc t;rw[qkb,qy8]
    cases aa with
    |nil=>rw[ao (by simp only[qZ]at ac;omega)];exact⟨_,rfl,rfl⟩|cons k aa=>
     simp only[qL]at h ac;simp only[List.map_cons,List.sum_cons]at hi;have hkm:k∈t.kids:=by rw[hk];simp
     have hx:ai t.kids (ab.length:Int)=some k:=by rw[hk];exact a7 ab k aa
     have hkz:=qgc hkm;have hfl:=q2r n k ((d:Int)+1);rw[ag,hx,qB,c8,aq d,List.flatMap_cons,zf6]
     obtain⟨R,g1,g2⟩:=ih k (d+1) i oA oA (zp3 hs hkm) oA
     rw[g1,qB];rw[show((d+1:Nat):Int)=(d:Int)+1 by omega]at g2
     cases hr:gc (bf n k ((d:Int)+1)) i with
     |some f=>
      rw[hr]at g2;obtain⟨a,rfl⟩:=g2;exact⟨_,rfl,a,rfl⟩
     |none=>
      rw[hr]at g2;simp only at g2;subst g2;simp only[be];rw[aq _]
      have:=ihm (ab++[k]) aa (i+(bf n k ((d:Int)+1)).length) (by rw[hk];simp) oA oA
      rw[qM,wD]at this;rw[qM,← Nat.add_assoc];exact this
  have hks:=qcc t;have hsum:(t.kids.map cv).sum+2<=cv t:=by cases t;rw[vy];show(List.map cv _).sum+2<=_;simp only[Tree.kids];omega
  obtain⟨R,g1,g2⟩:=loop fu [] t.kids (i+1) rfl oA oA
  refine⟨R,g1,?_⟩;rw[qL,show i+((t.kids.flatMap fun k=>bf n k ((d:Int)+1)).length+1)=i+1+(t.kids.flatMap fun k=>bf n k ((d:Int)+1)).length by omega]
  exact g2
def mv(n:Nat)(t:TP):Int×Int:=if 40<(bf n t 0).length then(2,-1) else if(bf n t 0).any (fun x=>decide (8<x.2))=true then(2,-2) else(gc (bf n t 0) 0).getD (0,0)
def zuh(fu:Nat)(hfu:90000000<=fu)(t:TP)(hs:gd t):qj8 fu t=some (mv fu t):=by
 have hz:=hs.1;unfold qj8 qao;simp only[c8,qB];obtain⟨R,g1,g2⟩:=zo5 fu hfu (0,0) fu t 0 0 false oA oA oA
 rw[show((0:Nat):Int)=0 from rfl,zf4 _ _ _ oA,wO]at g2
 rw[show((0:Nat):Int)=0 from rfl]at g1
 have e1:qp0 fu t (0,0) false=R.elim (fun a2=>some (.inl (t,a2.2))) (fun b3=>some (.inr (t,b3.2))):=by
  unfold qp0 q8r;simp only[c8];rw[g1,qB];cases R<;>rfl
 rw[e1];unfold mv;by_cases h4:40<(bf fu t 0).length
 ·rw[qX h4]at g2;obtain⟨a,b,rfl⟩:=g2;rw[qX h4];rfl
 rw[qW h4]at g2;simp only at g2;subst g2;rw[qW h4];simp only[Sum.elim_inr,qB,be,Bool.false_or];cases hany:(bf fu t 0).any fun x=>decide (8<x.2)
 ·rw[au rfl,qW oC]
  obtain⟨R2,q1,q2⟩:=zo6 fu hfu (0,0) fu t 0 0 oA oA hs oA
  rw[show((0:Nat):Int)=0 from rfl]at q1 q2
  have e2:qp4 fu t (0,0)=R2.elim (fun a2=>some (.inl (t,a2.2))) (fun b3=>some (.inr (t,b3.2))):=by
   unfold qp4 q8s;simp only[c8];rw[q1,qB];cases R2<;>rfl
  rw[e2]
  cases hr:gc (bf fu t 0) 0 with
  |some f=>
   rw[hr]at q2;obtain⟨a,rfl⟩:=q2;rfl
  |none=>rw[hr]at q2;simp only at q2;subst q2;rfl
 ·rw[ar rfl,qX rfl];rfl
def zcd(fu:Nat)(hfu:90000000<=fu):∀(n:Nat)(t:TP)(d:Nat),cv t<=n->cv t+d<=70000000->cv t<=60000000 ->
  qdl fu n t (d:Int)=some ((bf n t (d:Int)).map (·.1),(bf n t (d:Int)).map (·.2)):=by
 have hrm:=og;intro n
 induction n with
 |zero=>intro t d h;have:=qgd t;omega|succ n ih=>
  intro t d hz hd hs;rw[qdl,qoo,bf];simp only[c8];have hks:=qcc t;have hsum:(t.kids.map cv).sum+2<=cv t:=by cases t;rw[vy];show(List.map cv _).sum+2<=_;simp only[Tree.kids];omega
  have loop:∀(m:Nat)(ab aa:List TP)(o:List (TP×Int)),t.kids=ab++aa->aa.length<m->o.length+(aa.map cv).sum<=70000000 ->
    qiz (qdl fu n) fu m (d:Int) (ab.length:Int) t (o.map (·.1)) (o.map (·.2))=some ((o++aa.flatMap fun k=>bf n k ((d:Int)+1)).map (·.1),(o++aa.flatMap fun k=>bf n k ((d:Int)+1)).map (·.2)):=by
   intro m
   induction m with
   |zero=>intro ab aa o _ h;omega|succ m ihm=>
    intro ab aa o hk h ho;have ac:t.kids.length=ab.length+aa.length:=by rw[hk];simp
    rw[qiz,qw7]
    cases aa with
    |nil=>rw[ao (by simp only[qZ]at ac;omega)];simp|cons k aa=>
     simp only[qL]at h ac;simp only[List.map_cons,List.sum_cons]at ho;have hkm:k∈t.kids:=by rw[hk];simp
     have hx:ai t.kids (ab.length:Int)=some k:=by rw[hk];exact a7 ab k aa
     have hkz:=qgc hkm;have hfl:=q2r n k ((d:Int)+1);rw[ag,hx,qB,c8,aq d,ih k (d+1) oA oA oA,qB,show((d+1:Nat):Int)=(d:Int)+1 by omega]
     simp only[c8];rw[ag,ag,aq _,← List.map_append,← List.map_append]
     have:=ihm (ab++[k]) aa (o++bf n k ((d:Int)+1)) (by rw[hk];simp) oA oP
     rw[qM,wD]at this;rw[List.flatMap_cons,← qS];exact this
  have:=loop fu [] t.kids [(t,(d:Int))] rfl oA oB
  exact this
def ztn(fu n:Nat)(hfu:90000000<=fu)(L:List (TP×Int))(hL:L.length<=40)(hs:∀x∈L,o5 x.1.val)(z:Int×Int):∀(ab aa:List (TP×Int)),L=ab++aa->aa.length<n ->
  qi3 fu n (L.map (·.1)) (L.map (·.2)) (ab.length:Int) z=some ((gc aa ab.length).getD (0,0)):=by
 induction n with
 |zero=>intro ab aa _ h;omega|succ n ih=>
  intro ab aa hp h;have ac:L.length=ab.length+aa.length:=by rw[hp];simp
  rw[qi3,qxe]
  cases aa with
  |nil=>rw[ao (by rw[wC];simp only[qZ]at ac;omega)];rfl|cons x aa=>
   simp only[qL]at h ac
   have i1:ai (L.map (·.1)) (ab.length:Int)=some x.1:=by
    have:=a7 (ab.map (·.1)) x.1 (aa.map (·.1));rw[wC]at this;rw[hp,List.map_append,List.map_cons];exact this
   have i2:ai (L.map (·.2)) (ab.length:Int)=some x.2:=by
    have:=a7 (ab.map (·.2)) x.2 (aa.map (·.2));rw[wC]at this;rw[hp,List.map_append,List.map_cons];exact this
   have hx:=hs x (by rw[hp];simp)
   rw[ag oR,i1,qB,i2,qB,c8,ztj fu hfu x.1 x.2 hx,qB,ip,gc]
   by_cases hc:ko x.1 x.2≠0
   ·rw[qX hc,qX hc,ye];rfl
   ·rw[qW hc,qW hc,aq _]
    have:=ih (ab++[x]) aa (by rw[hp];simp) oA
    rw[qM,wD]at this;exact this
def ztm(fu n:Nat)(hfu:90000000<=fu)(L:List (TP×Int))(hL:L.length<=40)(hs:∀x∈L,o5 x.1.val)(z:Int×Int):∀(ab aa:List (TP×Int)),L=ab++aa->aa.length<n ->
  qi2 fu n (L.map (·.1)) (L.map (·.2)) (ab.length:Int) z=some (if aa.any (fun x=>decide (8<x.2))=true then(2,-2) else(gc L 0).getD (0,0)):=by
 induction n with
 |zero=>intro ab aa _ h;omega|succ n ih=>
  intro ab aa hp h;have ac:L.length=ab.length+aa.length:=by rw[hp];simp
  rw[qi2,qxd]
  cases aa with
  |nil=>
   rw[ao (by rw[wC];simp only[qZ]at ac;omega)]
   exact ztn fu fu hfu L hL hs z [] L rfl oA
  |cons x aa=>
   simp only[qL]at h ac
   have i2:ai (L.map (·.2)) (ab.length:Int)=some x.2:=by
    have:=a7 (ab.map (·.2)) x.2 (aa.map (·.2));rw[wC]at this;rw[hp,List.map_append,List.map_cons];exact this
   rw[ag oR,i2,qB,bn,List.any_cons]
   by_cases hc:8<x.2
   ·rw[qX hc,ye,decide_eq_true hc,Bool.true_or,qX rfl];rfl
   ·rw[qW hc,decide_eq_false hc,Bool.false_or,aq _]
    have:=ih (ab++[x]) aa (by rw[hp];simp) oA
    rw[qM,wD]at this;exact this
def ztk(fu:Nat)(hfu:90000000<=fu)(t:TP)(hs:gd t):qoq fu t=some (mv fu t):=by
 unfold qoq qon mv;simp only[c8];have hz:=hs.1;have:=zcd fu hfu fu t 0 oA oA hs.1
 rw[show((0:Nat):Int)=0 from rfl]at this
 rw[this,qB];simp only;rw[bn,wC];by_cases h4:40<(bf fu t 0).length
 ·rw[qX oA,qX h4,ye];rfl
 ·rw[qW oA,qW h4]
  exact ztm fu fu hfu _ oA (fun x hx=>hs.2 fu 0 x hx) (0,0) [] _ rfl oA

abbrev emT:TP:=Tree.node ([],[]) []
section sec
variable(fu:Nat)(hfu:90000000<=fu)(path:List Int)(hp:path.length<=2000000)(z:Int×Int)
include hfu hp
end sec
def zf7:∀(L:List (TP×Int))(i:Nat)(f:Int×Int),gc L i=some f->f.1≠0/\∃x∈L,f.1=ko x.1 x.2
 |[],_,_,h=>by cases h
 |x::L,i,f,h=>by
  rw[gc]at h;by_cases hc:ko x.1 x.2≠0
  ·rw[qX hc]at h;cases h;exact⟨hc,x,qH,rfl⟩
  ·rw[qW hc]at h;obtain⟨h1,y,h2,h3⟩:=zf7 L _ _ h;exact⟨h1,y,qE _ h2,h3⟩
def zf5:∀(L:List (TP×Int))(i:Nat),(∀x∈L,ko x.1 x.2=0)->gc L i=none
 |[],_,_=>rfl|x::L,i,h=>by
  rw[gc,qW (by simpa using h x qH)]
  exact zf5 L (i+1) fun y hy=>h y (qE _ hy)
def zf8:∀(L:List (TP×Int))(i:Nat),gc L i=none->∀x∈L,ko x.1 x.2=0
 |[],_,_,x,hx=>by cases hx
 |y::L,i,h,x,hx=>by
  rw[gc]at h;split at h
  ·cases h
  ·rename_i hc;rcases List.mem_cons.1 hx with e|e
   ·rw[e];omega
   ·exact zf8 L _ h x e
def zel{fu:Nat}{t:TP}(h:(mv fu t).1=0):(bf fu t 0).length<=40/\(∀x∈bf fu t 0,ko x.1 x.2=0)/\∀x∈bf fu t 0,x.2<=8:=by
 unfold mv at h;split at h
 ·cases h
 ·rename_i h1;split at h
  ·cases h
  ·rename_i h2;have hn:gc (bf fu t 0) 0=none:=by
    cases hr:gc (bf fu t 0) 0 with|none=>rfl|some f=>rw[hr]at h;exact absurd h (zf7 _ _ f hr).1
   refine⟨oA,fun x hx=>zf8 _ _ hn x hx,fun x hx => ?_⟩
   have:¬(8<x.2):=fun q=>h2 (List.any_eq_true.2 ⟨x,hx,by simpa using q⟩)
   omega
def qme{t:TP}{d:Int}(h:ko t d=0):t.val.1.length<=60/\(∀x∈t.val.1,x.1.length<=60/\x.2.length<=4000)/\(t.kids.length=0->t.val.2.length<=12000):=by
 unfold ko at h;split at h
 ·rename_i q;exact absurd h q
 ·rename_i q;obtain⟨_,h1,h2⟩:=zpk (l:=t.val.1) (by simpa using q)
  refine⟨h1,fun x hx=>⟨(zd6 (h2 x hx)).1,(zd6 (h2 x hx)).2.1⟩,fun h0 => ?_⟩
  rw[qW oA]at h
  split at h
  ·cases h
  ·omega
end Go.Sym
namespace Go.Sym
def dz(l:List bp):ef:=match gz l with|some m=>m|none=>([116,101,120,116],([112,108,97,105,110],[]))
def qug(l:List bp):ur (dz l)/\(ib (dz l)).1=0:=by
 unfold dz
 cases h:gz l with
 |none=>exact⟨⟨oC,oC,by simp[la]⟩,by decide +kernel⟩|some m=>
  unfold gz at h;split at h
  ·exact zen h
  ·cases h
def zhv(fu:Nat)(hfu:90000000<=fu)(t:TP)(hl:t.val.1.length<=4000000)(hs:∀x∈t.val.1,x.1.length<=4000000/\x.2.length<=4000000):qeg fu t=some (dz t.val.1):=by
 obtain⟨R,g1,g2⟩:=q5u fu hfu t.val.1 hs hl;unfold qeg dz;rw[g1,qB]
 cases h:gz t.val.1 with
 |none=>
  rw[h]at g2;obtain⟨k,rfl⟩:=g2;rfl
 |some m=>
  rw[h]at g2;obtain⟨ab,x,aa,_,_,_,_,_,rfl⟩:=g2;rfl
def Fv(t:TP):Prop:=t.val.1.length<=60/\∀x∈t.val.1,x.1.length<=60/\x.2.length<=4000
def zzf(fu:Nat)(hfu:90000000<=fu)(m:ef)(nm:Bs)(hn:nm.length<=4000000)(hs:ur m)(h0:(ib m).1=0):rz fu m nm=some ((ce m.2.2 nm).1,((ce m.2.2 nm).2,(0,0))):=by
 rw[q3s fu hfu m nm hn hs,qW (by simpa using h0)]
def zze:qxp 100000000=some true:=oD
end Go.Sym
namespace Go.Sym.Tr
def lo(c:UInt8):UInt8:=if 65<=c/\c<=90 then c+32 else c
def q3h(c:UInt8):(c+97)-65=c+32:=by
 rw[UInt8.sub_eq_add_neg,UInt8.add_assoc];rfl
def ql5(fu:Nat):∀(n:Nat)(ab aa:List UInt8),aa.length<n->ab.length+aa.length<=9223372036854775807 ->
  ul fu n ((ab.length+aa.length:Nat):Int) (ab.length:Int) (ab++aa)=some (ab++aa.map lo)
 |0,_,_,h,_=>absurd h oA|n+1,ab,[],_,_=>by simp[ul,qdv]|n+1,ab,c::aa,h,hb=>by
  simp only[qL]at h hb;have ih:=fun d=>ql5 fu n (ab++[d]) aa oA oB
  simp only[qM,qL,qZ,qS,wM,wO]at ih;have e:((ab.length+(c::aa).length:Nat):Int)=((ab.length+1+aa.length:Nat):Int):=by simp only[qL];omega
  have hl:0<=(ab.length:Int)/\(ab.length:Int).toNat<(ab++c::aa).length:=oC
  rw[e];simp only[ul,qdv];rw[ag,ag hl,xu,qB,qmt,aq _,bn,bn,ih,ih,ag hl,qB]
  unfold lo;simp only[List.map_cons,q3h];by_cases h1:(65:UInt8)<=c
  ·by_cases h2:c<=90
   ·simp[h1,h2]
   ·simp[h1,h2]
  ·simp[h1]
def qfu(fu:Nat)(s:List UInt8)(h:s.length<fu)(hb:s.length<=maxLen):wv fu s=some (s.map lo):=by
 unfold wv;rw[ag hb];have:=ql5 fu fu [] s h (by simpa [maxLen] using hb)
 simpa using this
def gw(x a b:Int):ej x a b=some (decide (a<=x/\x<=b)):=by
 unfold ej;by_cases h:a<=x<;>simp[h]
def qm1(a b:UInt8):((a.toNat:Int)<=(b.toNat:Int))↔a<=b:=by rw[UInt8.le_iff_toNat_le];omega
def qmi(fu:Nat):∀(n:Nat)(ab aa:List UInt8),aa.length<n->ab.length+aa.length<=9223372036854775807 ->
  uh fu n (ab.length:Int) (ab++aa)=some (ab++aa.map lo)
 |0,_,_,h,_=>absurd h oA|n+1,ab,[],_,_=>by simp[uh,qcz]|n+1,ab,c::aa,h,hb=>by
  simp only[qL]at h hb;have ih:=fun d=>qmi fu n (ab++[d]) aa oA oB
  simp only[qM,qL,qZ,qS,wM,wO]at ih;have hl:0<=(ab.length:Int)/\(ab.length:Int).toNat<(ab++c::aa).length:=oC
  simp only[uh,qcz];rw[ag,ag hl,xu,qB,gw,qB,aq _,bn,ag hl,qB,ag hl,qB,qmt,ih,ih]
  unfold lo;simp only[List.map_cons];have e1:=qm1 65 c;have e2:=qm1 c 90;have q1:((65:UInt8).toNat:Int)=65:=rfl;have q2:((90:UInt8).toNat:Int)=90:=rfl;rw[q1]at e1;rw[q2]at e2;by_cases h1:(65:UInt8)<=c/\c<=90
  ·rw[qX ⟨e1.2 h1.1,e2.2 h1.2⟩,qX h1]
  ·rw[qW (fun q=>h1 ⟨e1.1 q.1,e2.1 q.2⟩),qW h1]
def vn(fu:Nat)(s:List UInt8)(h:s.length<fu)(hb:s.length<=maxLen):pp fu s=some (s.map lo):=by
 unfold pp;rw[ag hb];have:=qmi fu fu [] s h (by simpa [maxLen] using hb)
 simpa using this
def zwy(fu:Nat)(a b:List UInt8)(ha:a.length<fu)(hb:b.length<fu)(ha':a.length<=maxLen)(hb':b.length<=maxLen):ek fu a b=some (a.map lo==b.map lo):=by
 unfold ek;rw[eu,qfu fu a ha ha',qfu fu b hb hb'];by_cases h:(a.length:Int)=b.length
 ·rw[qX h];rfl
 ·rw[qW h];have:(a.map lo==b.map lo)=false:=by
   rw[beq_eq_false_iff_ne];intro q;apply h;have:=congrArg List.length q;simp only[wC]at this;omega
  rw[this]
def qrc(fu:Nat)(a b:List UInt8)(ha:a.length<fu)(hb:b.length<fu)(ha':a.length<=maxLen)(hb':b.length<=maxLen):ei fu a b=some (a.map lo==b.map lo):=by
 unfold ei;rw[vn fu a ha ha',vn fu b hb hb'];rfl
abbrev n7:List UInt8:=[55,98,105,116]
abbrev n8:List UInt8:=[56,98,105,116]
abbrev mp:List UInt8:=[98,97,115,101,54,52]
abbrev mr:List UInt8:=[113,117,111,116,101,100,45,112,114,105,110,116,97,98,108,101]
def cod(s:List UInt8):Int:=if n7.map lo=s.map lo then 0 else if n8.map lo=s.map lo then 1 else if mp.map lo=s.map lo then 2 else if mr.map lo=s.map lo then 3 else -1
def zaa{α:Type}{a b:List UInt8}{x y:α}:(bif a==b then x else y)=if a=b then x else y:=by
 by_cases h:a=b
 ·rw[ar (by simp[h]),qX h]
 ·rw[au (by simp[h]),qW h]
def coding_eq(fu:Nat)(s:List UInt8)(hf:20<=fu)(h:s.length<fu)(hb:s.length<=maxLen):qiu fu s=some (cod s):=by
 unfold qiu;have A:∀a:List UInt8,a.length<=16->ei fu a s=some (a.map lo==s.map lo):=fun a ha=>qrc fu a s oA h oN hb
 simp only[ag (show 0<=(0:Int)/\(0:Int).toNat<List.length [n7,n8,mp,mr] by decide),ag (show 0<=(1:Int)/\(1:Int).toNat<List.length [n7,n8,mp,mr] by decide),ag (show 0<=(2:Int)/\(2:Int).toNat<List.length [n7,n8,mp,mr] by decide),ag (show 0<=(3:Int)/\(3:Int).toNat<List.length [n7,n8,mp,mr] by decide)]
 simp only[show([n7,n8,mp,mr])[(0:Int).toNat]? = some n7 from rfl,show([n7,n8,mp,mr])[(1:Int).toNat]? = some n8 from rfl,show([n7,n8,mp,mr])[(2:Int).toNat]? = some mp from rfl,show([n7,n8,mp,mr])[(3:Int).toNat]? = some mr from rfl,qB]
 rw[A n7 oE,A n8 oE,A mp oE,A mr oE]
 simp only[qB,zaa];unfold cod;simp only[qt7]
def zpn(fu:Nat)(s:List UInt8)(hf:20<=fu)(h:s.length<fu)(hb:s.length<=maxLen):qqs fu s=some (if cod s=0 then .inl (n7,(true,127)) else if cod s=1 then .inl (n8,(true,255)) else if cod s=2 then .inr (.inl (mp,true)) else if cod s=3 then .inr (.inr (.inl (mr,true))) else .inr (.inr (.inr ([],false)))):=by
 unfold qqs qqt;have A:∀a:List UInt8,a.length<=16->ek fu a s=some (a.map lo==s.map lo):=fun a ha=>zwy fu a s oA h oN hb
 simp only[qB];rw[A n7 oE,A n8 oE,A mp oE,A mr oE]
 simp only[qB,zaa];unfold cod;by_cases h0:n7.map lo=s.map lo
 ·simp only[qX h0];rfl
 ·by_cases h1:n8.map lo=s.map lo
  ·simp only[qW h0,qX h1];rfl
  ·by_cases h2:mp.map lo=s.map lo
   ·simp only[qW h0,qW h1,qX h2];rfl
   ·by_cases h3:mr.map lo=s.map lo
    ·simp only[qW h0,qW h1,qW h2,qX h3];rfl
    ·simp only[qW h0,qW h1,qW h2,qW h3];rfl
end Go.Sym.Tr
namespace Go.Sym.Tr
def wr(m:UInt8)(col i:Nat):List UInt8->Int|[] => -1|c::r=>if(c==13&&r.head? == some 10)=true then wr m 0 (i+2) r.tail else if c=0\/c=13\/c=10\/m<c\/col=998 then(i:Int) else wr m (col+1) (i+1) r
termination_by l=>l.length
decreasing_by all_goals (simp only[qL,List.length_tail];omega)
end Go.Sym.Tr
namespace Go.Sym.Tr
def qre:List UInt8:=[65,66,67,68,69,70,71,72,73,74,75,76,77,78,79,80,81,82,83,84,85,86,87,88,89,90,97,98,99,100,101,102,103,104,105,106,107,108,109,110,111,112,113,114,115,116,117,118,119,120,121,122,48,49,50,51,52,53,54,55,56,57,43,47]
def al(k:Nat):UInt8:=qre.getD k 0
def c0(x:Nat):UInt8:=al (x/262144%64)
def c1(x:Nat):UInt8:=al (x/4096%64)
def c2(x:Nat):UInt8:=al (x/64%64)
def c3(x:Nat):UInt8:=al (x%64)
def qti(x:Nat)(h:x<18446744073709551616:=by omega):(BitVec.ofInt 64 (x:Int)).toNat=x:=by
 rw[BitVec.toNat_ofInt];omega
end Go.Sym.Tr
namespace Go.Sym.Tr
end Go.Sym.Tr
namespace Go.Sym.Tr
def zsp(c:UInt8):List Nat:=[c.toNat/128%2,c.toNat/64%2,c.toNat/32%2,c.toNat/16%2,c.toNat/8%2,c.toNat/4%2,c.toNat/2%2,c.toNat%2]
def bits(b:List UInt8):List Nat:=b.flatMap zsp
abbrev jt(l:List Nat):List Int:=l.map Int.ofNat
def znf(x k:Nat)(p:Int)(hp:p=(k:Int))(hk:k<=30):Int.tmod (Int.fdiv (x:Int) (2 ^ min p.toNat 64)) 2=((x/2 ^ k%2:Nat):Int):=by
 subst hp;have e1:min (k:Int).toNat 64=k:=oA
 have e2:Int.fdiv (x:Int) (2 ^ k)=((x/2 ^ k:Nat):Int):=by
  rw[Int.fdiv_eq_ediv_of_nonneg _ (by exact Int.le_of_lt (Int.pow_pos oE))]
  simp
 rw[e1,e2,Int.tmod_eq_emod_of_nonneg (Int.natCast_nonneg _)];generalize x/2 ^ k=y;omega
def dp(a:Nat):List Nat->Nat|[]=>a|x::l=>dp (2*a+x) l
def zxx(fu n:Nat):∀(ab aa:List Nat)(a:Nat),aa.length<n->ab.length+aa.length<9223372036854775807->(∀x∈aa,x<=1)->(a+1)*2 ^ aa.length<=1099511627776 ->
  qdi fu n (jt (ab++aa)) (a:Int) (ab.length:Int)=some ((dp a aa:Nat):Int):=by
 induction n with
 |zero=>intro ab aa a h;omega|succ n ih=>
  intro ab aa a h hb h1 ho
  cases aa with
  |nil=>rw[qdi,qoi,ao];rfl|cons c aa=>
   simp only[qL]at h hb ho;have hc:=h1 c qH;have hidx:ai (jt (ab++c::aa)) (ab.length:Int)=some (c:Int):=by
    have:=a7 (jt ab) (c:Int) (jt aa);simpa [jt] using this
   have hp:2 ^ (aa.length+1)=2*2 ^ aa.length:=by rw[Nat.pow_succ];omega
   have hpos:1<=2 ^ aa.length:=Nat.one_le_two_pow;have hle:(2*a+c+1)*2 ^ aa.length<=1099511627776:=by
    refine Nat.le_trans ?_ ho;rw[hp,← Nat.mul_assoc];exact Nat.mul_le_mul_right _ oA
   have ha:a+1<=1099511627776:=by
    refine Nat.le_trans ?_ ho;exact Nat.le_mul_of_pos_right _ (by rw[hp];omega)
   rw[qdi,qoi,ag,hidx,qB,aq _]
   have e:ae (ae (2*(a:Int))+(c:Int))=((2*a+c:Nat):Int):=by
    rw[bq (x:=2*(a:Int)) oA oA,bq];omega
   rw[e];have:=ih (ab++[c]) aa (2*a+c) oA oB (fun x hx=>h1 x (qE _ hx)) hle
   simp only[qM,qL,qZ,wO,qS,wM]at this;rw[this];rfl
def zxw(fu:Nat)(l:List Nat)(h:8<fu)(hl:l.length<=8)(h1:∀x∈l,x<=1):qwu fu (jt l)=some ((dp 0 l:Nat):Int):=by
 have:=zxx fu fu [] l 0 oA oB h1 (by
  have:2 ^ l.length<=2 ^ 8:=Nat.pow_le_pow_right oA hl
  omega)
 exact this
def q5f:∀(l:List Nat)(a:Nat),(∀x∈l,x<=1)->dp a l+1<=(a+1)*2 ^ l.length
 |[],a,_=>by simp[dp]|x::l,a,h=>by
  have:=q5f l (2*a+x) (fun y hy=>h y (qE _ hy))
  have hx:=h x qH;unfold dp;refine Nat.le_trans this ?_;rw[qL,Nat.pow_succ,Nat.mul_comm (2 ^ l.length) 2,← Nat.mul_assoc];exact Nat.mul_le_mul_right _ oA
def n6(a:Nat)(h:a<256):2*(2*(2*(2*(2*(2*0+a/128%2)+a/64%2)+a/32%2)+a/16%2)+a/8%2)+a/4%2=a/4:=oA
def n2(a:Nat):2*(2*0+a/2%2)+a%2=a%4:=oA
def n4(t b:Nat)(h:b<256):2*(2*(2*(2*t+b/128%2)+b/64%2)+b/32%2)+b/16%2=16*t+b/16:=oA
def x0(a b c:Nat)(h:a<256)(hb:b<256)(hc:c<256):(a*65536+b*256+c)/262144%64=a/4:=oA
def x1(a b c:Nat)(h:a<256)(hb:b<256)(hc:c<256):(a*65536+b*256+c)/4096%64=16*(a%4)+b/16:=oA
def x2(a b c:Nat)(h:a<256)(hb:b<256)(hc:c<256):(a*65536+b*256+c)/64%64=4*(b%16)+c/64:=oA
def x3(a b c:Nat)(h:a<256)(hb:b<256)(hc:c<256):(a*65536+b*256+c)%64=c%64:=oA
end Go.Sym.Tr
namespace Go.Sym.Tr
def iq(P:UInt8->Prop)(h:∀n:_root_.Fin 256,P (UInt8.ofNat n.val))(c:UInt8):P c:=by
 have:=h ⟨c.toNat,c.toNat_lt⟩;simpa using this
def isL:List UInt8->Bool|a::b::_=>a==13&&b==10|_=>false
def nv{α:Type}(ab:List α)(aa:List α):List.drop ((ab.length:Nat):Int).toNat (ab++aa)=aa:=oC
def qfb{α:Type}(ab:List α)(c:α)(aa:List α):List.drop ((ab.length+1:Nat):Int).toNat (ab++c::aa)=aa:=by
 rw[show((ab.length+1:Nat):Int).toNat=(ab++[c]).length by simp,show ab++c::aa=(ab++[c])++aa by simp]
 simp
end Go.Sym.Tr
namespace Go.Sym.Tr
def two(c:UInt8):List UInt8:=(rx c).getD []
def que:∀n:_root_.Fin 256,rx (UInt8.ofNat n.val)=some (two (UInt8.ofNat n.val))/\(two (UInt8.ofNat n.val)).length=2:=by decide +kernel
def zhf(c:UInt8):rx c=some (two c):=(iq (fun c=>rx c=some (two c)/\(two c).length=2) que c).1
def q5r(c:UInt8):(two c).length=2:=(iq (fun c=>rx c=some (two c)/\(two c).length=2) que c).2
def blB(c:UInt8):Bool:=bif c==32 then true else c==9
def qb3(c:UInt8):lz c=some (blB c):=by unfold lz blB;cases c==32<;>rfl
end Go.Sym.Tr
namespace Go.Sym.Tr
def sp:List UInt8->List UInt8×List UInt8|[]=>([],[])|c::r=>if isL (c::r) then([],c::r) else(c::(sp r).1,(sp r).2)
end Go.Sym.Tr
namespace Go.Sym.Tr
def cod_cases(s:List UInt8):cod s=0\/cod s=1\/cod s=2\/cod s=3\/cod s = -1:=by
 unfold cod;split
 ·exact .inl rfl
 ·split
  ·exact .inr (.inl rfl)
  ·split
   ·exact .inr (.inr (.inl rfl))
   ·split
    ·exact .inr (.inr (.inr (.inl rfl)))
    ·exact .inr (.inr (.inr (.inr rfl)))
def za6(b:List UInt8)(h:b.length<=12000:=by omega):qqr b=some ((0,0),b):=by
 unfold qqr dx;rw[ag (by simp only[a6];omega)];rfl
end Go.Sym.Tr
