/- What the claim rests on, part 5: gathered texts. -/
import Derived.Sort.AssemblyPlain
import Derived.Lib.CountLaws
import Derived.Lib.IndexLaws
import Derived.Test.YtbcijcbgdaggdabGreatDoorSyY3
set_option maxRecDepth 100000
set_option linter.defProp false
set_option linter.unusedSimpArgs false
set_option linter.unusedVariables false
namespace Go.Sym
def ee{x:Int}(h1 : -9223372036854775808<=x)(h2:x<9223372036854775808):af x=x:=by
 unfold af IntKind.wrap;simp[IntKind.signed,IntKind.bits];omega
def bh{α:Type}{b:Bool}{x y:α}(h:b=true):(bif b then x else y)=x:=by subst h;rfl
def bi{α:Type}{b:Bool}{x y:α}(h:b=false):(bif b then x else y)=y:=by subst h;rfl
def dc{α:Type}{p:Prop}[Decidable p]{x y:α}:(bif decide p then x else y)=if p then x else y:=by by_cases h:p<;>simp[h]
def am{α:Type}{p:Prop}[Decidable p]{x y:α}(h:p):(bif decide p then x else y)=x:=bh (decide_eq_true h)
def ay{α:Type}{p:Prop}[Decidable p]{x y:α}(h:¬p):(bif decide p then x else y)=y:=bi (decide_eq_false h)
def zcj{α:Type}{b:Bool}{x y:α}:(bif !b then x else y)=if b=false then x else y:=by cases b<;>rfl
def zci{α:Type}{b:Bool}{x y:α}:(bif b then x else y)=if b=true then x else y:=by cases b<;>rfl
def mf{α:Type}{a b:Int}{x y:α}:(bif a != b then x else y)=if a≠b then x else y:=by
 by_cases h:a=b
 ·rw[bi (by simp[h]),qW (by simp[h])]
 ·rw[bh (by simp[h]),qX h]
def g7{α:Type}{a b:Int}{x y:α}:(bif a==b then x else y)=if a=b then x else y:=by
 by_cases h:a=b
 ·rw[bh (by simp[h]),qX h]
 ·rw[bi (by simp[h]),qW h]
def rl{α:Type}{a b:UInt8}{x y:α}:(bif a==b then x else y)=if a=b then x else y:=by
 by_cases h:a=b
 ·rw[bh (by simp[h]),qX h]
 ·rw[bi (by simp[h]),qW h]
def q0n{α:Type}{a b:UInt8}{x y:α}:(bif a != b then x else y)=if a≠b then x else y:=by
 by_cases h:a=b
 ·rw[bi (by simp[h]),qW (by simp[h])]
 ·rw[bh (by simp[h]),qX h]
def zwx{α:Type}{p:Prop}[Decidable p]{x y:α}:(if p then some x else some y)=some (if p then x else y):=by split<;>rfl
def zig{α β:Type}(l:List α)(i:Int)(f:α->Option β):(bif decide (0<=i/\i.toNat<List.length l) then(l[i.toNat]?).bind f else none)=(ap l i).bind f:=by
 unfold ap;by_cases h:0<=i
 ·by_cases h2:i.toNat<l.length
  ·simp[h,h2]
  ·simp[h,h2]
 ·simp[h]
def qdg{α:Type}(l:List α)(k:Nat)(h:k<l.length):ap l (k:Int)=some l[k]:=by
 unfold ap;rw[qX (by omega)];simp[h]
def cz{α:Type}(ab:List α)(c:α)(aa:List α):ap (ab++c::aa) (ab.length:Int)=some c:=by
 unfold ap;rw[qX (by omega)];simp
def qc9{α:Type}(ab:List α)(c:α)(aa:List α):(ab++c::aa)[((ab.length:Nat):Int).toNat]? = some c:=by simp
def qtg{α:Type}(ab:List α)(c d:α)(aa:List α):List.set (ab++c::aa) ((ab.length:Nat):Int).toNat d=ab++d::aa:=by simp
def bj(k:Nat)(h:k<9223372036854775807):af ((k:Int)+1)=((k+1:Nat):Int):=by rw[ee (by omega) (by omega)];omega
def lf(P:UInt8->Prop)(h:∀n:_root_.Fin 256,P (UInt8.ofNat n.val))(c:UInt8):P c:=by
 have:=h ⟨c.toNat,c.toNat_lt⟩;simpa using this
def lo(c:UInt8):UInt8:=if 65<=c/\c<=90 then c+32 else c
def bl(c:UInt8):Bool:=c==32||c==9
def dn(l:List UInt8):List UInt8:=(l.reverse.dropWhile bl).reverse
def d6(l:List UInt8):List UInt8:=l.dropWhile bl
def qta(t:List UInt8)(c:UInt8):dn (t++[c])=if bl c then dn t else t++[c]:=by
 unfold dn;rw[List.reverse_append,List.reverse_singleton,wM,List.dropWhile];cases bl c
 ·simp
 ·simp
def ng(n:Nat)(h:n<1000000000):af (((n+1:Nat):Int)-1)=(n:Int):=by rw[ee (by omega) (by omega)];omega
def qdf{α:Type}(t:List α)(c:α):ap (t++[c]) (t.length:Int)=some c:=cz t c []
def vt{α:Type}(t:List α)(c:α):List.take ((t.length:Nat):Int).toNat (t++[c])=t:=by simp
def mt{α:Type}(t:List α)(c:α):((t++[c]).length:Int)=((t.length+1:Nat):Int):=by simp
def od{α:Type}(ab:List α)(aa:List α):List.drop ((ab.length:Nat):Int).toNat (ab++aa)=aa:=by simp
def qef{α:Type}(ab:List α)(aa:List α):List.take ((ab.length:Nat):Int).toNat (ab++aa)=ab:=by simp
def qcz{α:Type}(ab:List α)(c:α)(aa:List α):List.drop ((ab.length+1:Nat):Int).toNat (ab++c::aa)=aa:=by
 rw[show((ab.length+1:Nat):Int).toNat=(ab++[c]).length by simp,show ab++c::aa=(ab++[c])++aa by simp]
 simp
def ja{α:Type}(ab:List α)(c:α)(aa:List α):((ab++c::aa).length:Int)=((ab.length+aa.length+1:Nat):Int):=by simp;omega
def zhm{α:Type}(ab:List α)(aa:List α):((ab++aa).length:Int)=((ab.length+aa.length:Nat):Int):=by simp
def qdc(k:UInt8)(t r:List UInt8)(h:∀x∈t,x≠k):Lib.indexByte (t++k::r) k=(t.length:Int):=by
 induction t with
 |nil=>simp[Lib.indexByte]|cons c t ih=>
  have hc:=h c qH;rw[wK,Lib.indexByte,ih (fun x hx=>h x (qE _ hx)),qW (by simpa using hc),qW (by simp<;>omega)]
  simp
def qdd(k:UInt8)(t:List UInt8)(h:∀x∈t,x≠k):Lib.indexByte t k = -1:=by
 induction t with
 |nil=>rfl|cons c t ih=>
  have hc:=h c qH;rw[Lib.indexByte,ih (fun x hx=>h x (qE _ hx)),qW (by simpa using hc),qX (by decide)]
def qjv(k:UInt8):∀(s:List UInt8),(∃t r,s=t++k::r/\∀x∈t,x≠k)\/∀x∈s,x≠k
 |[] => .inr (fun _ h=>by cases h)
 |c::s=>by
  by_cases hc:c=k
  ·subst hc;exact .inl ⟨[],s,rfl,fun _ h=>by cases h⟩
  ·rcases qjv k s with⟨t,r,rfl,h⟩|h
   ·exact .inl ⟨c::t,r,rfl,fun x hx=>(List.mem_cons.1 hx).elim (fun e=>e▸hc) (h x)⟩
   ·exact .inr fun x hx=>(List.mem_cons.1 hx).elim (fun e=>e▸hc) (h x)
def q20(k:UInt8)(s:List UInt8):(0<=Lib.indexByte s k)↔k∈s:=by
 rcases qjv k s with⟨t,r,rfl,h⟩|h
 ·rw[qdc k t r h];simp
 ·rw[qdd k s h];constructor
  ·intro h;omega
  ·intro hk;exact absurd rfl (h k hk)
def fc{α:Type}{x y:α}:(bif !false then x else y)=x:=rfl
def dm{α:Type}{x y:α}:(bif !true then x else y)=y:=rfl
def zcf(a b:UInt8):(a==b)=(b==a):=by
 by_cases h:a=b
 ·rw[h]
 ·rw[beq_false_of_ne h,beq_false_of_ne (Ne.symm h)]
def q0t{a b:Nat}(h:a<b):Nat.blt a b=true:=Nat.ble_eq_true_of_le h
def q0s{a b:Nat}(h:¬a<b):Nat.blt a b=false:=by
 cases hq:Nat.blt a b
 ·rfl
 ·exact absurd (Nat.le_of_ble_eq_true hq) h
def qrv(l:List UInt8)(k:Nat)(c:UInt8)(h:l[k]? = some c):(⟨l.toArray⟩:ByteArray).get! k=c:=by
 obtain⟨hk,rfl⟩:=List.getElem?_eq_some_iff.1 h;show(l.toArray)[k]! = _;simp[hk]
def zi0(l:List UInt8):(⟨l.toArray⟩:ByteArray).size=l.length:=by simp[ByteArray.size]
def q45(s:List UInt8)(p:Nat)(c:UInt8)(h:s[p]? = some c)(hc:c.toNat<128):dt s p=(c.toNat,1):=by
 unfold dt Utf8.decode;simp only[Nat.add_zero,qrv s p c h,hc,if_true]
def zh2(s:List UInt8)(p:Nat)(c:UInt8)(h:s[p]? = some c)(hc:128<=c.toNat):128<=(dt s p).1/\1<=(dt s p).2/\∀j,j<(dt s p).2->∃d,s[p+j]? = some d/\128<=d.toNat:=by
 have hn:¬c.toNat<128:=by omega
 have cont:∀k,(decide (p+k<(⟨s.toArray⟩:ByteArray).size)&&((⟨s.toArray⟩:ByteArray).get! (p+k)).toNat/64==2)=true->∃d,s[p+k]? = some d/\128<=d.toNat:=by
  intro k hk;simp only[qA,decide_eq_true_eq,beq_iff_eq,zi0]at hk;obtain⟨h1,h2⟩:=hk;refine⟨s[p+k],by simp[h1],?_⟩
  rw[qrv s (p+k) s[p+k] (by simp[h1])]at h2
  omega
 have z:∀j,j<1->∃d,s[p+j]? = some d/\128<=d.toNat:=fun j hj=>by
  obtain rfl:j=0:=by omega
  exact⟨c,h,hc⟩
 unfold dt Utf8.decode;simp only[Nat.add_zero,qrv s p c h,hn,if_false];split
 ·rename_i hk;simp only[qA]at hk;have c1:=cont 1 (by simpa using hk.2)
  split
  ·rename_i hge;refine⟨hge,by simp,fun j hj => ?_⟩
   match j,hj with|0,_=>exact⟨c,h,hc⟩|1,_=>exact c1
  ·exact⟨by simp[Utf8.runeError],wF _,z⟩
 ·split
  ·rename_i hk;simp only[qA]at hk;have c1:=cont 1 (by simpa using hk.1.2)
   have c2:=cont 2 (by simpa using hk.2)
   split
   ·rename_i hge;simp only[qA,decide_eq_true_eq]at hge;refine⟨by simp only;omega,by simp,fun j hj => ?_⟩
    match j,hj with|0,_=>exact⟨c,h,hc⟩|1,_=>exact c1|2,_=>exact c2
   ·exact⟨by simp[Utf8.runeError],wF _,z⟩
  ·split
   ·rename_i hk;simp only[qA]at hk;have c1:=cont 1 (by simpa using hk.1.1.2)
    have c2:=cont 2 (by simpa using hk.1.2)
    have c3:=cont 3 (by simpa using hk.2)
    split
    ·rename_i hge;simp only[qA,decide_eq_true_eq]at hge;refine⟨by simp only;omega,by simp,fun j hj => ?_⟩
     match j,hj with|0,_=>exact⟨c,h,hc⟩|1,_=>exact c1|2,_=>exact c2|3,_=>exact c3
    ·exact⟨by simp[Utf8.runeError],wF _,z⟩
   ·exact⟨by simp[Utf8.runeError],wF _,z⟩
def zh3(n:Int)(h:128<=n):∃t c,gy n=t++[c]/\128<=c.toNat/\t.length<=3:=by
 unfold gy Utf8.encode;have hc:∀c:Nat,(if Utf8.valid n=true then n.toNat else Utf8.runeError)=c->128<=c:=by
  intro c hc;split at hc
  ·omega
  ·subst hc;decide
 have last:∀m:Nat,128<=(UInt8.ofNat (0x80+m%64)).toNat:=fun m=>by
  simp only[UInt8.toNat_ofNat'];omega
 generalize hq:(if Utf8.valid n=true then n.toNat else Utf8.runeError)=c
 have hc:=hc c hq;simp only[];rw[qW (by omega)]
 split
 ·exact⟨[_],_,rfl,last _,by simp⟩
 ·split
  ·exact⟨[_,_],_,rfl,last _,by simp⟩
  ·exact⟨[_,_,_],_,rfl,last _,by simp⟩
def qr9(c:UInt8):(c+97)-65=c+32:=by
 rw[UInt8.sub_eq_add_neg,UInt8.add_assoc];rfl
def qdq(fu:Nat):∀(n:Nat)(ab aa:List UInt8),aa.length<n->ab.length+aa.length<=9223372036854775807 ->
  pf fu n ((ab.length+aa.length:Nat):Int) (ab.length:Int) (ab++aa)=some (ab++aa.map lo)
 |0,_,_,h,_=>absurd h (by omega)|n+1,ab,[],_,_=>by simp[pf,wl]|n+1,ab,c::aa,h,hb=>by
  simp only[qL]at h hb;have ih:=fun d=>qdq fu n (ab++[d]) aa (by omega) (by simp;omega)
  simp only[qM,qL,qZ,qS,wM,wO]at ih;have e:((ab.length+(c::aa).length:Nat):Int)=((ab.length+1+aa.length:Nat):Int):=by simp only[qL];omega
  have hl:0<=(ab.length:Int)/\(ab.length:Int).toNat<(ab++c::aa).length:=by simp
  rw[e];simp only[pf,wl];rw[am (by omega),am hl,qc9,qB,qtg,bj _ (by omega),dc,dc,ih,ih,am hl,qB]
  unfold lo;simp only[List.map_cons,qr9];by_cases h1:(65:UInt8)<=c
  ·by_cases h2:c<=90
   ·simp[h1,h2]
   ·simp[h1,h2]
  ·simp[h1]
def qdp(fu:Nat)(s:List UInt8)(h:s.length<fu)(hb:s.length<=maxLen):qo fu s=some (s.map lo):=by
 unfold qo;rw[am hb];have:=qdq fu fu [] s h (by simpa [maxLen] using hb)
 simpa using this
def qb8(x a b:Int):jp x a b=some (decide (a<=x/\x<=b)):=by
 unfold jp;by_cases h:a<=x<;>simp[h]
def qqm(a b:UInt8):((a.toNat:Int)<=(b.toNat:Int))↔a<=b:=by rw[UInt8.le_iff_toNat_le];omega
def qkw(fu:Nat):∀(n:Nat)(ab aa:List UInt8),aa.length<n->ab.length+aa.length<=9223372036854775807 ->
  qk3 fu n (ab.length:Int) (ab++aa)=some (ab++aa.map lo)
 |0,_,_,h,_=>absurd h (by omega)|n+1,ab,[],_,_=>by simp[qk3,qwo]|n+1,ab,c::aa,h,hb=>by
  simp only[qL]at h hb;have ih:=fun d=>qkw fu n (ab++[d]) aa (by omega) (by simp;omega)
  simp only[qM,qL,qZ,qS,wM,wO]at ih;have hl:0<=(ab.length:Int)/\(ab.length:Int).toNat<(ab++c::aa).length:=by simp
  simp only[qk3,qwo];rw[am (by simp;omega),am hl,qc9,qB,qb8,qB,bj _ (by omega),dc,am hl,qB,am hl,qB,qtg,ih,ih]
  unfold lo;simp only[List.map_cons];have e1:=qqm 65 c;have e2:=qqm c 90;have q1:((65:UInt8).toNat:Int)=65:=rfl;have q2:((90:UInt8).toNat:Int)=90:=rfl;rw[q1]at e1;rw[q2]at e2;by_cases h1:(65:UInt8)<=c/\c<=90
  ·rw[qX ⟨e1.2 h1.1,e2.2 h1.2⟩,qX h1]
  ·rw[qW (fun q=>h1 ⟨e1.1 q.1,e2.1 q.2⟩),qW h1]
def qdh(fu:Nat)(s:List UInt8)(h:s.length<fu)(hb:s.length<=maxLen):qak fu s=some (s.map lo):=by
 unfold qak;rw[am hb];have:=qkw fu fu [] s h (by simpa [maxLen] using hb)
 simpa using this
def zcx(fu:Nat)(a b:List UInt8)(ha:a.length<fu)(hb:b.length<fu)(ha':a.length<=maxLen)(hb':b.length<=maxLen):di fu a b=some (a.map lo==b.map lo):=by
 unfold di;rw[g7,qdp fu a ha ha',qdp fu b hb hb'];by_cases h:(a.length:Int)=b.length
 ·rw[qX h];rfl
 ·rw[qW h];have:(a.map lo==b.map lo)=false:=by
   rw[beq_eq_false_iff_ne];intro q;apply h;have:=congrArg List.length q;simp only[wC]at this;omega
  rw[this]
def q9s(fu:Nat)(a b:List UInt8)(ha:a.length<fu)(hb:b.length<fu)(ha':a.length<=maxLen)(hb':b.length<=maxLen):qn fu a b=some (a.map lo==b.map lo):=by
 unfold qn;rw[qdh fu a ha ha',qdh fu b hb hb'];rfl
def zj4(c:UInt8):du (c.toNat:Int)=c:=by
 unfold du;have:=c.toNat_lt;rw[show((c.toNat:Int)%256).toNat=c.toNat by omega]
 simp
def q57(s:List UInt8)(c:UInt8):ud s c=some (Lib.indexByte s c):=rfl
def zfb(fu:Nat)(cs:List UInt8)(c:UInt8)(h:c.toNat<128):qy fu cs (c.toNat:Int)=some (Lib.indexByte cs c):=by
 unfold qy qbz;rw[am (by omega),am (by omega),zj4,q57];rfl
def ze9(fu n:Nat):∀(cs:List UInt8)(p:Nat),(∀c∈cs,c.toNat<128)->cs.length-p<n->p<=cs.length->qb0 fu n cs p=some (-1):=by
 induction n with
 |zero=>intro cs p _ h;omega|succ n ih=>
  intro cs p hA h hp;rw[qb0,qoj];by_cases hlt:p<cs.length
  ·have e:cs[p]? = some cs[p]:=List.getElem?_eq_getElem hlt;have hc:=hA cs[p] (List.getElem_mem hlt);rw[bh (q0t hlt),q45 cs p _ e hc,g7,qW (by simp only;omega)]
   exact ih cs (p+1) hA (by omega) (by omega)
  ·rw[bi (q0s hlt)]
def zfa(fu:Nat)(cs:List UInt8)(r:Int)(hr:128<=r)(hA:∀c∈cs,c.toNat<128)(hfu:cs.length<fu)(hb:cs.length<1000):qy fu cs r=some (-1):=by
 unfold qy qbz;rw[am (by omega),ay (by omega),g7]
 by_cases h1:r=65533
 ·rw[qX h1];exact ze9 fu fu cs 0 hA (by omega) (by omega)
 rw[qW h1];have hv:∃b,qgx r=some b:=by
  unfold qgx;simp only[dc]
  repeat' split
  all_goals exact⟨_,rfl⟩
 obtain⟨b,hv⟩:=hv;rw[hv,qB];cases b
 ·rfl
 rw[show(!true)=false from rfl,qF]
 obtain⟨t,c,e,hc,ht⟩:=zh3 r hr;rw[e,mt,ng _ (by omega)]
 obtain⟨n,rfl⟩:∃n,fu=n+1:=⟨fu-1,by omega⟩
 rw[qgo,qok];by_cases hl:t.length<cs.length
 ·have hcs:=hA cs[t.length] (List.getElem_mem hl);have hne:cs[t.length]≠c:=fun e=>by rw[e]at hcs;omega
  rw[am (by omega),qdg _ _ hl,qB,qdf,qB,q0n,qX hne,bj _ (by omega),am (by omega),qB,q57,qB,qdd,am (by decide)]
  intro x hx e;have:=hA x (List.mem_of_mem_drop hx);rw[e]at this;omega
 ·rw[ay (by omega)]
def io(cs:List UInt8):List Bool:=cs.foldl (fun m c=>m.set c.toNat true) (List.replicate 256 false)
structure AC(cs:List UInt8):Prop where
 two:2<=cs.length
 few:cs.length<100
 low:∀c∈cs,c.toNat<128
 set:∀n,qb2 (n+100) cs=some (io cs,true)
 get:∀c:UInt8,(io cs)[c.toNat]? = some (cs.contains c)
 len:(io cs).length=256
def qcu{cs:List UInt8}(A:AC cs)(c:UInt8):xe c (io cs)=some (cs.contains c,io cs):=by
 unfold xe;rw[A.get];rfl
def zez{cs:List UInt8}(A:AC cs)(fu n:Nat):∀(ab aa:List UInt8),aa.length<n->ab.length+aa.length<1000000000 ->
  ∃r,qbx fu n (ab++aa) (ab.length:Int) (io cs)=some r/\decide (0<=r)=aa.any cs.contains:=by
 induction n with
 |zero=>intro ab aa h;omega|succ n ih=>
  intro ab aa h hb;rw[qbx,qog]
  cases aa with
  |nil=>rw[ay (by simp)];exact⟨-1,rfl,rfl⟩|cons c aa=>
   simp only[qL]at h hb;rw[ja,am (by omega),cz,qB,qcu A,qB]
   cases hc:cs.contains c
   ·obtain⟨r,h1,h2⟩:=ih (ab++[c]) aa (by omega) (by simp;omega)
    refine⟨r,?_,by rw[h2,List.any_cons,hc,Bool.false_or]⟩
    rw[bj _ (by omega)]
    simpa using h1
   ·exact⟨_,rfl,by rw[List.any_cons,hc,Bool.true_or];exact decide_eq_true (by omega)⟩
def ze0{cs:List UInt8}(A:AC cs)(fu:Nat)(hfu:100<=fu)(s:List UInt8):∀(n p:Nat),s.length-p<n->p<=s.length ->
  ∃r,qby fu n cs s p=some r/\decide (0<=r)=(s.drop p).any cs.contains:=by
 intro n
 induction n with
 |zero=>intro p h;omega|succ n ih=>
  intro p h hp;rw[qby,qoh];by_cases hlt:p<s.length
  ·have e:s[p]? = some s[p]:=List.getElem?_eq_getElem hlt;have hd:s.drop p=s[p]::s.drop (p+1):=List.drop_eq_getElem_cons hlt;rw[bh (q0t hlt)];by_cases hc:s[p].toNat<128
   ·rw[q45 s p _ e hc];simp only;rw[zfb fu cs _ hc,qB,dc,hd,List.any_cons];by_cases hm:s[p]∈cs
    ·rw[qX ((q20 _ _).2 hm)];exact⟨_,rfl,by rw[show cs.contains s[p]=true by simpa using hm,Bool.true_or];exact decide_eq_true (by omega)⟩
    ·rw[qW (fun h=>hm ((q20 _ _).1 h))]
     obtain⟨r,h1,h2⟩:=ih (p+1) (by omega) (by omega)
     exact⟨r,h1,by rw[h2,show cs.contains s[p]=false by simpa using hm,Bool.false_or]⟩
   ·obtain⟨q1,q2,q3⟩:=zh2 s p _ e (by omega)
    rw[zfa fu cs _ (by omega) A.low (by have:=A.few;omega) (by have:=A.few;omega),qB,ay (by decide)]
    have hle:p+(dt s p).2<=s.length:=by
     obtain⟨d,hd,_⟩:=q3 ((dt s p).2-1) (by omega)
     have:=(List.getElem?_eq_some_iff.1 hd).1;omega
    obtain⟨r,h1,h2⟩:=ih (p+(dt s p).2) (by omega) hle
    refine⟨r,h1,?_⟩;rw[h2];have:∀w,(∀j,j<w->∃d,s[p+j]? = some d/\128<=d.toNat)->(s.drop (p+w)).any cs.contains=(s.drop p).any cs.contains:=by
     intro w
     induction w with
     |zero=>intro _;rfl|succ w ihw=>
      intro hw;rw[← ihw (fun j hj=>hw j (by omega))]
      obtain⟨d,hd,hd2⟩:=hw w (by omega)
      obtain⟨k1,k2⟩:=List.getElem?_eq_some_iff.1 hd;rw[List.drop_eq_getElem_cons k1,k2,List.any_cons,show cs.contains d=false by
       simp only[List.contains_eq_mem,decide_eq_false_iff_not];intro hm;have:=A.low d hm;omega,Bool.false_or]
      rfl
    exact this _ q3
  ·rw[bi (q0s hlt)];exact⟨-1,rfl,by rw[List.drop_eq_nil_of_le (by omega)];rfl⟩
def zdg{cs:List UInt8}(A:AC cs)(fu:Nat)(s:List UInt8)(hfu:100<=fu)(h:s.length<fu)(hb:s.length<1000000000):qgh fu s cs=some (s.any cs.contains):=by
 unfold qgh;have:∃r,qgm fu s cs=some r/\decide (0<=r)=s.any cs.contains:=by
  unfold qgm;have h2:=A.two;rw[bi (by cases cs with
   |nil=>simp at h2| cons a b=>rfl),g7,qW (by omega)]
  unfold qot;rw[qB,dc];split
  ·obtain⟨n,rfl⟩:∃n,fu=n+100:=⟨fu-100,by omega⟩
   rw[A.set,qB];simp only[A.len];rw[bh (by rw[List.length_replicate];rfl),bh (by rfl)]
   have:=zez A (n+100) (n+100) [] s (by omega) (by simpa using hb)
   simpa using this
  ·have:=ze0 A fu hfu s fu 0 (by omega) (by omega)
   simpa [qgn] using this
 obtain⟨r,h1,h2⟩:=this;rw[h1,qB,h2]
def za7:∀n:_root_.Fin 256,(io [13,10,0])[(UInt8.ofNat n.val).toNat]? = some (([13,10,0]:List UInt8).contains (UInt8.ofNat n.val)):=by decide +kernel
def ac1:AC [13,10,0]:=⟨by decide,by decide,by decide,fun n=>by kernel_rfl,fun c=>lf (fun c=>(io [13,10,0])[c.toNat]? = some (([13,10,0]:List UInt8).contains c)) za7 c,by decide +kernel⟩
def za8:∀n:_root_.Fin 256,(io [32,9])[(UInt8.ofNat n.val).toNat]? = some (([32,9]:List UInt8).contains (UInt8.ofNat n.val)):=by decide +kernel
def xt:AC [32,9]:=⟨by decide,by decide,by decide,fun n=>by kernel_rfl,fun c=>lf (fun c=>(io [32,9])[c.toNat]? = some (([32,9]:List UInt8).contains c)) za8 c,by decide +kernel⟩
def q0r(c:UInt8):([32,9]:List UInt8).contains c=bl c:=by rw[Bool.eq_iff_iff];simp[bl]
def qsd(c:UInt8)(s:List UInt8):d6 (c::s)=if bl c then d6 s else c::s:=by
 unfold d6;rw[List.dropWhile];cases bl c<;>rfl
def qs9(s:List UInt8):(dn s).length<=s.length:=by
 unfold dn;rw[List.length_reverse];have:=(List.dropWhile_sublist bl (l:=s.reverse)).length_le;simpa using this
def y8(s:List UInt8):(d6 s).length<=s.length:=(List.dropWhile_sublist bl).length_le
def q1x(s:List UInt8):Bool := !(s.head?.any bl) && !(s.getLast?.any bl)
def qhr(c:UInt8):tm c=some (bl c):=by unfold tm bl;cases c==32<;>rfl
def z16(c:UInt8):qwk c=some (bl c):=by unfold qwk bl;cases c==32<;>rfl
def p8(f:Int×Int):ef f=some (f.1 != 0):=rfl
def qdu(c:UInt8):Bool:=decide (33<=c)&&decide (c<=126)&&c != 58
def rx(s:List UInt8):Bool:=s != []&&decide (s.length<=60)&&s.all qdu
def zgf(c:UInt8):qfm c=some (qdu c):=by
 unfold qfm qdu;cases decide (33<=c)<;>cases decide (c<=126)<;>rfl
def zbh(fu n:Nat):∀(ab aa:List UInt8),aa.length<n->ab.length+aa.length<1000000000 ->
  qao fu n (ab++aa) ((ab.length+aa.length:Nat):Int) (ab.length:Int)=some (aa.all qdu):=by
 induction n with
 |zero=>intro ab aa h;omega|succ n ih=>
  intro ab aa h hb;rw[qao,qmg]
  cases aa with
  |nil=>rw[ay (by simp)];rfl|cons c aa=>
   simp only[qL]at h hb ⊢;rw[am (by omega),cz,qB,zgf,qB,List.all_cons]
   cases hc:qdu c
   ·rfl
   ·have:=ih (ab++[c]) aa (by omega) (by simp;omega)
    rw[bj _ (by omega)]
    simp only[qS,wM,qM,qL,qZ]at this;rw[show ab.length+0+1+aa.length=ab.length+(aa.length+1) by omega]at this
    simpa using this
def zej(fu:Nat)(s:List UInt8)(h:61<fu):qfl fu s=some (rx s):=by
 unfold qfl rx
 cases s with
 |nil=>rfl|cons c s=>
  rw[show(!c::s==([]:List UInt8))=true from rfl,show(c::s != ([]:List UInt8))=true from rfl,qT,dc]
  split
  ·rename_i hl;simp only[qL]at hl;unfold qmf;have:=zbh fu fu [] (c::s) (by simp only[qL];omega) (by simp only[qL,qZ];omega)
   simp only[List.nil_append,qZ,wO]at this;rw[show(0:Int)=((0:Nat):Int) from rfl,this,decide_eq_true (by simp only[qL];omega)]
   rfl
  ·rename_i hl;rw[decide_eq_false (by omega)]
   rfl
def qc8(s:List UInt8):Bool := !(s.any ([13,10,0]:List UInt8).contains)&&q1x s
def q2t(fu:Nat)(s:List UInt8)(hfu:100<=fu)(h:s.length<fu)(hb:s.length<1000000000):qfp fu s=some (qc8 s):=by
 unfold qfp qm5 qc8;rw[zdg ac1 fu s hfu h hb,qB,qB];cases s.any ([13,10,0]:List UInt8).contains
 ·rw[fc];unfold q1x
  cases s with
  |nil=>rfl|cons c t=>
   rw[bi (by rfl),show ap (c::t) (0:Int)=some c from rfl,qB,qhr,qB]
   rw[show(c::t).head?.any bl=bl c from rfl]
   cases bl c
   ·rw[fc];rcases List.eq_nil_or_concat (c::t) with e|⟨u,d,e⟩
    ·cases e
    ·rw[List.concat_eq_append]at e;rw[e]at hb ⊢;simp only[qM,qL,qZ]at hb;rw[mt,ng _ (by omega),qdf,qB,qhr,qB]
     simp
   ·rfl
 ·rfl
def qtv(fu n:Nat):∀(s:List UInt8),s.length<n->s.length<1000000000->qb4 fu n s (io [32,9])=some (dn s,io [32,9]):=by
 induction n with
 |zero=>intro s h;omega|succ n ih=>
  intro s h hb;rw[qb4,qoz];rcases List.eq_nil_or_concat s with rfl|⟨t,c,rfl⟩
  ·rw[ay (by simp)];rfl
  ·rw[List.concat_eq_append]at *;simp only[qM,qL,qZ]at h hb;rw[mt,am (by omega),ng _ (by omega),qdf,qB,qcu xt,qB,vt,am (by omega),ih t (by omega) (by omega),qta,q0r]
   cases bl c<;>rfl
def qtw(fu:Nat)(s:List UInt8)(hfu:100<=fu)(h:s.length<fu)(hb:s.length<1000000000):qb1 fu s [32,9]=some (dn s):=by
 unfold qb1
 cases s with
 |nil=>rfl|cons c s=>
  rw[bi (by rfl)]
  unfold qgs;rw[bi (by rfl)]
  unfold qoq;rw[bi (by decide)]
  unfold qgt;rw[bi (by rfl)]
  unfold qor;obtain⟨n,rfl⟩:∃n,fu=n+100:=⟨fu-100,by omega⟩
  rw[xt.set,qB];simp only[xt.len];rw[bh (by rw[List.length_replicate];rfl),bh (by rfl)]
  unfold qoy;rw[qtv _ _ _ h hb];rfl
def rr(n v:List UInt8):Int:=if rx n then(if 4000<v.length then 1 else if qc8 v then 0 else 11) else 10
def tk(c:UInt8):Bool:=decide (33<=c)&&decide (c<=126) && !([40,41,60,62,64,44,59,58,92,34,47,91,93,63,61,42,37,39]:Bs).contains c
def zj3:∀n:_root_.Fin 256,l5 (UInt8.ofNat n.val)=some (tk (UInt8.ofNat n.val)):=by decide +kernel
def qeg(c:UInt8):l5 c=some (tk c):=lf (fun c=>l5 c=some (tk c)) zj3 c
def z6u(fu n:Nat)(c:UInt8):∀(ab aa:Bs),aa.length<n->ab.length+aa.length<1000000000 ->
  qls fu n c (ab++aa) (ab.length:Int)=some (aa.contains c):=by
 induction n with
 |zero=>intro ab aa h;omega|succ n ih=>
  intro ab aa h hb;rw[qls,qw7]
  cases aa with
  |nil=>rw[ay (by simp)];rfl|cons d aa=>
   simp only[qL]at h hb;rw[ja,am (by omega),cz,qB,bj _ (by omega),rl,List.contains_cons]
   have:=ih (ab++[d]) aa (by omega) (by simp;omega)
   simp only[qM,qL,qZ,qS,wM]at this;by_cases e:d=c
   ·rw[qX e];simp[e]
   ·rw[qW e,this];have:(c==d)=false:=by simp;exact fun h=>e h.symm
    rw[this,Bool.false_or]
def z09(fu:Nat)(c:UInt8)(l:Bs)(h:l.length<fu)(hb:l.length<1000000000):qlr fu c l=some (l.contains c):=by
 have:=z6u fu fu c [] l h (by simpa using hb)
 simpa [qlr] using this
def z26(fu:Nat)(hfu:100<=fu)(c:UInt8):qlx fu c=some (tk c):=by
 unfold qlx;rw[qb8,qB,z09 fu c _ (by simp;omega) (by simp),qB]
 unfold tk;have h1:(33<=(c.toNat:Int)/\(c.toNat:Int)<=126)↔(33<=c/\c<=126):=by
  rw[UInt8.le_iff_toNat_le,UInt8.le_iff_toNat_le];show _↔(33<=c.toNat/\c.toNat<=126);omega
 by_cases h2:33<=c/\c<=126
 ·rw[decide_eq_true (h1.2 h2),bh rfl,decide_eq_true h2.1,decide_eq_true h2.2];rfl
 ·rw[decide_eq_false (fun h=>h2 (h1.1 h)),bi rfl]
  by_cases h3:33<=c
  ·have h4:¬c<=126:=fun h=>h2 ⟨h3,h⟩
   rw[decide_eq_false h4];simp
  ·rw[decide_eq_false h3];simp
def uo(P:UInt8->Option Bool):Nat->Bs->Int->Int->Option Bool|0,_,_,_=>none|n+1,s0,s7,s8=>bif decide (s8<s7) then(ap s0 s8).bind fun c1=>(P c1).bind fun x2=>bif !x2 then some false else uo P n s0 s7 (af (s8+(1:Int))) else some true
def zbg(P:UInt8->Option Bool)(p:UInt8->Bool)(hP:∀c,P c=some (p c))(n:Nat):∀(ab aa:Bs),aa.length<n->ab.length+aa.length<9223372036854775807 ->
  uo P n (ab++aa) ((ab.length+aa.length:Nat):Int) (ab.length:Int)=some (aa.all p):=by
 induction n with
 |zero=>intro ab aa h;omega|succ n ih=>
  intro ab aa h hb;rw[uo]
  cases aa with
  |nil=>rw[ay (by simp)];rfl|cons d aa=>
   simp only[qL]at h hb ⊢;rw[am (by omega),cz,qB,hP,qB,bj _ (by omega),List.all_cons]
   have:=ih (ab++[d]) aa (by omega) (by simp;omega)
   simp only[qM,qL,qZ,qS,wM]at this;cases p d
   ·rfl
   ·rw[bi (by rfl),Bool.true_and,show((ab.length+(aa.length+1):Nat):Int)=((ab.length+1+aa.length:Nat):Int) by omega]
    exact this
def qqe(P:UInt8->Option Bool)(p:UInt8->Bool)(hP:∀c,P c=some (p c))(n:Nat)(s:Bs)(h:s.length<n)(hb:s.length<9223372036854775807):uo P n s (s.length:Int) 0=some (s.all p):=by
 have:=zbg P p hP n [] s h (by simpa using hb)
 simpa using this
def zbd(fu:Nat)(s:Bs)(h:s.length<fu)(hb:s.length<9223372036854775807):qfa fu s=some (s.all tk):=by
 have e:∀n,qap fu n=uo l5 n:=by
  intro n;induction n with|zero=>rfl|succ n ih=>rw[qap,ih];funext a b c;rfl
 unfold qfa;rw[e];exact qqe _ _ qeg _ _ h hb
def fm(s:Bs):Bool := !s.isEmpty&&decide (s.length<=60)&&s.all tk
def qjz(fu:Nat)(s:Bs)(h:s.length<fu)(hb:s.length<9223372036854775807):tz fu s=some (fm s):=by
 unfold tz fm;rw[zbd fu s h hb]
 cases s with
 |nil=>rfl|cons c s=>
  rw[bh (by rfl)]
  by_cases h1:(c::s).length<=60
  ·rw[am (by omega),decide_eq_true h1];simp
  ·rw[ay (by omega),decide_eq_false h1];simp
def z7o(fu n:Nat)(hfu:100<=fu):∀(ab aa:Bs),aa.length<n->ab.length+aa.length<1000000000 ->
  qly fu n (ab++aa) (ab.length:Int)=some (aa.all tk&&decide (1<=ab.length+aa.length/\ab.length+aa.length<=60)):=by
 induction n with
 |zero=>intro ab aa h;omega|succ n ih=>
  intro ab aa h hb;rw[qly,qxc]
  cases aa with
  |nil=>
   rw[ay (by simp),qb8,qB]
   simp only[List.append_nil,List.all_nil,Bool.true_and,qZ,Nat.add_zero];congr 1;apply decide_eq_decide.2;omega
  |cons d aa=>
   simp only[qL]at h hb;rw[ja,am (by omega),cz,qB,z26 fu hfu,qB,bj _ (by omega),List.all_cons]
   have:=ih (ab++[d]) aa (by omega) (by simp;omega)
   simp only[qM,qL,qZ,qS,wM]at this;cases tk d
   ·rfl
   ·rw[bi (by rfl),Bool.true_and]
    refine this.trans ?_;simp only[qL];congr 2;apply decide_eq_decide.2;omega
def zwb(fu:Nat)(hfu:100<=fu)(s:Bs)(h:s.length<fu)(hb:s.length<1000000000):qe4 fu s=some (fm s):=by
 have:=z7o fu fu hfu [] s h (by simpa using hb)
 simp only[List.nil_append,qZ,wO]at this;unfold qe4;refine this.trans ?_;unfold fm
 cases s with
 |nil=>rfl|cons c s=>
  congr 1;rw[Bool.and_comm];congr 1;show decide _=(true&&decide _);rw[Bool.true_and];apply decide_eq_decide.2;simp only[qL];omega
open Go.Lib (decodeL decodeN decodeL_N validD validD_step decodeL_le decodeL_width)
def rnzz(l:Bs):Int×Int:=if(decodeL l).1=65533/\(decodeL l).2=1 then(-1,1) else(((decodeL l).1:Nat),((decodeL l).2:Nat))
def qj6(a b:Nat)(h:a+b<9223372036854775808):af ((a:Int)+(b:Int))=((a+b:Nat):Int):=by rw[ee (by omega) (by omega)];omega
def z6e{α:Type}(ab l:List α)(k:Nat)(h:k<l.length):ap (ab++l) ((ab.length+k:Nat):Int)=some l[k]:=by
 rw[qdg _ _ (by simp;omega)];simp
def z6f(ab l:Bs)(k:Nat)(h:k<l.length):ap (ab++l) ((ab.length+k:Nat):Int)=some (l.getD k 0):=by
 rw[z6e ab l k h];simp[List.getD,h]
def qg6(fu n:Nat)(ab l:Bs)(size v least k:Nat)(hk:k<size)(hl:k<l.length)(hv:v<10000000)(hb:ab.length+l.length<1000000000)(hs:size<=4) :
  qlv fu (n+1) (ab++l) (ab.length:Int) (size:Int) (v:Int) (least:Int) (k:Int) =
   if 128<=(l.getD k 0).toNat/\(l.getD k 0).toNat<=191 then qlv fu n (ab++l) (ab.length:Int) (size:Int) ((64*v+(l.getD k 0).toNat-128:Nat):Int) (least:Int) ((k+1:Nat):Int) else some (-1,1):=by
 have hc:(l.getD k 0).toNat<256:=(l.getD k 0).toNat_lt;rw[qlv,qw8,am (by omega),qj6 _ _ (by omega),z6f ab l k hl,qB,qb8,qB,bj k (by omega)]
 generalize (l.getD k 0).toNat=x at hc;by_cases h:128<=x/\x<=191
 ·rw[qX h,decide_eq_true (by omega),dm,show(64:Int)*(v:Int)=((64*v:Nat):Int) by omega,ee (x:=((64*v:Nat):Int)) (by omega) (by omega),ee (x:=((64*v:Nat):Int)+(x:Int)) (by omega) (by omega),ee (by omega) (by omega)]
  congr 1;omega
 ·rw[qW h,decide_eq_false (by omega),fc]
def zsm(fu n:Nat)(s:Bs)(i:Int)(size v least:Nat) :
  qlv fu (n+1) s i (size:Int) (v:Int) (least:Int) (size:Int)=if v<least\/1114111<v\/(55296<=v/\v<=57343) then some (-1,1) else some ((v:Int),(size:Int)):=by
 rw[qlv,qw8,ay (by omega)]
 by_cases h1:v<least
 ·rw[am (by omega),qX (.inl h1)]
 rw[ay (by omega)]
 by_cases h2:1114111<v
 ·rw[am (by omega),qX (.inr (.inl h2))]
 rw[ay (by omega),qb8,qB]
 by_cases h3:55296<=v/\v<=57343
 ·rw[am (by omega),qX (.inr (.inr h3))]
 ·rw[ay (by omega),qW (by omega)]
def zrr(fu:Nat)(ab l:Bs)(size v least:Nat)(h:l.length<size)(hs:size<=4)(hb:ab.length+l.length<1000000000):qal fu (ab++l) (ab.length:Int) (size:Int) (v:Int) (least:Int)=some (-1,1):=by
 rw[qal,g7,qW (by omega),qj6 _ _ (by omega),qlu,am (by rw[zhm];omega)]
def zre(fu:Nat)(ab l:Bs)(size v least:Nat)(h:¬l.length<size)(h0:size≠0)(hs:size<=4)(hb:ab.length+l.length<1000000000):qal fu (ab++l) (ab.length:Int) (size:Int) (v:Int) (least:Int)=qlv fu fu (ab++l) (ab.length:Int) (size:Int) (v:Int) (least:Int) ((1:Nat):Int):=by
 rw[qal,g7,qW (by omega),qj6 _ _ (by omega),qlu,ay (by rw[zhm];omega)];rfl
def qkj(x:Nat×Nat):Int×Int:=if x.1=65533/\x.2=1 then(-1,1) else((x.1:Nat),(x.2:Nat))
def qe0:qkj (65533,1)=(-1,1):=rfl
def zfc(x k:Nat)(h:k≠1):qkj (x,k)=((x:Int),(k:Int)):=qW (fun q=>h q.2)
def qcb(n b0 b1 b2 b3:Nat):Int×Int:=qkj (decodeN n b0 b1 b2 b3)
def z7q(n b0 b1 b2 b3:Nat)(h:b0<128):qcb n b0 b1 b2 b3=((b0:Int),1):=by
 unfold qcb decodeN;rw[qX h];unfold qkj;rw[qW (fun q=>by have:=q.1;simp only at this;omega)];rfl
def z7r(n b0 b1 b2 b3:Nat)(h:192<=b0/\b0<=223)(h1:b1<256):qcb n b0 b1 b2 b3=if n<2 then(-1,1) else if 128<=b1/\b1<=191 then(if(64*(b0-192)+b1-128)<128\/1114111<(64*(b0-192)+b1-128)\/(55296<=(64*(b0-192)+b1-128)/\(64*(b0-192)+b1-128)<=57343) then(-1,1) else(((64*(b0-192)+b1-128:Nat):Int),2)) else(-1,1):=by
 unfold qcb decodeN;rw[qW (c:=b0<128) (by omega)]
 by_cases a1:b0/32=6/\(1<n/\b1/64=2)
 ·rw[qX a1,qW (c:=n<2) (by omega),qX (c:=128<=b1/\b1<=191) (by omega)]
  obtain⟨z,hz⟩:∃z,b0%32*64+b1%64=z:=⟨_,rfl⟩;obtain⟨y,hy⟩:∃y,64*(b0-192)+b1-128=y:=⟨_,rfl⟩;have hzy:z=y:=by omega
  have hm:y<2048:=by omega
  rw[hz,hy,hzy];by_cases a2:y ≥ 128
  ·rw[qX a2,zfc _ _ (by decide),qW (by omega)];rfl
  ·rw[qW a2,qe0,qX (by omega)]
 ·rw[qW a1,qW (c:=b0/16=14/\_) (by omega),qW (c:=b0/8=30/\_) (by omega),qe0]
  by_cases a3:n<2
  ·rw[qX a3]
  ·rw[qW a3,qW (by omega)]
def z7s(n b0 b1 b2 b3:Nat)(h:224<=b0/\b0<=239)(h1:b1<256)(h2:b2<256):qcb n b0 b1 b2 b3=if n<3 then(-1,1) else if 128<=b1/\b1<=191 then(if 128<=b2/\b2<=191 then(if(64*(64*(b0-224)+b1-128)+b2-128)<2048\/1114111<(64*(64*(b0-224)+b1-128)+b2-128)\/(55296<=(64*(64*(b0-224)+b1-128)+b2-128)/\(64*(64*(b0-224)+b1-128)+b2-128)<=57343) then(-1,1) else(((64*(64*(b0-224)+b1-128)+b2-128:Nat):Int),3)) else(-1,1)) else(-1,1):=by
 unfold qcb decodeN;rw[qW (c:=b0<128) (by omega),qW (c:=b0/32=6/\_) (by omega)]
 by_cases a1:b0/16=14/\(1<n/\b1/64=2)/\(2<n/\b2/64=2)
 ·rw[qX a1,qW (c:=n<3) (by omega),qX (c:=128<=b1/\b1<=191) (by omega),qX (c:=128<=b2/\b2<=191) (by omega)]
  obtain⟨z,hz⟩:∃z,b0%16*4096+b1%64*64+b2%64=z:=⟨_,rfl⟩;obtain⟨y,hy⟩:∃y,64*(64*(b0-224)+b1-128)+b2-128=y:=⟨_,rfl⟩;have hzy:z=y:=by omega
  have hm:y<65536:=by omega
  rw[hz,hy,hzy];by_cases a2:y ≥ 2048/\(y<55296\/(57344<=y/\y<=1114111))
  ·rw[qX a2,zfc _ _ (by decide),qW (by omega)];rfl
  ·rw[qW a2,qe0,qX (by omega)]
 ·rw[qW a1,qW (c:=b0/8=30/\_) (by omega),qe0]
  by_cases a3:n<3
  ·rw[qX a3]
  ·rw[qW a3];by_cases a4:128<=b1/\b1<=191
   ·rw[qX a4,qW (by omega)]
   ·rw[qW a4]
def z7t(n b0 b1 b2 b3:Nat)(h:240<=b0/\b0<=247)(h1:b1<256)(h2:b2<256)(h3:b3<256):qcb n b0 b1 b2 b3=if n<4 then(-1,1) else if 128<=b1/\b1<=191 then(if 128<=b2/\b2<=191 then(if 128<=b3/\b3<=191 then(if(64*(64*(64*(b0-240)+b1-128)+b2-128)+b3-128)<65536\/1114111<(64*(64*(64*(b0-240)+b1-128)+b2-128)+b3-128)\/(55296<=(64*(64*(64*(b0-240)+b1-128)+b2-128)+b3-128)/\(64*(64*(64*(b0-240)+b1-128)+b2-128)+b3-128)<=57343) then(-1,1) else(((64*(64*(64*(b0-240)+b1-128)+b2-128)+b3-128:Nat):Int),4)) else(-1,1)) else(-1,1)) else(-1,1):=by
 unfold qcb decodeN;rw[qW (c:=b0<128) (by omega),qW (c:=b0/32=6/\_) (by omega),qW (c:=b0/16=14/\_) (by omega)]
 by_cases a1:b0/8=30/\(1<n/\b1/64=2)/\(2<n/\b2/64=2)/\(3<n/\b3/64=2)
 ·rw[qX a1,qW (c:=n<4) (by omega),qX (c:=128<=b1/\b1<=191) (by omega),qX (c:=128<=b2/\b2<=191) (by omega),qX (c:=128<=b3/\b3<=191) (by omega)]
  obtain⟨z,hz⟩:∃z,b0%8*262144+b1%64*4096+b2%64*64+b3%64=z:=⟨_,rfl⟩;obtain⟨y,hy⟩:∃y,64*(64*(64*(b0-240)+b1-128)+b2-128)+b3-128=y:=⟨_,rfl⟩;have hzy:z=y:=by omega
  rw[hz,hy,hzy];by_cases a2:y ≥ 65536/\(y<55296\/(57344<=y/\y<=1114111))
  ·rw[qX a2,zfc _ _ (by decide),qW (by omega)];rfl
  ·rw[qW a2,qe0,qX (by omega)]
 ·rw[qW a1,qe0];by_cases a3:n<4
  ·rw[qX a3]
  ·rw[qW a3];by_cases a4:128<=b1/\b1<=191
   ·rw[qX a4];by_cases a5:128<=b2/\b2<=191
    ·rw[qX a5,qW (by omega)]
    ·rw[qW a5]
   ·rw[qW a4]
def z7u(n b0 b1 b2 b3:Nat)(h:(128<=b0/\b0<192)\/248<=b0)(hb:b0<256):qcb n b0 b1 b2 b3=(-1,1):=by
 unfold qcb decodeN;rw[qW (c:=b0<128) (by omega),qW (c:=b0/32=6/\_) (by omega),qW (c:=b0/16=14/\_) (by omega),qW (c:=b0/8=30/\_) (by omega)];rfl
def z7g(l:Bs):rnzz l=qcb l.length (l.getD 0 0).toNat (l.getD 1 0).toNat (l.getD 2 0).toNat (l.getD 3 0).toNat:=by unfold rnzz qcb qkj;rw[decodeL_N]
def z3g(fu:Nat)(hfu:10<=fu)(ab:Bs)(c:UInt8)(t:Bs)(hb:ab.length+t.length<100000000):qlt fu (ab++c::t) (ab.length:Int)=some (rnzz (c::t)):=by
 have hl:(c::t).length=t.length+1:=rfl;obtain⟨n,rfl⟩:∃n,fu=n+10:=⟨fu-10,by omega⟩
 rw[z7g,show(c::t).getD 0 0=c from rfl]
 generalize hl2:c::t=l at *;have b1:=(l.getD 1 0).toNat_lt;have b2:=(l.getD 2 0).toNat_lt;have b3:=(l.getD 3 0).toNat_lt;have hc:=c.toNat_lt;unfold qlt;rw[show ap (ab++l) (ab.length:Int)=some c by rw[← hl2];exact cz ab c t,qB]
 by_cases h0:c.toNat<128
 ·rw[am (by omega),z7q _ _ _ _ _ h0]
 rw[ay (by omega),qb8,qB]
 by_cases h2:192<=c.toNat/\c.toNat<=223
 ·rw[am (by omega),z7r _ _ _ _ _ h2 b1,ee (by omega) (by omega),show(c.toNat:Int)-192=((c.toNat-192:Nat):Int) by omega]
  by_cases g:l.length<2
  ·rw[qX g];exact zrr (n+10) ab l 2 _ 128 g (by omega) (by omega)
  ·rw[qW g];refine(zre (n+10) ab l 2 _ 128 g (by omega) (by omega) (by omega)).trans ?_
   rw[qg6 (n+10) (n+9) ab l 2 _ 128 1 (by omega) (by omega) (by omega) (by omega) (by omega)]
   by_cases g1:128<=(l.getD 1 0).toNat/\(l.getD 1 0).toNat<=191
   ·rw[qX g1,qX g1];refine(zsm (n+10) (n+8) _ _ 2 _ 128).trans ?_;rw[zwx];rfl
   ·rw[qW g1,qW g1]
 rw[ay (by omega),qb8,qB]
 by_cases h3:224<=c.toNat/\c.toNat<=239
 ·rw[am (by omega),z7s _ _ _ _ _ h3 b1 b2,ee (by omega) (by omega),show(c.toNat:Int)-224=((c.toNat-224:Nat):Int) by omega]
  by_cases g:l.length<3
  ·rw[qX g];exact zrr (n+10) ab l 3 _ 2048 g (by omega) (by omega)
  ·rw[qW g];refine(zre (n+10) ab l 3 _ 2048 g (by omega) (by omega) (by omega)).trans ?_
   rw[qg6 (n+10) (n+9) ab l 3 _ 2048 1 (by omega) (by omega) (by omega) (by omega) (by omega)]
   by_cases g1:128<=(l.getD 1 0).toNat/\(l.getD 1 0).toNat<=191
   ·rw[qX g1,qX g1,qg6 (n+10) (n+8) ab l 3 _ 2048 2 (by omega) (by omega) (by omega) (by omega) (by omega)]
    by_cases g2:128<=(l.getD 2 0).toNat/\(l.getD 2 0).toNat<=191
    ·rw[qX g2,qX g2];refine(zsm (n+10) (n+7) _ _ 3 _ 2048).trans ?_;rw[zwx];rfl
    ·rw[qW g2,qW g2]
   ·rw[qW g1,qW g1]
 rw[ay (by omega),qb8,qB]
 by_cases h4:240<=c.toNat/\c.toNat<=247
 ·rw[am (by omega),z7t _ _ _ _ _ h4 b1 b2 b3,ee (by omega) (by omega),show(c.toNat:Int)-240=((c.toNat-240:Nat):Int) by omega]
  by_cases g:l.length<4
  ·rw[qX g];exact zrr (n+10) ab l 4 _ 65536 g (by omega) (by omega)
  ·rw[qW g];refine(zre (n+10) ab l 4 _ 65536 g (by omega) (by omega) (by omega)).trans ?_
   rw[qg6 (n+10) (n+9) ab l 4 _ 65536 1 (by omega) (by omega) (by omega) (by omega) (by omega)]
   by_cases g1:128<=(l.getD 1 0).toNat/\(l.getD 1 0).toNat<=191
   ·rw[qX g1,qX g1,qg6 (n+10) (n+8) ab l 4 _ 65536 2 (by omega) (by omega) (by omega) (by omega) (by omega)]
    by_cases g2:128<=(l.getD 2 0).toNat/\(l.getD 2 0).toNat<=191
    ·rw[qX g2,qX g2,qg6 (n+10) (n+7) ab l 4 _ 65536 3 (by omega) (by omega) (by omega) (by omega) (by omega)]
     by_cases g3:128<=(l.getD 3 0).toNat/\(l.getD 3 0).toNat<=191
     ·rw[qX g3,qX g3];refine(zsm (n+10) (n+6) _ _ 4 _ 65536).trans ?_;rw[zwx];rfl
     ·rw[qW g3,qW g3]
    ·rw[qW g2,qW g2]
   ·rw[qW g1,qW g1]
 rw[ay (by omega),z7u _ _ _ _ _ (by omega) hc]
 rfl
def q8x(l:Bs):(rnzz l).1<0↔((decodeL l).1=65533/\(decodeL l).2=1):=by
 unfold rnzz;split
 ·rename_i h;exact⟨fun _=>h,fun _=>by decide⟩
 ·rename_i h;exact⟨fun q=>absurd q (by simp only;omega),fun q=>absurd q h⟩
def zvu(l:Bs):(rnzz l).2=((decodeL l).2:Int):=by
 unfold rnzz;split
 ·rename_i h;rw[h.2];rfl
 ·rfl
def z8f(fu n:Nat)(hfu:10<=fu):∀(ab aa:Bs),aa.length<n->ab.length+aa.length<100000000->ql1 fu n (ab++aa) (ab.length:Int)=some (validD aa):=by
 induction n with
 |zero=>intro ab aa h;omega|succ n ih=>
  intro ab aa h hb;rw[ql1,qxf]
  cases aa with
  |nil=>rw[ay (by simp)];rfl|cons c t=>
   have hw:=decodeL_width (c::t);have hle:=decodeL_le (c::t) (by simp)
   simp only[qL]at h hb;rw[am (by rw[ja];omega),z3g fu hfu ab c t (by omega),qB,validD_step (c::t) (by simp)]
   by_cases hbad:(decodeL (c::t)).1=65533/\(decodeL (c::t)).2=1
   ·rw[am ((q8x _).2 hbad),qX hbad]
   ·rw[ay (fun q=>hbad ((q8x _).1 q)),qW hbad,zvu,qj6 _ _ (by simp only[qL]at hle;omega)]
    have:=ih (ab++(c::t).take (decodeL (c::t)).2) ((c::t).drop (decodeL (c::t)).2) (by rw[List.length_drop];simp only[qL];omega) (by rw[qM,List.length_take,List.length_drop];simp only[qL]at hle ⊢;omega)
    rw[qS,List.take_append_drop,qM,List.length_take,Nat.min_eq_left hle]at this;exact this
def z7v(fu:Nat)(hfu:10<=fu)(s:Bs)(h:s.length<fu)(hb:s.length<100000000):qxe fu s=some (validD s):=by
 have:=z8f fu fu hfu [] s h (by simpa using hb)
 simpa [qxe] using this
def z8e:qxd (-1)=some [239,191,189]:=by rfl
def zkr(n:Nat):∀(b:Bool)(l:Bs),(vu [239,191,189] n b l).length<=3*l.length:=by
 induction n with
 |zero=>intro b l;simp[vu]|succ n ih=>
  intro b l
  cases l with
  |nil=>simp[vu]|cons c t=>
   rw[vu];split
   ·have:=ih true t;rw[qM];simp only[qL];cases b<;>simp<;>omega
   ·have:=ih false ((c::t).drop (decodeL (c::t)).2);have hle:=decodeL_le (c::t) (by simp)
    rw[qM,List.length_take];rw[List.length_drop]at this;omega
def qej(rep:Bs):∀(n:Nat)(b:Bool)(l:Bs),l.length<=n->vu rep n b l=vu rep l.length b l:=by
 intro n
 induction n using Nat.strongRecOn with
 |ind n ih=>
  intro b l h
  cases l with
  |nil=>cases n<;>rfl
  |cons c t=>
   obtain⟨m,rfl⟩:∃m,n=m+1:=⟨n-1,by simp only[qL]at h;omega⟩
   simp only[qL]at h ⊢;have hw:=decodeL_width (c::t);rw[vu,vu];have hd:((c::t).drop (decodeL (c::t)).2).length<=t.length:=by rw[List.length_drop];simp only[qL];omega
   rw[ih m (by omega) true t (by omega),ih m (by omega) false _ (by omega)]
   by_cases hm:t.length<m+1
   ·rw[ih t.length (by omega) true t (wF _),ih t.length (by omega) false _ hd]
   ·omega
def z7a(fu n:Nat)(hfu:10<=fu):∀(ab aa out:Bs)(bad:Bool),aa.length<n->ab.length+aa.length<100000000->out.length+3*aa.length<400000000 ->
  ql9 fu n (ab++aa) out bad (ab.length:Int)=some (out++vu [239,191,189] aa.length bad aa):=by
 induction n with
 |zero=>intro ab aa out bad h;omega|succ n ih=>
  intro ab aa out bad h hb ho;rw[ql9,qxo]
  cases aa with
  |nil=>rw[ay (by simp)];simp[vu]|cons c t=>
   have hw:=decodeL_width (c::t);have hle:=decodeL_le (c::t) (by simp)
   simp only[qL]at h hb ho;rw[am (by rw[ja];omega),z3g fu hfu ab c t (by omega),qB]
   show _=some (out++vu [239,191,189] (t.length+1) bad (c::t));rw[vu];by_cases hbad:(decodeL (c::t)).1=65533/\(decodeL (c::t)).2=1
   ·have hneg:=(q8x _).2 hbad;rw[ay (by omega),qX hbad,decide_eq_true hneg,zvu,hbad.2,z8e,qB,qj6 _ _ (by omega)]
    have:=fun o=>ih (ab++[c]) t o true (by omega) (by simp;omega)
    simp only[qM,qL,qZ,qS,wM,wO]at this;cases bad
    ·rw[fc,am (by simp[bf];omega)]
     refine(this (out++[239,191,189]) (by simp;omega)).trans ?_
     simp
    ·rw[dm];refine(this out (by omega)).trans ?_
     simp
   ·have hneg:¬(rnzz (c::t)).1<0:=fun q=>hbad ((q8x _).1 q)
    have hle':=hle;simp only[qL]at hle';rw[am (by omega),qW hbad,decide_eq_false hneg,zvu,qj6 _ _ (by omega),am (by rw[ja];omega)]
    have e:List.take (((ab.length+(decodeL (c::t)).2:Nat):Int).toNat-((ab.length:Nat):Int).toNat) (List.drop ((ab.length:Nat):Int).toNat (ab++c::t))=(c::t).take (decodeL (c::t)).2:=by
     rw[od];congr 1;omega
    rw[e,am (by rw[List.length_take,Nat.min_eq_left hle];simp[bf];omega)]
    have:=ih (ab++(c::t).take (decodeL (c::t)).2) ((c::t).drop (decodeL (c::t)).2) (out++(c::t).take (decodeL (c::t)).2) false (by rw[List.length_drop];simp only[qL];omega) (by rw[qM,List.length_take,List.length_drop];simp only[qL]at hle ⊢;omega) (by rw[qM,List.length_take,List.length_drop];simp only[qL]at hle ⊢;omega)
    rw[qS,List.take_append_drop,qM,List.length_take,Nat.min_eq_left hle]at this;refine this.trans ?_;rw[qS,qej _ t.length false ((c::t).drop (decodeL (c::t)).2) (by rw[List.length_drop];simp only[qL];omega)]
def z7b(fu:Nat)(hfu:10<=fu)(s:Bs)(h:s.length<fu)(hb:s.length<100000000):qxn fu s=some (vu [239,191,189] s.length false s):=by
 have:=z7a fu fu hfu [] s [] false h (by simpa using hb) (by simp;omega)
 simpa [qxn] using this
def zj5(s:Bs)(h:s.length<=1000000):ue s [239,191,189]=some (vu [239,191,189] s.length false s):=by
 unfold ue;rw[am ⟨h,by simp⟩]
def zki(s:Bs)(h:s.length<=1000000):uf s=some (validD s):=by
 unfold uf;rw[am (by omega)]
end Go.Sym
namespace Go.Sym
open Go.Lib (validD)
abbrev cr:Type:=Bs×Bs
abbrev eq:Type:=Bs×Bs×List cr
def pl(l:List cr):Prop:=l.length<=4000000/\∀x∈l,x.1.length<=4000000/\x.2.length<=4000000
def q9(m:eq):Prop:=m.1.length<=4000000/\m.2.1.length<=4000000/\pl m.2.2
def lk(a b:Bs):Bool:=a.map lo==b.map lo
def zka(a b:Bs):lk a b=lk b a:=by unfold lk;rw[Bool.eq_iff_iff];simp only[beq_iff_eq];exact⟨Eq.symm,Eq.symm⟩
def zfx(a:Bs):lk a a=true:=by unfold lk;simp
def ig(fu:Nat)(hfu:90000000<=fu)(a b:Bs)(ha:a.length<=4000000)(hb:b.length<=4000000):di fu a b=some (lk a b):=
 zcx fu a b (by omega) (by omega) (by simp[maxLen];omega) (by simp[maxLen];omega)
def qez(fu:Nat)(hfu:90000000<=fu)(a b:Bs)(ha:a.length<=4000000)(hb:b.length<=4000000):qn fu a b=some (lk a b):=
 q9s fu a b (by omega) (by omega) (by simp[maxLen];omega) (by simp[maxLen];omega)
def zfk(fu n:Nat)(hfu:90000000<=fu)(p:cr)(hp:p.1.length<=4000000):∀(ab aa:List cr),aa.length<n->ab.length+aa.length<100000000->(∀x∈aa,x.1.length<=4000000) ->
  ∃i:Int,qbt fu n (ab++aa) ((ab.length+aa.length:Nat):Int) (ab.length:Int) p=some (i,p)/\decide (0<=i)=aa.any (fun x=>lk x.1 p.1):=by
 induction n with
 |zero=>intro ab aa h;omega|succ n ih=>
  intro ab aa h hb hs;rw[qbt,qoc]
  cases aa with
  |nil=>rw[ay (by simp)];exact⟨_,rfl,rfl⟩|cons d aa=>
   simp only[qL]at h hb;rw[am (by simp only[qL];omega),cz,qB,qnd,ig fu hfu _ _ (hs d qH) hp,qB,qB,bj _ (by omega)]
   obtain⟨i,h1,h2⟩:=ih (ab++[d]) aa (by omega) (by simp;omega) (fun x hx=>hs x (qE _ hx))
   simp only[qM,qL,qZ,qS,wM,wO]at h1;cases e:lk d.1 p.1
   ·simp only[qF,List.any_cons,e,Bool.false_or];rw[show(ab.length+(d::aa).length:Nat)=ab.length+1+aa.length by simp only[qL];omega]
    exact⟨i,h1,h2⟩
   ·simp only[qT,List.any_cons,e,Bool.true_or];exact⟨_,rfl,decide_eq_true (by omega)⟩
def zc4(fu:Nat)(hfu:90000000<=fu)(l:List cr)(p:cr)(hp:p.1.length<=4000000)(hs:pl l):qgf fu l p=some (l.any (fun x=>lk x.1 p.1),p):=by
 obtain⟨i,h1,h2⟩:=zfk fu fu hfu p hp [] l (by have:=hs.1;omega) (by have:=hs.1;simp;omega) (fun x hx=>(hs.2 x hx).1)
 simp only[List.nil_append,qZ,wO]at h1;unfold qgf qob;rw[← h2];exact(congrArg (fun q=>Option.bind q fun x1=>some (decide ((0:Int)<=x1.1),x1.2)) h1).trans rfl
def vi:List cr->List cr->Int×Int
 |_,[]=>(0,0)|ab,p::l=>if fm p.1=false\/20<p.1.length then(10,ab.length) else if ab.any (fun x=>lk x.1 p.1)=true then(7,ab.length) else if 500<p.2.length then(1,ab.length)
  else if validD p.2=false then(5,ab.length) else vi (ab++[p]) l
def gm(m:eq):Int×Int:=if fm m.1=false\/fm m.2.1=false then(10,-2) else if 60<m.2.2.length then(2,-3) else vi [] m.2.2
def pl.mono{l l':List cr}(h:pl l)(h1:l'.length<=l.length)(h2:∀x∈l',x∈l):pl l':=⟨Nat.le_trans h1 h.1,fun x hx=>h.2 x (h2 x hx)⟩
def mw(a b:Int):bt a b=some (a,b):=rfl
def qkr(a b:Int):tj a b=some (a,b):=rfl
def zf8:cq=some ((0:Int),(0:Int)):=rfl
def zge(fu n:Nat)(hfu:90000000<=fu)(m:eq)(z:Int×Int):∀(ab aa:List cr),m.2.2=ab++aa->aa.length<n->pl (ab++aa) ->
  wu fu n (ab++aa) ((ab.length+aa.length:Nat):Int) (ab.length:Int) m z=some (vi ab aa):=by
 induction n with
 |zero=>intro ab aa _ h;omega|succ n ih=>
  intro ab aa hm h hs;rw[wu,qne]
  cases aa with
  |nil=>rw[ay (by simp)];rfl|cons p aa=>
   have hp:=hs.2 p (by simp)
   have hl:=hs.1;simp only[qL,qM]at h hl;rw[am (by simp only[qL];omega),cz,qB,qjz fu _ (by omega) (by omega),qB,vi]
   have hp3:tw fu (wu fu n) (ab.length:Int) (ab++p::aa) ((ab.length+(p::aa).length:Nat):Int) (ab.length:Int) false m z p =
     some (if ab.any (fun x=>lk x.1 p.1)=true then(7,(ab.length:Int)) else if 500<p.2.length then(1,(ab.length:Int)) else if validD p.2=false then(5,(ab.length:Int)) else vi (ab++[p]) aa):=by
    rw[tw,bi rfl,am (by rw[hm,ja];omega),hm,qef,zc4 fu hfu ab p hp.1 (hs.mono (by simp) (fun x hx=>by simp[hx])),qB]
    simp only[];by_cases h1:ab.any (fun x=>lk x.1 p.1)=true
    ·rw[qX h1,bh h1,mw];rfl
    rw[qW h1,bi (by simpa using h1)]
    by_cases h2:500<p.2.length
    ·rw[qX h2,am (by omega),mw];rfl
    rw[qW h2,ay (by omega),zki _ (by omega),qB]
    cases h3:validD p.2
    ·rw[fc,qX rfl,mw];rfl
    ·rw[dm,qW (by simp),bj _ (by omega)]
     have:=ih (ab++[p]) aa (by rw[hm];simp) (by omega) (by simpa using hs)
     simp only[qM,qL,qZ,qS,wM,wO]at this;rw[show(ab.length+(p::aa).length:Nat)=ab.length+1+aa.length by simp only[qL];omega]
     exact this
   cases h0:fm p.1
   ·rw[fc,qX (.inl rfl),tw,bh rfl,mw];rfl
   rw[dm];by_cases h20:20<p.1.length
   ·rw[decide_eq_true (by omega),qX (.inr h20),tw,bh rfl,mw];rfl
   ·rw[decide_eq_false (p:=(20:Int)<(List.length p.1:Int)) (by omega),hp3,qW (c:=true=false\/20<p.1.length) (by simp;omega)]
def qsh(fu:Nat)(hfu:90000000<=fu)(m:eq)(hs:q9 m):ph fu m=some (gm m):=by
 obtain⟨h1,h2,h3⟩:=hs;unfold ph gm;rw[qjz fu m.1 (by omega) (by omega),qB,qjz fu m.2.1 (by omega) (by omega)]
 cases g1:fm m.1
 ·rw[fc,wt,bh rfl,mw,qX (.inl rfl)];rfl
 rw[dm,qB];cases g2:fm m.2.1
 ·rw[wt,fc,mw,qX (.inr rfl)];rfl
 rw[wt,dm,qnf,qW (by simp)]
 by_cases g3:60<m.2.2.length
 ·rw[am (by omega),qX g3,mw];rfl
 ·rw[ay (by omega),qW g3]
  have:=zge fu fu hfu m (0,0) [] m.2.2 rfl (by have:=h3.1;omega) h3
  simpa using this
def z7f(fu n:Nat)(hfu:90000000<=fu)(r2:(Int->(Bs×Bs×(List (Bs×Bs)))->(Int×Int)->Option ((Int×Int))))(m:eq)(z:Int×Int)(p:cr)(rest:List cr)(hp:p.1.length<=4000000):∀(ab aa:List cr),m.2.2=ab++aa++p::rest->aa.length<n->pl m.2.2 ->
  qk7 fu r2 n ((ab.length+aa.length:Nat):Int) (ab.length:Int) m z p =
   if aa.any (fun x=>lk x.1 p.1)=true then some (7,((ab.length+aa.length:Nat):Int)) else bif decide ((500:Int)<(List.length p.2:Int)) then(tj (1:Int) ((ab.length+aa.length:Nat):Int)).bind fun x4=>some x4 else(qxe fu p.2).bind fun x5=>bif !x5 then(tj (5:Int) ((ab.length+aa.length:Nat):Int)).bind fun x6=>some x6 else r2 (af (((ab.length+aa.length:Nat):Int)+(1:Int))) m z:=by
 induction n with
 |zero=>intro ab aa _ h;omega|succ n ih=>
  intro ab aa hm h hs;rw[qk7,qwr]
  cases aa with
  |nil=>rw[ay (by simp),qW (by simp)]|cons d aa=>
   have hl:=hs.1;rw[hm]at hl;simp only[qL,qM]at h hl;rw[am (by simp only[qL];omega)]
   have hx:ap m.2.2 (ab.length:Int)=some d:=by rw[hm,qS,wK];exact cz ab d _
   rw[hx,qB,qez fu hfu _ _ (hs.2 d (by rw[hm];simp)).1 hp,qB,bj _ (by omega)]
   have:=ih (ab++[d]) aa (by rw[hm];simp) (by omega) hs
   simp only[qM,qL,qZ,qS,wM,wO]at this;cases e:lk d.1 p.1
   ·simp only[qF,List.any_cons,e,Bool.false_or];rw[show(ab.length+(d::aa).length:Nat)=ab.length+1+aa.length by simp only[qL];omega]
    exact this
   ·simp only[qT,List.any_cons,e,Bool.true_or,if_true];rfl
def z7d(fu n:Nat)(hfu:90000000<=fu)(m:eq)(z:Int×Int)(hs:pl m.2.2):∀(ab aa:List cr),m.2.2=ab++aa->aa.length<n ->
  qk5 fu n (ab.length:Int) m z=some (vi ab aa):=by
 induction n with
 |zero=>intro ab aa _ h;omega|succ n ih=>
  intro ab aa hm h;rw[qk5,qwq,hm]
  cases aa with
  |nil=>rw[ay (by simp)];rfl|cons p aa=>
   have hp:=hs.2 p (by rw[hm];simp)
   have hl:=hs.1;rw[hm]at hl;simp only[qL,qM]at h hl;rw[am (by rw[ja];omega),cz,qB,zwb fu (by omega) _ (by omega) (by omega),qB,vi]
   have hp3:qk6 fu (qk5 fu n) (ab.length:Int) false m z p =
     some (if ab.any (fun x=>lk x.1 p.1)=true then(7,(ab.length:Int)) else if 500<p.2.length then(1,(ab.length:Int)) else if validD p.2=false then(5,(ab.length:Int)) else vi (ab++[p]) aa):=by
    rw[qk6,bi rfl,qwt];have:=z7f fu fu hfu (qk5 fu n) m z p aa hp.1 [] ab (by rw[hm];simp) (by omega) hs
    simp only[qZ,wO]at this;refine(this:_=_).trans ?_;by_cases h1:ab.any (fun x=>lk x.1 p.1)=true
    ·rw[qX h1,qX h1]
    rw[qW h1,qW h1];by_cases h2:500<p.2.length
    ·rw[qX h2,am (by omega)];rfl
    rw[qW h2,ay (by omega),z7v fu (by omega) _ (by omega) (by omega),qB]
    cases h3:validD p.2
    ·rw[fc,qX rfl];rfl
    ·rw[dm,qW (by simp),bj _ (by omega)]
     have:=ih (ab++[p]) aa (by rw[hm];simp) (by omega)
     simpa only [qM,qL,qZ,wO] using this
   cases h0:fm p.1
   ·rw[fc,qX (.inl rfl),qk6,bh rfl,qkr];rfl
   rw[dm];by_cases h20:20<p.1.length
   ·rw[decide_eq_true (by omega),qX (.inr h20),qk6,bh rfl,qkr];rfl
   ·rw[decide_eq_false (p:=(20:Int)<(List.length p.1:Int)) (by omega),hp3,qW (c:=true=false\/20<p.1.length) (by simp;omega)]
def z7e(fu:Nat)(hfu:90000000<=fu)(m:eq)(hs:q9 m):qwp fu m=some (gm m):=by
 obtain⟨h1,h2,h3⟩:=hs;unfold qwp gm;rw[zwb fu (by omega) m.1 (by omega) (by omega),qB,zwb fu (by omega) m.2.1 (by omega) (by omega)]
 cases g1:fm m.1
 ·rw[fc,qk4,bh rfl,qkr,qX (.inl rfl)];rfl
 rw[dm,qB];cases g2:fm m.2.1
 ·rw[qk4,fc,qkr,qX (.inr rfl)];rfl
 rw[qk4,dm,qws,qW (by simp)]
 by_cases g3:60<m.2.2.length
 ·rw[am (by omega),qX g3,qkr];rfl
 ·rw[ay (by omega),qW g3]
  exact z7d fu fu hfu m (0,0) h3 [] m.2.2 rfl (by have:=h3.1;omega)
def par(l:List cr)(nm:Bs):Option Bs:=(l.find? fun x=>lk x.1 nm).map (·.2)
def d7(l:List cr)(nm:Bs):Bs×Bool:=match par l nm with|some v=>(v,true)|none=>([],false)
def q4n(p:cr)(l:List cr)(nm:Bs):d7 (p::l) nm=if lk p.1 nm=true then(p.2,true) else d7 l nm:=by
 unfold d7 par;rw[List.find?_cons];cases lk p.1 nm<;>rfl
def zga(fu n:Nat)(hfu:90000000<=fu)(nm:Bs)(hn:nm.length<=4000000)(z:Int×Int):∀(ab aa:List cr),aa.length<n->pl (ab++aa) ->
  qa3 fu n nm (ab++aa) ((ab.length+aa.length:Nat):Int) (ab.length:Int) z=some ((d7 aa nm).1,((d7 aa nm).2,(0,0))):=by
 induction n with
 |zero=>intro ab aa h;omega|succ n ih=>
  intro ab aa h hs;rw[qa3,qnb]
  cases aa with
  |nil=>rw[ay (by simp)];rfl|cons p aa=>
   have hl:=hs.1;simp only[qL,qM]at h hl;rw[am (by simp only[qL];omega),cz,qB,ig fu hfu _ _ (hs.2 p (by simp)).1 hn,qB,bj _ (by omega),q4n]
   have:=ih (ab++[p]) aa (by omega) (by simpa using hs)
   simp only[qM,qL,qZ,qS,wM,wO]at this;cases e:lk p.1 nm
   ·rw[bi rfl,show(ab.length+(p::aa).length:Nat)=ab.length+1+aa.length by simp only[qL];omega]
    exact this
   ·rfl
def qsg(fu:Nat)(hfu:90000000<=fu)(m:eq)(nm:Bs)(hn:nm.length<=4000000)(hs:q9 m):nj fu m nm=some (if(gm m).1≠0 then([],(false,gm m)) else((d7 m.2.2 nm).1,((d7 m.2.2 nm).2,(0,0)))):=by
 unfold nj;rw[qsh fu hfu m hs,qB,p8,qB,mf];by_cases h:(gm m).1≠0
 ·rw[qX h,qX h]
 ·rw[qW h,qW h];have:=zga fu fu hfu nm hn (0,0) [] m.2.2 (by have:=hs.2.2.1;omega) hs.2.2
  simpa using this
end Go.Sym
namespace Go.Sym
def zj8(fu n:Nat):∀(s:List UInt8),s.length<n->s.length<1000000000->qb3 fu n s (io [32,9])=some (d6 s,io [32,9]):=by
 induction n with
 |zero=>intro s h;omega|succ n ih=>
  intro s h hb;rw[qb3,qov]
  cases s with
  |nil=>rw[ay (by simp)];rfl|cons c s=>
   simp only[qL]at h hb;rw[am (by simp),show ap (c::s) (0:Int)=some c from rfl,qB,qcu xt,qB,q0r,qsd]
   cases bl c
   ·rfl
   ·rw[dm,am (by simp only[qL];omega)]
    exact ih s (by omega) (by omega)
def zf1(s:Bs):d6 (d6 s)=d6 s:=by
 induction s with
 |nil=>rfl|cons c s ih=>
  rw[qsd];by_cases h:bl c=true
  ·rw[qX h];exact ih
  ·rw[qW h,qsd,qW h]
def q3n(s:Bs):d6 s <:+ s:=List.dropWhile_suffix _
def zj9(fu:Nat)(s:List UInt8)(hfu:100<=fu)(h:s.length<fu)(hb:s.length<1000000000):qgp fu s [32,9]=some (d6 s):=by
 unfold qgp
 cases s with
 |nil=>rfl|cons c s=>
  rw[bi (by rfl)]
  unfold qgq;rw[bi (by rfl)]
  unfold qoo;rw[bi (by decide)]
  unfold qgr;rw[bi (by rfl)]
  unfold qop;obtain⟨n,rfl⟩:∃n,fu=n+100:=⟨fu-100,by omega⟩
  rw[xt.set,qB];simp only[xt.len];rw[bh (by rw[List.length_replicate];rfl),bh (by rfl)]
  unfold qou;rw[zj8 _ _ _ h hb];rfl
def ya(fu:Nat)(hfu:90000000<=fu)(s:Bs)(h:s.length<=4000000):qu fu s=some (d6 s):=by
 unfold qu;rw[zj9 fu s (by omega) (by omega) (by omega)];rfl
def c8(p:UInt8->Bool)(s:Bs):Bs×Bs:=((d6 s).takeWhile p,(d6 s).dropWhile p)
def fk(c:UInt8):Bool:=tk c||c==42
def vx(c:UInt8):Bool:=tk c||(c==37||(c==39||c==42))
def sy(P:UInt8->Option Bool):Nat->Int->Bs->Option (Bs×Bs)
 |0,_,_=>none|n+1,s5,m0=>bif decide (s5<(List.length m0:Int)) then(ap m0 s5).bind fun c1=>(P c1).bind fun x2=>(bif x2 then sy P n (af (s5+(1:Int))) m0 else bif decide (0<=s5/\s5<=(List.length m0:Int)) then bif decide (0<=s5/\s5<=(List.length m0:Int)) then some (List.take s5.toNat m0,List.drop s5.toNat m0) else none else none)
  else(bif false then sy P n (af (s5+(1:Int))) m0 else bif decide (0<=s5/\s5<=(List.length m0:Int)) then bif decide (0<=s5/\s5<=(List.length m0:Int)) then some (List.take s5.toNat m0,List.drop s5.toNat m0) else none else none)
def zjy(P:UInt8->Option Bool)(p:UInt8->Bool)(hP:∀c,P c=some (p c))(n:Nat):∀(ab aa:Bs),aa.length<n->ab.length+aa.length<9223372036854775807 ->
  sy P n (ab.length:Int) (ab++aa)=some (ab++aa.takeWhile p,aa.dropWhile p):=by
 induction n with
 |zero=>intro ab aa h;omega|succ n ih=>
  intro ab aa h hb;rw[sy]
  cases aa with
  |nil=>rw[ay (by simp),bi rfl,am (by simp),am (by simp),qef,od];simp|cons d aa=>
   simp only[qL]at h hb;rw[am (by rw[ja];omega),cz,qB,hP,qB,bj _ (by omega),qef,od,List.takeWhile_cons,List.dropWhile_cons]
   have:=ih (ab++[d]) aa (by omega) (by simp;omega)
   simp only[qM,qL,qZ,qS,wM,wO]at this;cases p d
   ·rw[bi rfl,am (by rw[ja];omega),am (by rw[ja];omega)];simp
   ·rw[bh rfl];simpa using this
def qtu(P:UInt8->Option Bool)(p:UInt8->Bool)(hP:∀c,P c=some (p c))(fu:Nat)(hfu:90000000<=fu)(s:Bs)(h:s.length<=4000000):sy P fu 0 (d6 s)=some (c8 p s):=by
 have hl:=y8 s;have:=zjy P p hP fu [] (d6 s) (by omega) (by simp;omega)
 simpa [c8] using this
def q6p(fu:Nat)(hfu:90000000<=fu)(s:Bs)(h:s.length<=4000000):qbg fu s=some (c8 tk s):=by
 have e:∀n,qbh fu n=sy l5 n:=by
  intro n;induction n with|zero=>rfl|succ n ih=>rw[qbh,ih];funext a b;rfl
 unfold qbg;rw[ya fu hfu s h,qB,e];exact qtu _ tk qeg fu hfu s h
def zj1(c:UInt8):qbf c=some (fk c):=by
 unfold qbf fk;rw[qeg,qB];cases tk c<;>rfl
def zj2(c:UInt8):qbk c=some (vx c):=by
 unfold qbk vx;rw[qeg,qB];cases tk c
 ·cases c==37
  ·cases c==39<;>rfl
  ·rfl
 ·rfl
def zjv(fu:Nat)(hfu:90000000<=fu)(s:Bs)(h:s.length<=4000000):qfz fu s=some (c8 fk s):=by
 have e:∀n,qbi fu n=sy qbf n:=by
  intro n;induction n with|zero=>rfl|succ n ih=>rw[qbi,ih];funext a b;rfl
 unfold qfz;rw[ya fu hfu s h,qB,e];exact qtu _ fk zj1 fu hfu s h
def zjx(fu:Nat)(hfu:90000000<=fu)(s:Bs)(h:s.length<=4000000):qf0 fu s=some (c8 vx s):=by
 have e:∀n,qbj fu n=sy qbk n:=by
  intro n;induction n with|zero=>rfl|succ n ih=>rw[qbj,ih];funext a b;rfl
 unfold qf0;rw[ya fu hfu s h,qB,e];exact qtu _ vx zj2 fu hfu s h
def dp(c:UInt8)(s:Bs):Bool×Bs:=match d6 s with|[]=>(false,[])|d::t=>if d=c then(true,t) else(false,d::t)
def qi6(fu:Nat)(hfu:90000000<=fu)(c:UInt8)(s:Bs)(h:s.length<=4000000):tx fu c s=some (dp c s):=by
 unfold tx dp;rw[ya fu hfu s h,qB]
 cases d6 s with
 |nil=>rfl|cons d t=>
  rw[bi (by rfl),show ap (d::t) (0:Int)=some d from rfl,qB,q0n]
  by_cases hd:d=c
  ·rw[qW (by simp[hd]),am (by simp only[qL];omega)];simp[hd]
  ·rw[qX hd];simp[hd]
def qv:Bs->Bs->Option (Bs×Bs)
 |_,[]=>none| out,c::t=>if c=34 then some (out,t) else if c=92 then(match t with
  |[]=>none| d::t'=>qv (out++[d]) t') else qv (out++[c]) t
def qd0(out:Bs)(c:UInt8)(t:Bs):qv out (c::t)=if c=34 then some (out,t) else if c=92 then(match t with
  |[]=>none| d::t'=>qv (out++[d]) t') else qv (out++[c]) t:=by cases t<;>rfl
def qi:4000000000<=bg:=by decide
def zhz(fu n:Nat):∀(ab aa out:Bs),aa.length<n->ab.length+aa.length<100000000->out.length+aa.length<100000000 ->
  qbl fu n (ab.length:Int) (ab++aa) out=some (match qv out aa with|some (v,t)=>(v,(true,t))|none=>([],(false,ab++aa))):=by
 have hrm:=qi
 induction n using Nat.strongRecOn with
 |ind n ih=>
  intro ab aa out h hb ho;obtain⟨n,rfl⟩:∃m,n=m+1:=⟨n-1,by omega⟩
  rw[qbl,qns]
  cases aa with
  |nil=>rw[ay (by simp)];rfl|cons c t=>
   simp only[qL]at h hb ho;rw[am (by rw[ja];omega),cz,qB,bj _ (by omega),rl]
   have ih1:=ih n (by omega) (ab++[c]) t (out++[c]) (by omega) (by simp;omega) (by simp;omega)
   simp only[qM,qL,qZ,qS,wM,wO]at ih1;by_cases h1:c=34
   ·rw[qX h1,am (by rw[ja];omega),qcz,qd0,qX h1]
   rw[qW h1,rl];by_cases h2:c=92
   ·rw[qX h2,g7,ja]
    cases t with
    |nil=>rw[qX (by simp),qd0,qW h1,qX h2]|cons d t=>
     simp only[qL]at h hb ho ⊢;rw[qW (by omega),show ap (ab++c::d::t) ((ab.length+1:Nat):Int)=some d by have:=cz (ab++[c]) d t;simpa using this,qB,am (by simp;omega),bj _ (by omega),qd0,qW h1,qX h2]
     have ih2:=ih n (by omega) (ab++[c,d]) t (out++[d]) (by omega) (by simp;omega) (by simp;omega)
     simp only[qM,qL,qZ,qS,wK,List.nil_append,wO]at ih2;exact ih2
   ·rw[qW h2,am (by simp;omega),qd0,qW h1,qW h2]
    exact ih1
def v7(s:Bs):Option (Bs×Bs):=if(dp 34 s).1=true then qv [] (dp 34 s).2 else some (c8 vx (dp 34 s).2)
def zi(c:UInt8)(s:Bs):(dp c s).2.length<=s.length:=by
 have:=y8 s;unfold dp
 cases h:d6 s with
 |nil=>simp|cons d t=>
  rw[h]at this;simp only[qL]at this;by_cases hd:d=c
  ·simp only[qX hd];omega
  ·simp only[qW hd,qL];omega
def zko(fu:Nat)(hfu:90000000<=fu)(s:Bs)(h:s.length<=4000000):∃r,qf1 fu s=some (match v7 s with|some (v,t)=>(v,(true,t))|none=>([],(false,r))):=by
 have hl:=zi 34 s;unfold qf1 v7;rw[qi6 fu hfu 34 s h,qB];cases hs:(dp 34 s).1
 ·rw[fc,zjx fu hfu _ (by omega),qW (by simp)]
  exact⟨[],rfl⟩
 ·rw[dm,qX rfl];have:=zhz fu fu [] (dp 34 s).2 [] (by omega) (by simp;omega) (by simp;omega)
  exact⟨(dp 34 s).2,by simpa using this⟩
def sg(s:Bs):Option ((Bs×Bs)×Bs):=if(dp 61 (c8 fk s).2).1=true then(v7 (dp 61 (c8 fk s).2).2).map fun x=>(((c8 fk s).1,x.1),x.2) else none
def vq(p:UInt8->Bool)(s:Bs):(c8 p s).1.length+(c8 p s).2.length<=s.length:=by
 have:=y8 s;have h:=congrArg List.length (List.takeWhile_append_dropWhile (p:=p) (l:=d6 s));rw[qM]at h;unfold c8;simp only;omega
def zh0:∀(out s v t:Bs),qv out s=some (v,t)->v.length+t.length<out.length+s.length/\t <:+ s:=by
 intro out s
 induction s using WellFounded.induction (r:=fun(a b:Bs)=>a.length<b.length) (hwf:=InvImage.wf List.length Nat.lt_wfRel.wf) generalizing out with
 |_ s ih=>
  intro v t h
  cases s with
  |nil=>cases h
  |cons c s=>
   rw[qd0]at h;by_cases h1:c=34
   ·rw[qX h1]at h;cases h;exact⟨by simp,List.suffix_cons _ _⟩
   rw[qW h1]at h;by_cases h2:c=92
   ·rw[qX h2]at h
    cases s with
    |nil=>cases h
    |cons d s=>
     obtain⟨g1,g2⟩:=ih s (by simp;omega) (out++[d]) v t h
     refine⟨by simp at g1 ⊢;omega,g2.trans ((List.suffix_cons _ _).trans (List.suffix_cons _ _))⟩
   ·rw[qW h2]at h;obtain⟨g1,g2⟩:=ih s (by simp) (out++[c]) v t h
    exact⟨by simp at g1 ⊢;omega,g2.trans (List.suffix_cons _ _)⟩
def q58(c:UInt8)(s:Bs):(dp c s).2 <:+ s:=by
 have:=q3n s;unfold dp
 cases h:d6 s with
 |nil=>simp|cons d t=>
  rw[h]at this;by_cases hd:d=c
  ·simp only[qX hd];exact(List.suffix_cons _ _).trans this
  ·simp only[qW hd];exact this
def q6q(p:UInt8->Bool)(s:Bs):(c8 p s).2 <:+ s:=(List.dropWhile_suffix _).trans (q3n s)
def zkl{s v t:Bs}(h:v7 s=some (v,t)):v.length+t.length<=s.length/\t <:+ s:=by
 have hl:=zi 34 s;have hx:=q58 34 s;unfold v7 at h;by_cases hs:(dp 34 s).1=true
 ·rw[qX hs]at h;obtain⟨g1,g2⟩:=zh0 [] _ _ _ h;exact⟨by simp at g1;omega,g2.trans hx⟩
 ·rw[qW hs]at h;have e:=qJ h;have g1:=vq vx (dp 34 s).2;have g2:=q6q vx (dp 34 s).2;rw[e]at g1 g2;simp only at g1 g2;exact⟨by omega,g2.trans hx⟩
def qr7{s n v t:Bs}(h:sg s=some ((n,v),t)):n.length+v.length+t.length<=s.length/\t <:+ s:=by
 have h1:=vq fk s;have h1':=q6q fk s;have h2:=zi 61 (c8 fk s).2;have h2':=q58 61 (c8 fk s).2;unfold sg at h;by_cases hs:(dp 61 (c8 fk s).2).1=true
 ·rw[qX hs]at h
  cases hv:v7 (dp 61 (c8 fk s).2).2 with
  |none=>rw[hv]at h;cases h
  |some x=>
   rw[hv]at h;obtain⟨g1,g2⟩:=zkl (v:=x.1) (t:=x.2) hv;have e:=qJ h;obtain⟨rfl,e2⟩:=Prod.mk.inj (Prod.mk.inj e).1;obtain rfl:=(Prod.mk.inj e).2;subst e2;exact⟨by omega,g2.trans (h2'.trans h1')⟩
 ·rw[qW hs]at h;cases h
def pos(s r:Bs):Int:=((s.length-r.length:Nat):Int)
def qsy{s r:Bs}(h:r <:+ s):List.drop (pos s r).toNat s=r:=(List.suffix_iff_eq_drop.1 h).symm
def z64{s r:Bs}(h:r <:+ s):∃p,s=p++r/\pos s r=(p.length:Int):=by
 obtain⟨p,rfl⟩:=h;exact⟨p,rfl,by unfold pos;simp⟩
def qc7{s:Bs}{c:UInt8}{t:Bs}(h:(c::t) <:+ s):ap s (pos s (c::t))=some c:=by
 obtain⟨p,rfl,e⟩:=z64 h;rw[e];exact cz p c t
def qcy{s:Bs}{c:UInt8}{t:Bs}(h:(c::t) <:+ s)(hb:s.length<1000000000):af (pos s (c::t)+1)=pos s t:=by
 have:=h.length_le;simp only[qL]at this;unfold pos;rw[bj _ (by omega)];simp only[qL];omega
def zhh{s:Bs}{c:UInt8}{t:Bs}(h:(c::t) <:+ s):pos s (c::t)<(s.length:Int):=by
 have:=h.length_le;simp only[qL]at this;unfold pos;simp only[qL];omega
def qsz(s:Bs):pos s []=(s.length:Int):=by unfold pos;simp
def zhf(s:Bs):pos s s=0:=by unfold pos;simp
def q4u(s r:Bs):0<=pos s r/\pos s r<=(s.length:Int):=by unfold pos;omega
def z1d{s r r':Bs}(h2:r' <:+ r):pos s r<=pos s r':=by have:=h2.length_le;unfold pos;omega
def z1g{s r r':Bs}(h:r <:+ s)(h2:r' <:+ r):List.take ((pos s r').toNat-(pos s r).toNat) (List.drop (pos s r).toNat s)=r.take (r.length-r'.length):=by
 rw[qsy h];have:=h.length_le;have:=h2.length_le;congr 1;unfold pos;omega
def z71(p:UInt8->Bool)(r:Bs):r.take (r.length-(r.dropWhile p).length)=r.takeWhile p:=by
 have h:r.takeWhile p++r.dropWhile p=r:=List.takeWhile_append_dropWhile;have h2:=congrArg List.length h;rw[qM]at h2;rw[show r.length-(r.dropWhile p).length=(r.takeWhile p).length by omega]
 have e:r.take (r.takeWhile p).length=(r.takeWhile p++r.dropWhile p).take (r.takeWhile p).length:=by rw[h]
 rw[e,List.take_left]
def z7w(fu n:Nat)(s:Bs)(hb:s.length<100000000):∀(r:Bs),r <:+ s->r.length<n->qmb fu n s (pos s r)=some (pos s (d6 r)):=by
 induction n with
 |zero=>intro r _ h;omega|succ n ih=>
  intro r hr h;rw[qmb,qxq]
  cases r with
  |nil=>rw[qsz,ay (by omega)];simp[d6,qsz]|cons c t=>
   rw[am (zhh hr),qc7 hr,qB,z16,qB,qcy hr (by omega),qsd]
   cases hc:bl c
   ·rfl
   ·rw[bh rfl,qX rfl];exact ih t ((List.suffix_cons _ _).trans hr) (by simp only[qL]at h;omega)
def qdn(fu:Nat)(hfu:90000000<=fu){s r:Bs}(h:s.length<=4000000)(hr:r <:+ s):pc fu s (pos s r)=some (pos s (d6 r)):=
 z7w fu fu s (by omega) r hr (by have:=hr.length_le;omega)
def z7p(fu n:Nat)(hfu:90000000<=fu)(more:Bs)(hm:more.length<100)(s:Bs)(hb:s.length<100000000):∀(r:Bs),r <:+ s->r.length<n->qma fu n s (pos s r) more=some (pos s (r.dropWhile fun c=>tk c||more.contains c)):=by
 induction n with
 |zero=>intro r _ h;omega|succ n ih=>
  intro r hr h;rw[qma,qxp]
  cases r with
  |nil=>rw[qsz,ay (by omega)];simp[qsz]|cons c t=>
   rw[am (zhh hr),qc7 hr,qB,z26 fu (by omega),qB,qcy hr (by omega),List.dropWhile_cons]
   have:=ih t ((List.suffix_cons _ _).trans hr) (by simp only[qL]at h;omega)
   cases hc:tk c
   ·rw[bi rfl,qB,z09 fu c more (by omega) (by omega),qB,Bool.false_or]
    cases hd:more.contains c
    ·rfl
    ·rw[bh rfl];exact this
   ·rw[bh rfl];exact this
def qpw(fu:Nat)(hfu:90000000<=fu)(more:Bs)(hm:more.length<100){s r:Bs}(h:s.length<=4000000)(hr:r <:+ s)(p:UInt8->Bool)(hp:∀c,(tk c||more.contains c)=p c) :
  qam fu s (pos s r) more=some (pos s (r.dropWhile p)):=by
 have:=z7p fu fu hfu more hm s (by omega) r hr (by have:=hr.length_le;omega)
 rw[show(fun c=>tk c||more.contains c)=p from funext hp]at this
 exact this
open Go.Lib (decDigits nDigits itoa atoiAll parseUint10 parseMag NumEnd)
def qj8(d:Nat)(h:d<10):(UInt8.ofNat (48+d)).toNat=48+d:=by
 rw[UInt8.toNat_ofNat'];omega
def zdr(u:Nat)(h:u<10):decDigits u=[UInt8.ofNat (48+u)]:=by rw[decDigits,dif_pos h]
def zdq(u:Nat)(h:¬u<10):decDigits u=decDigits (u/10)++[UInt8.ofNat (48+u%10)]:=by rw[decDigits,dif_neg h]
def zyx(u:Nat):decDigits u≠[]:=by
 by_cases h:u<10
 ·rw[zdr u h];simp
 ·rw[zdq u h];simp
def zyu(u:Nat):∀c∈decDigits u,48<=c.toNat/\c.toNat<=57:=by
 induction u using Nat.strongRecOn with
 |ind u ih=>
  intro c hc;by_cases h:u<10
  ·rw[zdr u h]at hc;rw[List.mem_singleton.1 hc,qj8 u h];omega
  ·rw[zdq u h]at hc;rcases List.mem_append.1 hc with hc|hc
   ·exact ih (u/10) (by omega) c hc
   ·rw[List.mem_singleton.1 hc,qj8 _ (by omega)];omega
def q1s(k:Nat):∀u,u<10 ^ k->1<=k->(decDigits u).length<=k:=by
 induction k with
 |zero=>intro u _ h;omega|succ k ih=>
  intro u hu _;by_cases h:u<10
  ·rw[zdr u h];simp
  ·rw[zdq u h,qM,wD];have hk:1<=k:=by
    rcases Nat.eq_zero_or_pos k with h0|h0
    ·subst h0;simp at hu;omega
    ·exact h0
   have:=ih (u/10) (by rw[Nat.pow_succ]at hu;omega) hk
   omega
def qcr(a:Nat)(l:Bs):Nat:=l.foldl (fun a c=>10*a+(c.toNat-48)) a
def z5y(u:Nat):qcr 0 (decDigits u)=u:=by
 induction u using Nat.strongRecOn with
 |ind u ih=>
  by_cases h:u<10
  ·rw[zdr u h];show 10*0+((UInt8.ofNat (48+u)).toNat-48)=u;rw[qj8 u h];omega
  ·rw[zdq u h];unfold qcr;rw[List.foldl_append];have:=ih (u/10) (by omega)
   unfold qcr at this;rw[this];show 10*(u/10)+((UInt8.ofNat (48+u%10)).toNat-48)=u;rw[qj8 _ (by omega)];omega
def z6z:∀(l:Bs)(a:Nat)(c:UInt8),parseUint10 a (l++[c])=match parseUint10 a l with | .ok b=>parseUint10 b [c]|e=>e:=by
 intro l
 induction l with
 |nil=>intro a c;rfl|cons d l ih=>
  intro a c;rw[wK,parseUint10,parseUint10];by_cases h1:48<=d.toNat/\d.toNat<=57
  ·rw[qX h1,qX h1];by_cases h2:1844674407370955162<=a
   ·rw[qX h2,qX h2]
   ·rw[qW h2,qW h2];by_cases h3:18446744073709551616<=a*10+(d.toNat-48)
    ·rw[qX h3,qX h3]
    ·rw[qW h3,qW h3,ih]
  ·rw[qW h1,qW h1]
def z60(u:Nat):u<9223372036854775808->parseUint10 0 (decDigits u) = .ok u:=by
 induction u using Nat.strongRecOn with
 |ind u ih=>
  intro hu;have step:∀a d,a*10+d=u->d<10->parseUint10 a [UInt8.ofNat (48+d)] = .ok u:=by
   intro a d h1 h2;rw[parseUint10,qj8 d h2,qX (by omega),qW (by omega),qW (by omega),parseUint10]
   congr 1;omega
  by_cases h:u<10
  ·rw[zdr u h];exact step 0 u (by omega) h
  ·rw[zdq u h,z6z,ih (u/10) (by omega) (by omega)]
   exact step (u/10) (u%10) (by omega) (by omega)
def z5p(u:Nat)(hu:u<9223372036854775808):atoiAll (decDigits u) = .ok (u:Int):=by
 have hd:=zyu u;have hp:=z60 u hu;have hne:=zyx u
 cases hl:decDigits u with
 |nil=>exact absurd hl hne|cons c r=>
  rw[hl]at hd hp;have hc:=hd c qH;unfold atoiAll;simp only[];rw[qW (c:=c.toNat=43\/c.toNat=45) (by omega),parseMag,qW (by simp),hp]
  simp only[];rw[qW (by omega),qW (by omega),qW (by omega)]
def q3b(u:Nat):itoa (u:Int)=decDigits u:=by unfold itoa;rw[qW (by omega)];simp
def z6s(u:Nat)(most:Int)(h:(u:Int)<=most)(hm:most<9223372036854775808):kh (decDigits u) most=((u:Int),true):=by
 unfold kh;rw[z5p u (by omega)]
 simp only[];rw[qX ⟨q3b u,by omega,h⟩]
def zgn{s:Bs}{most:Int}(h:(kh s most).2=true):∃u:Nat,s=decDigits u/\(u:Int)<=most/\kh s most=((u:Int),true):=by
 have h0:=h;unfold kh at h;split at h
 ·rename_i v hv;by_cases hc:itoa v=s/\0<=v/\v<=most
  ·obtain⟨u,rfl⟩:∃u:Nat,v=u:=⟨v.toNat,by omega⟩
   refine⟨u,by rw[← hc.1,q3b],hc.2.2,?_⟩
   unfold kh;rw[hv];simp only[];rw[qX hc]
  ·rw[qW hc]at h;cases h
 ·cases h
def q80{x:Int}(h1:0<=x)(h2:x<18446744073709551616):IntKind.u64.wrap x=x:=by
 unfold IntKind.wrap;simp[IntKind.signed,IntKind.bits];omega
def zy0(d:Nat)(h:d<10):List.take (d+1-d) (List.drop d ([48,49,50,51,52,53,54,55,56,57]:Bs))=[UInt8.ofNat (48+d)]:=by
 have:∀d:_root_.Fin 10,List.take (d.val+1-d.val) (List.drop d.val ([48,49,50,51,52,53,54,55,56,57]:Bs))=[UInt8.ofNat (48+d.val)]:=by decide
 exact this ⟨d,h⟩
def z5u(fu:Nat)(k:Nat):∀(n u:Nat),k<=n->u<10 ^ k->1<=k->u<9223372036854775808->ql4 fu n (u:Int)=some (decDigits u):=by
 induction k with
 |zero=>intro n u _ _ h;omega|succ k ih=>
  intro n u hn hu _ hb;obtain⟨n,rfl⟩:∃m,n=m+1:=⟨n-1,by omega⟩
  rw[ql4,ql3];by_cases h:u<10
  ·rw[am (by omega),show(u:Int)+1=((u+1:Nat):Int) by omega,q80 (by omega) (by omega),am (by simp;omega),zdr u h]
   simp only[qY];rw[zy0 u h]
  ·have hk:1<=k:=by
    rcases Nat.eq_zero_or_pos k with h0|h0
    ·subst h0;simp at hu;omega
    ·exact h0
   have e1:Int.tdiv (u:Int) 10=((u/10:Nat):Int):=by rw[Int.tdiv_eq_ediv_of_nonneg (by omega)];omega
   have e2:Int.tmod (u:Int) 10=((u%10:Nat):Int):=by rw[Int.tmod_eq_emod_of_nonneg (by omega)];omega
   have hr:=ih n (u/10) (by omega) (by rw[Nat.pow_succ]at hu;omega) hk (by omega)
   have ac:(decDigits (u/10)).length<=19:=q1s 19 _ (by omega) (by omega)
   rw[ay (by omega),e1,q80 (by omega) (by omega),hr,qB,e2,show((u%10:Nat):Int)+1=((u%10+1:Nat):Int) by omega,q80 (by omega) (by omega),am (by simp;omega)]
   simp only[qY];simp only[zy0 (u%10) (Nat.mod_lt _ (by decide))]
   rw[am (by simp[bf];omega),zdq u h]
def z6t(fu:Nat)(hfu:100<=fu)(u:Nat)(hu:u<9223372036854775808):qw6 fu (u:Int)=some (decDigits u):=by
 unfold qw6 qxi;rw[ay (by omega),q80 (by omega) (by omega),z5u fu 19 fu u (by omega) (by omega) (by omega) hu];rfl
def z5x(fu n:Nat):∀(ab aa:Bs)(a:Nat),aa.length<n->ab.length+aa.length<100000000->ab.length<=9->a<10 ^ ab.length ->
  ql5 fu n (ab++aa) 1 9 (a:Int) (ab.length:Int)=some (if(∀c∈aa,48<=c.toNat/\c.toNat<=57)/\1<=ab.length+aa.length/\ab.length+aa.length<=9 then(qcr a aa:Int) else -1):=by
 induction n with
 |zero=>intro ab aa a h;omega|succ n ih=>
  intro ab aa a h hb hp ha;have hpow:10 ^ ab.length<=10 ^ 9:=Nat.pow_le_pow_right (by omega) hp
  rw[ql5,qxk]
  cases aa with
  |nil=>
   rw[ay (by simp),qb8,qB]
   simp only[List.append_nil,qZ,Nat.add_zero,List.not_mem_nil,false_implies,implies_true,true_and];by_cases h1:1<=ab.length/\ab.length<=9
   ·rw[decide_eq_true (by omega),dm,qX h1];rfl
   ·rw[decide_eq_false (by omega),fc,qW h1]
  |cons c t=>
   simp only[qL]at h hb;rw[am (by rw[ja];omega),cz,qB,qb8,qB]
   by_cases hc:48<=c.toNat/\c.toNat<=57
   ·rw[decide_eq_true (by omega),dm,ql6]
    by_cases h9:9<=ab.length
    ·rw[am (by omega),qW (by simp only[qL];omega)]
    ·rw[ay (by omega),qxl,cz,qB,bj _ (by omega)]
     have hsub:(c-48).toNat=c.toNat-48:=by
      rw[UInt8.toNat_sub_of_le _ _ (by rw[UInt8.le_iff_toNat_le];show 48<=_;omega)];rfl
     rw[hsub,show(10:Int)*(a:Int)=((10*a:Nat):Int) by omega,ee (x:=((10*a:Nat):Int)) (by omega) (by omega),qj6 _ _ (by omega)]
     have:=ih (ab++[c]) t (10*a+(c.toNat-48)) (by omega) (by simp;omega) (by simp;omega) (by simp only[qM,qL,qZ,wO,Nat.pow_succ];omega)
     simp only[qM,qL,qZ,qS,wM,wO]at this;refine this.trans ?_;congr 1;by_cases hq:(∀x∈t,48<=x.toNat/\x.toNat<=57)/\1<=ab.length+1+t.length/\ab.length+1+t.length<=9
     ·rw[qX hq,qX ⟨fun x hx=>(List.mem_cons.1 hx).elim (fun e=>e▸hc) (hq.1 x),by simp only[qL];omega,by simp only[qL];omega⟩];rfl
     ·rw[qW hq,qW (fun g=>hq ⟨fun x hx=>g.1 x (qE _ hx),by have:=g.2;simp only[qL]at this;omega,by have:=g.2;simp only[qL]at this;omega⟩)]
   ·rw[decide_eq_false (by omega),fc,ql6,bh rfl,qW (fun g=>hc (g.1 c qH))]
def z5w(fu:Nat)(s:Bs)(h:s.length<fu)(hb:s.length<100000000):qxj fu s 1 9=some (if(∀c∈s,48<=c.toNat/\c.toNat<=57)/\1<=s.length/\s.length<=9 then(qcr 0 s:Int) else -1):=by
 have:=z5x fu fu [] s 0 h (by simpa using hb) (by simp) (by simp)
 simpa [qxj] using this
def z5z:∀(s:Bs)(a k:Nat),(∀c∈s,48<=c.toNat/\c.toNat<=57)->a<10 ^ k->qcr a s<10 ^ (k+s.length):=by
 intro s
 induction s with
 |nil=>intro a k _ h;exact h|cons c s ih=>
  intro a k hd h;have hc:=hd c qH;have:=ih (10*a+(c.toNat-48)) (k+1) (fun x hx=>hd x (qE _ hx)) (by rw[Nat.pow_succ];omega)
  rw[qL,show k+(s.length+1)=k+1+s.length by omega];exact this
def qes(s:Bs):Option Int:=if(kh s 1099511627776).2=true/\(kh s 1099511627776).1<1000000000 then some (kh s 1099511627776).1 else none
def z6r(fu:Nat)(hfu:1000<=fu)(s:Bs)(h:s.length<fu)(hb:s.length<100000000):∃x:Int,qxj fu s 1 9=some x /\
  ((qes s=some x/\0<=x/\qw6 fu x=some s)\/(qes s=none/\(x<0\/(0<=x/\∃t,qw6 fu x=some t/\t≠s)))):=by
 refine⟨_,z5w fu s h hb,?_⟩;by_cases hq:(∀c∈s,48<=c.toNat/\c.toNat<=57)/\1<=s.length/\s.length<=9
 ·rw[qX hq];have hlt:qcr 0 s<1000000000:=by
   have h1:=z5z s 0 0 hq.1 (by simp)
   have h2:10 ^ (0+s.length)<=10 ^ 9:=Nat.pow_le_pow_right (by omega) (by omega)
   omega
  have hN:=z6t fu (by omega) (qcr 0 s) (by omega)
  by_cases he:decDigits (qcr 0 s)=s
  ·refine .inl ⟨?_,by omega,by rw[hN,he]⟩
   have:=z6s (qcr 0 s) 1099511627776 (by omega) (by decide)
   rw[he]at this;unfold qes;rw[this,qX ⟨rfl,by simp only;omega⟩]
  ·refine .inr ⟨?_,.inr ⟨by omega,_,hN,he⟩⟩
   unfold qes;rw[qW];rintro⟨g1,_⟩
   obtain⟨u,rfl,_,_⟩:=zgn g1;exact he (by rw[z5y])
 ·rw[qW hq];refine .inr ⟨?_,.inl (by omega)⟩
  unfold qes;rw[qW];rintro⟨g1,g2⟩
  obtain⟨u,rfl,_,g3⟩:=zgn g1;rw[g3]at g2;simp only at g2;refine hq ⟨zyu u,?_,q1s 9 u (by omega) (by omega)⟩
  have:=zyx u
  cases hd:decDigits u with|nil=>exact absurd hd this|cons=>simp
end Go.Sym
namespace Go.Sym
def hv(c:UInt8):Option UInt8:=if 48<=c/\c<=57 then some (c-48) else if 65<=c/\c<=70 then some (c-65+10) else if 97<=c/\c<=102 then some (c-97+10) else none
def hx(a b:UInt8):Option UInt8:=(hv a).bind fun x=>(hv b).map fun y=>16*x+y
def qqs:∀n:_root_.Fin 256,pd (UInt8.ofNat n.val)=some ((hv (UInt8.ofNat n.val)).getD 0,(hv (UInt8.ofNat n.val)).isSome):=by decide +kernel
def qqt(c:UInt8):pd c=some ((hv c).getD 0,(hv c).isSome):=lf (fun c=>pd c=some ((hv c).getD 0,(hv c).isSome)) qqs c
def hvI(c:UInt8):Int:=match hv c with|some x=>(x.toNat:Int)|none => -1
def qad:List UInt8:=[48,49,50,51,52,53,54,55,56,57,65,66,67,68,69,70]
def qco(c:UInt8):Nat->Nat->Int|0,_ => -1|m+1,k=>if qad.getD k 0=c then(k:Int) else if(qad.map lo).getD k 0=c then(k:Int) else qco c m (k+1)
def zf6:∀n:_root_.Fin 256,qco (UInt8.ofNat n.val) 16 0=hvI (UInt8.ofNat n.val):=by decide +kernel
def zvk(fu:Nat)(hfu:16<fu)(c:UInt8):∀(m k n:Nat),m+k=16->m<n->qk2 fu n c (k:Int)=some (qco c m k):=by
 intro m
 induction m with
 |zero=>
  intro k n hk hn;obtain⟨n,rfl⟩:∃j,n=j+1:=⟨n-1,by omega⟩
  rw[qk2,qwn,ay (by omega)];rfl
 |succ m ih=>
  intro k n hk hn;obtain⟨n,rfl⟩:∃j,n=j+1:=⟨n-1,by omega⟩
  have h1:k<qad.length:=by show k<16;omega
  have h2:k<(qad.map lo).length:=by show k<16;omega
  have i1:ap qad (k:Int)=some (qad.getD k 0):=by rw[qdg _ _ h1];exact congrArg some (List.getElem_eq_getD 0)
  have i2:ap (qad.map lo) (k:Int)=some ((qad.map lo).getD k 0):=by rw[qdg _ _ h2];exact congrArg some (List.getElem_eq_getD 0)
  rw[qk2,qwn,am (by omega)]
  rw[show([48,49,50,51,52,53,54,55,56,57,65,66,67,68,69,70]:List UInt8)=qad from rfl]
  rw[i1,qB,rl,qco];by_cases q:qad.getD k 0=c
  ·rw[qX q,qX q]
  ·rw[qW q,qW q,qdh fu qad (by show 16<fu;omega) (by decide),qB,i2,qB,rl]
   by_cases q2:(qad.map lo).getD k 0=c
   ·rw[qX q2,qX q2]
   ·rw[qW q2,qW q2,bj _ (by omega),ih (k+1) n (by omega) (by omega)]
def qkx(fu:Nat)(hfu:17<fu)(c:UInt8):qaj fu c=some (hvI c):=by
 have:=zvk fu (by omega) c 16 0 fu rfl (by omega)
 unfold qaj;rw[show(0:Int)=((0:Nat):Int) from rfl,this,lf (fun c=>qco c 16 0=hvI c) zf6 c]
def qry:∀n:_root_.Fin 256,(hv (UInt8.ofNat n.val)).all (fun x=>decide (x.toNat<16))=true:=by decide +kernel
def qdb(c x:UInt8)(h:hv c=some x):x.toNat<16:=by
 have:=lf (fun c=>(hv c).all (fun x=>decide (x.toNat<16))=true) qry c
 rw[h]at this;simpa using this
def qt0:∀x y:_root_.Fin 16,(jj (UInt8.ofNat x.val) (min (4:Int).toNat 8))|||UInt8.ofNat y.val=16*UInt8.ofNat x.val+UInt8.ofNat y.val/\du (af ((af ((16:Int)*((UInt8.ofNat x.val).toNat:Int)))+((UInt8.ofNat y.val).toNat:Int)))=16*UInt8.ofNat x.val+UInt8.ofNat y.val:=by decide +kernel
def qtz(x y:UInt8)(hx1:x.toNat<16)(hy1:y.toNat<16):(jj x (min (4:Int).toNat 8))|||y=16*x+y/\du (af ((af ((16:Int)*(x.toNat:Int)))+(y.toNat:Int)))=16*x+y:=by
 have:=qt0 ⟨x.toNat,hx1⟩ ⟨y.toNat,hy1⟩;simpa using this
def ki:Bs->Option UInt8|a::b::_=>hx a b|_=>none
def qst(r:Bs):∃v,pg r=some (v,(ki r).isSome)/\∀x,ki r=some x->v=x:=by
 match r with
 |[]=>exact⟨0,rfl,fun x h=>by cases h⟩
 |[_]=>exact⟨0,rfl,fun x h=>by cases h⟩
 |a::b::t=>
  have e:pg (a::b::t)=some ((jj ((hv a).getD 0) (min (4:Int).toNat 8))|||(hv b).getD 0,(hv a).isSome&&(hv b).isSome):=by
   unfold pg;rw[ay (by simp only[qL];omega),show ap (a::b::t) 0=some a from rfl,show ap (a::b::t) 1=some b from rfl]
   simp only[qB,qqt];cases (hv a).isSome<;>rfl
  rw[e,show ki (a::b::t)=hx a b from rfl]
  unfold hx
  cases ha:hv a with
  |none=>exact⟨_,rfl,fun x h=>by cases h⟩
  |some x=>
   cases hb:hv b with
   |none=>exact⟨_,rfl,fun x h=>by cases h⟩
   |some y=>exact⟨_,rfl,fun z h=>by cases h;exact(qtz x y (qdb a x ha) (qdb b y hb)).1⟩
def fg:Bs->Bs|[]=>[]|[c]=>[c]|[c,d]=>[c,d]|c::a::b::r=>if c=37 then(match hx a b with|some x=>x::fg r|none=>c::fg (a::b::r)) else c::fg (a::b::r)
def q4s(c:UInt8)(r:Bs)(h:c≠37):fg (c::r)=c::fg r:=by
 match r with|[]=>rfl|[_]=>rfl|_::_::_=>rw[fg,qW h]
def q4r(r:Bs):fg (37::r)=match ki r with|some x=>x::fg (r.drop 2)|none=>37::fg r:=by
 match r with
 |[]=>rfl|[_]=>rfl|a::b::t=>
  rw[fg,qX rfl];show _=match hx a b with|some x=>x::fg t|none=>37::fg (a::b::t)
  cases hx a b<;>rfl
def zg5:∀(n:Nat)(s:Bs),s.length<=n->(fg s).length<=s.length:=by
 intro n
 induction n with
 |zero=>intro s h;have:s=[]:=List.eq_nil_of_length_eq_zero (by omega);subst this;simp[fg]|succ n ih=>
  intro s h
  cases s with
  |nil=>simp[fg]|cons c r=>
   simp only[qL]at h;have h1:=ih r (by omega)
   by_cases hc:c=37
   ·subst hc;rw[q4r]
    cases hp:ki r with
    |none=>simp only[qL];omega|some x=>
     have h2:=ih (r.drop 2) (by simp;omega)
     simp only[qL,List.length_drop]at h2 ⊢;omega
   ·rw[q4s c r hc];simp only[qL];omega
def zj0(fu n:Nat):∀(ab aa out:Bs),aa.length<n->ab.length+aa.length<100000000->out.length+aa.length<100000000 ->
  qbd fu n (ab++aa) (ab.length:Int) out=some (out++fg aa):=by
 have hrm:=qi
 induction n using Nat.strongRecOn with
 |ind n ih=>
  intro ab aa out h hb ho;obtain⟨n,rfl⟩:∃m,n=m+1:=⟨n-1,by omega⟩
  rw[qbd,qnn]
  cases aa with
  |nil=>rw[ay (by simp)];simp[fg]|cons c t=>
   simp only[qL]at h hb ho;have one:=ih n (by omega) (ab++[c]) t (out++[c]) (by omega) (by simp;omega) (by simp;omega)
   simp only[qM,qL,qZ,qS,wM,wO]at one;rw[am (by rw[ja];omega),cz,qB,rl,bj _ (by omega)]
   by_cases hc:c=37
   ·rw[qX hc,am (by rw[ja];omega),qcz]
    obtain⟨v,h1,h2⟩:=qst t;rw[h1,qB];subst hc;rw[q4r]
    cases hp:ki t with
    |none=>
     rw[Option.isSome_none,bi rfl,qB,am (by simp;omega)]
     exact one
    |some x=>
     obtain⟨a,b,r,rfl⟩:∃a b r,t=a::b::r:=by
      match t,hp with|a::b::r,_=>exact⟨a,b,r,rfl⟩
     simp only[qL]at h hb ho;rw[Option.isSome_some,bh rfl,h2 x hp,am (by simp;omega),show(ab.length:Int)+2=((ab.length+2:Nat):Int) by omega,ee (x:=((ab.length+2:Nat):Int)) (by omega) (by omega),bj _ (by omega)]
     have two:=ih n (by omega) (ab++[37,a,b]) r (out++[x]) (by omega) (by simp;omega) (by simp;omega)
     simp only[qM,qL,qZ,qS,wK,List.nil_append,wO]at two;exact two
   ·rw[qW hc,qB,am (by simp;omega),q4s c t hc]
    exact one
def qtk(k:Int)(v:Bs):Bs:=if k=0/\6<=v.length/\lk (v.take 6) [117,116,102,56,39,39]=true then v.drop 6 else v
def vv(p:Pc):Bs:=if p.2.2.1=true then fg (qtk p.2.1 p.2.2.2) else p.2.2.2
def qjx(fu:Nat)(hfu:90000000<=fu)(s:Bs)(h:s.length<=4000000):wz fu s=some (fg s):=by
 unfold wz;have:=zj0 fu fu [] s [] (by omega) (by simp;omega) (by simp;omega)
 simpa using this
def zjz(fu:Nat)(hfu:90000000<=fu)(p:Pc)(h:p.2.2.2.length<=4000000):qfw fu p=some (vv p):=by
 unfold qfw vv qtk;cases hs:p.2.2.1
 ·rfl
 rw[dm,qX rfl,g7];by_cases h0:p.2.1=0
 ·rw[qX h0];by_cases h6:6<=p.2.2.2.length
  ·rw[am (by omega),am (by omega),ig fu hfu _ _ (by show(List.take 6 _).length<=_;rw[List.length_take];omega) (by simp),qB]
   show qt fu p.2.2.2 (lk (p.2.2.2.take 6) _)=_;rw[qt];cases hl:lk (p.2.2.2.take 6) [117,116,102,56,39,39]
   ·rw[bi rfl,qjx fu hfu _ h,qW (by simp)]
   ·rw[bh rfl,am (by omega)]
    show wz fu (p.2.2.2.drop 6)=_;rw[qjx fu hfu _ (by simp;omega),qX ⟨h0,h6,rfl⟩]
  ·rw[ay (by omega),qt,bi rfl,qjx fu hfu _ h,qW (by omega)]
 ·rw[qW h0,qt,bi rfl,qjx fu hfu _ h,qW (by omega)]
def q6s(p:Pc):(vv p).length<=p.2.2.2.length:=by
 unfold vv;split
 ·refine Nat.le_trans (zg5 _ _ (wF _)) ?_;unfold qtk;split
  ·simp
  ·exact wF _
 ·exact wF _
def zi2(ab:Bs)(c:UInt8)(t:Bs):List.take (((ab.length+1:Nat):Int).toNat-((ab.length:Nat):Int).toNat) (List.drop ((ab.length:Nat):Int).toNat (ab++c::t))=[c]:=by
 rw[od,show((ab.length+1:Nat):Int).toNat-((ab.length:Nat):Int).toNat=1 by omega];rfl
def z8d(fu n:Nat)(hfu:100<=fu):∀(ab aa out:Bs),aa.length<n->ab.length+aa.length<100000000->out.length+aa.length<100000000 ->
  qmc fu n (ab++aa) out (ab.length:Int)=some (out++fg aa):=by
 induction n using Nat.strongRecOn with
 |ind n ih=>
  intro ab aa out h hb ho;obtain⟨n,rfl⟩:∃m,n=m+1:=⟨n-1,by omega⟩
  rw[qmc,qxs]
  cases aa with
  |nil=>rw[ay (by simp)];simp[fg]|cons c t=>
   simp only[qL]at h hb ho;have one:=ih n (by omega) (ab++[c]) t (out++[c]) (by omega) (by simp;omega) (by simp;omega)
   simp only[qM,qL,qZ,qS,wM,wO]at one;have hno:qan fu (qmc fu n) (ab++c::t) out (ab.length:Int) false=some (out++c::fg t):=by
    rw[qan,bi rfl,bj _ (by omega),am (by rw[ja];omega),zi2,am (by simp[bf];omega),one]
    try simp
   rw[am (by rw[ja];omega),cz,qB,rl,show(ab.length:Int)+2=((ab.length+2:Nat):Int) by omega,ee (x:=((ab.length+2:Nat):Int)) (by omega) (by omega),bj _ (by omega)]
   by_cases hc:c=37
   ·subst hc;rw[qX rfl,q4r]
    match t with
    |[]=>rw[ay (by rw[ja];simp only[qZ];omega),hno];rfl|[x]=>rw[ay (by rw[ja];simp only[qL,qZ];omega),hno];rfl|a::b::r=>
     simp only[qL]at h hb ho;have i1:ap (ab++37::a::b::r) ((ab.length+1:Nat):Int)=some a:=by have:=cz (ab++[37]) a (b::r);simpa using this
     have i2:ap (ab++37::a::b::r) ((ab.length+2:Nat):Int)=some b:=by have:=cz (ab++[37,a]) b r;simpa using this
     rw[am (by rw[ja];simp only[qL];omega),i1,qB,qkx fu (by omega),qB]
     show _=some (out++match hx a b with|some x=>x::fg r|none=>37::fg (a::b::r))
     unfold hx
     cases ha:hv a with
     |none=>
      have:hvI a = -1:=by unfold hvI;rw[ha]
      rw[this,ay (by omega),hno];rfl
     |some x=>
      have hI:hvI a=(x.toNat:Int):=by unfold hvI;rw[ha]
      rw[hI,am (by omega),i2,qB,qkx fu (by omega),qB]
      cases hb':hv b with
      |none=>
       have:hvI b = -1:=by unfold hvI;rw[hb']
       rw[this,decide_eq_false (by omega),hno];rfl
      |some y=>
       have hJ:hvI b=(y.toNat:Int):=by unfold hvI;rw[hb']
       rw[hJ,decide_eq_true (by omega),qan,bh rfl,bj _ (by omega),i1,qB,qkx fu (by omega),qB,show(ab.length:Int)+2=((ab.length+2:Nat):Int) by omega,ee (x:=((ab.length+2:Nat):Int)) (by omega) (by omega),i2,qB,qkx fu (by omega),qB,hI,hJ,(qtz x y (qdb a x ha) (qdb b y hb')).2,am (by simp[bf];omega),bj _ (by omega)]
       have two:=ih n (by omega) (ab++[37,a,b]) r (out++[16*x+y]) (by omega) (by simp;omega) (by simp;omega)
       simp only[qM,qL,qZ,qS,wK,List.nil_append,wO]at two;exact two
   ·rw[qW hc,hno,q4s c t hc]
def z8c(fu:Nat)(hfu:90000000<=fu)(s:Bs)(h:s.length<=4000000):qxr fu s=some (fg s):=by
 have:=z8d fu fu (by omega) [] s [] (by omega) (by simp;omega) (by simp;omega)
 simpa [qxr] using this
def mj(k:UInt8):Bs->Option (Bs×Bs)|[]=>none|c::t=>if c=k then some ([],t) else(mj k t).map fun x=>(c::x.1,x.2)
def q1i(k:UInt8)(t r:Bs)(h:∀x∈t,x≠k):mj k (t++k::r)=some (t,r):=by
 induction t with
 |nil=>rw[List.nil_append,mj,qX rfl]|cons c t ih=>
  rw[wK,mj,qW (h c qH),ih (fun x hx=>h x (qE _ hx))];rfl
def q1k(k:UInt8)(t:Bs)(h:∀x∈t,x≠k):mj k t=none:=by
 induction t with|nil=>rfl|cons c t ih=>rw[mj,qW (h c qH),ih (fun x hx=>h x (qE _ hx))];rfl
def zi1(s:Bs)(k:UInt8):qfr s [k]=some (Lib.indexByte s k):=by
 unfold qfr;rw[bi (by rfl)]
 unfold qfs;by_cases h:[k]=s
 ·subst h;rw[bh (by simp)];show some 0=some (Lib.indexByte ([]++[k]) k);rw[qdc k [] [] (by simp)];rfl
 ·rw[bi (by simpa using h),bh (by rfl),show ap [k] 0=some k from rfl];rfl
def zdl(s:Bs)(k:UInt8)(h:s.length<=4000000):qgj s [k]=some (match mj k s with|some x=>(x.1,(x.2,true))|none=>(s,([],false))):=by
 unfold qgj qm8;rw[zi1,qB];rcases qjv k s with⟨t,r,rfl,ht⟩|hn
 ·rw[qM,qL]at h;rw[qdc k t r ht,q1i k t r ht,am (by omega),am (by rw[ja];omega),show(([k]:Bs).length:Int)=1 from rfl,bj _ (by omega),am (by rw[ja];omega),qcz,qef];rfl
 ·rw[qdd k s hn,q1k k s hn,ay (by omega)];rfl
def pz(s:Bs):Bs×Bool:=if s.getLast? = some 42 then(s.dropLast,true) else(s,false)
def zdk(t:Bs)(hb:t.length<=4000000):qgk t [42]=some (pz t):=by
 unfold qgk qm9 qa2 pz;rw[show(([42]:List UInt8).length:Int)=1 from rfl]
 rcases List.eq_nil_or_concat t with rfl|⟨u,c,rfl⟩
 ·rfl
 ·rw[List.concat_eq_append]at *;simp only[qM,qL,qZ]at hb;rw[mt,ng _ (by omega),am (by omega),am (by omega),qB,List.getLast?_concat,List.dropLast_concat]
  have e:List.drop ((u.length:Nat):Int).toNat (u++[c])=[c]:=od u [c];rw[e,vt];by_cases hc:c=42
  ·subst hc;rw[qX rfl,show([(42:UInt8)]==[42])=true from rfl,dm,am (by omega)];rfl
  ·rw[qW (by simpa using hc),show([c]==[(42:UInt8)])=false by simpa using hc];rfl
def ic(nm v:Bs):Option Pc:=match mj 42 nm with|none=>if nm=[] then none else some (nm,-1,false,v)|some x=>if x.1≠[]/\(kh (pz x.2).1 1099511627776).2=true then some (x.1,(kh (pz x.2).1 1099511627776).1,(pz x.2).2,v) else none
def qae(nm v:Bs):Option Pc:=match ic nm v with|some p=>if p.2.1<1000000000 then some p else none|none=>none
def q1j{k:UInt8}{s:Bs}{x:Bs×Bs}(h:mj k s=some x):x.1.length+x.2.length<s.length:=by
 rcases qjv k s with⟨t,r,rfl,ht⟩|hn
 ·rw[q1i k t r ht]at h;cases h;simp only[qM,qL];omega
 ·rw[q1k k s hn]at h;cases h
def zd6(s:Bs):(pz s).1.length<=s.length:=by unfold pz;split<;>simp
def q4t{nm v:Bs}{p:Pc}(h:ic nm v=some p):p.1.length<=nm.length/\p.2.2.2=v /\ -1<=p.2.1/\p.2.1<=1099511627776/\p.1≠[]:=by
 unfold ic at h
 cases hc:mj 42 nm with
 |none=>
  rw[hc]at h;simp only at h;by_cases hn:nm=[]
  ·rw[qX hn]at h;cases h
  ·rw[qW hn]at h;cases h;exact⟨wF _,rfl,by simp only;omega,by simp only;omega,hn⟩
 |some x=>
  rw[hc]at h;simp only at h;by_cases hn:x.1≠[]/\(kh (pz x.2).1 1099511627776).2=true
  ·rw[qX hn]at h;obtain⟨u,_,h1,h2⟩:=zgn hn.2;have hl:=q1j hc;cases h
   rw[h2];exact⟨by simp only;omega,rfl,by simp only;omega,by simp only;omega,hn.1⟩
  ·rw[qW hn]at h;cases h
def zgp(s:Bs)(h:s.length<=4000000):tn s 1099511627776=some (kh s 1099511627776):=by unfold tn;rw[am (by omega)]
def zgd(fu:Nat)(hfu:90000000<=fu)(s:Bs)(h:s.length<=4000000):∃R,qfy fu s=some R/\match sg s with
  |none=>R.2.1=false|some x=>match ic x.1.1 x.1.2 with
   |none=>R.2.1=false|some p=>R=(p,(true,x.2)):=by
 have l1:=vq fk s;have l2:=zi 61 (c8 fk s).2;unfold qfy sg;rw[zjv fu hfu s h,qB,qi6 fu hfu 61 _ (by omega),qB]
 cases hs:(dp 61 (c8 fk s).2).1
 ·rw[fc,qW (by simp)];exact⟨_,rfl,rfl⟩
 rw[dm,qX rfl];obtain⟨r,hv⟩:=zko fu hfu (dp 61 (c8 fk s).2).2 (by omega)
 rw[hv,qB,zdl _ 42 (by omega),qB]
 generalize hx:v7 (dp 61 (c8 fk s).2).2=vs;generalize hn:(c8 fk s).1=nm at *
 cases hc:mj 42 nm with
 |none=>
  simp only[qF]
  cases vs with
  |none=>exact⟨_,rfl,rfl⟩|some x=>
   refine⟨_,rfl,?_⟩;simp only[wQ];unfold ic;rw[hc]
   cases nm with|nil=>rfl|cons c nm=>rfl
 |some y=>
  have l3:=q1j hc;have l4:=zd6 y.2;simp only[qT];rw[zdk _ (by omega),qB,zgp _ (by omega),qB]
  cases vs with
  |none=>exact⟨_,rfl,rfl⟩|some x=>
   simp only[qT,wQ];unfold ic;rw[hc];simp only;cases hq:(kh (pz y.2).1 1099511627776).2
   ·rw[qW (by simp)];exact⟨_,rfl,rfl⟩
   ·by_cases hy:y.1=[]
    ·rw[qW (by simp[hy])];refine⟨_,rfl,?_⟩;simp[hy]
    ·rw[qX ⟨hy,rfl⟩];refine⟨_,rfl,?_⟩;simp only;congr 2
     cases hy1:y.1 with|nil=>exact absurd hy1 hy|cons=>rfl
def ko(f:Bs->Bs->Option Pc):Nat->List Pc->Bs->Option (List Pc)
 |0,_,_=>none|n+1,acc,s=>match d6 s with
  |[]=>some acc| c::t=>if c=59 then(match sg t with
   |none=>none|some x=>match f x.1.1 x.1.2 with
    |none=>none| some p=>ko f n (acc++[p]) x.2) else none
def ci(l:List Pc):Nat:=(l.map fun p=>p.1.length+p.2.2.2.length+1).sum
def q6l(l:List Pc)(p:Pc):ci (l++[p])=ci l+(p.1.length+p.2.2.2.length+1):=by unfold ci;simp
def qec(l:List Pc):l.length<=ci l:=by
 unfold ci
 induction l with|nil=>simp|cons p l ih=>simp only[List.map_cons,List.sum_cons,qL];omega
def ux(R:qb9):Prop:=match R with | .inl x=>x.2.2=false | .inr x=>x.2.2.1=false
def nb(p:Pc):Prop := -1<=p.2.1/\p.2.1<=1099511627776
def zhc(fu:Nat)(hfu:90000000<=fu)(Qp:List Pc->Bool×List cr)(hQ:∀l,ci l<=300000->(∀x∈l,nb x)->ww fu l=some (Qp l))(a b T S:Bs):∀(n:Nat)(s:Bs)(acc:List Pc),ci acc+s.length<=300000->s.length<n->(∀x∈acc,nb x) ->
  ∃R,qbc fu n a b s T S acc=some R/\match ko ic n acc s with
   |none=>ux R|some l=>if(Qp l).1=true then R = .inr (T,(S,(true,(Qp l).2))) else ux R:=by
 have hrm:=qi;intro n
 induction n with
 |zero=>intro s acc _ h;omega|succ n ih=>
  intro s acc hz h hnb;have hl:=y8 s;have hal:=qec acc;rw[qbc,qnl,qi6 fu hfu 59 s (by omega),qB,ko]
  unfold dp
  cases ht:d6 s with
  |nil=>
   simp only[qF];rw[ya fu hfu [] (by simp),qB,hQ acc (by omega) hnb,qB]
   cases hq:(Qp acc).1
   ·refine⟨_,rfl,?_⟩;rw[qW (by simp)];rfl
   ·refine⟨_,rfl,?_⟩;rw[qX rfl];rfl
  |cons c t=>
   rw[ht]at hl;simp only[qL]at hl;by_cases hc:c=59
   ·simp only[qX hc,qT];obtain⟨R,h1,h2⟩:=zgd fu hfu t (by omega)
    rw[h1,qB]
    cases hx:sg t with
    |none=>
     rw[hx]at h2;simp only at h2;rw[h2,fc];exact⟨_,rfl,rfl⟩
    |some x=>
     rw[hx]at h2;simp only at h2 ⊢;have hxl:=(qr7 (n:=x.1.1) (v:=x.1.2) (t:=x.2) hx).1
     cases hp:ic x.1.1 x.1.2 with
     |none=>
      rw[hp]at h2;simp only at h2;rw[h2,fc];exact⟨_,rfl,rfl⟩
     |some p=>
      rw[hp]at h2;simp only at h2 ⊢;obtain⟨g1,g2,g3,g4,_⟩:=q4t hp;subst h2;have hz2:ci (acc++[p])+x.2.length<=300000:=by rw[q6l,g2];omega
      rw[dm,am (by simp;omega)]
      exact ih x.2 (acc++[p]) hz2 (by omega) (fun y hy=>(List.mem_append.1 hy).elim (hnb y) (fun e=>by rw[List.mem_singleton.1 e];exact⟨g3,g4⟩))
   ·simp only[qW hc,qF];rw[ya fu hfu (c::t) (by simp only[qL];omega),qB,show d6 (c::t)=c::t by rw[← ht,zf1],hQ acc (by omega) hnb,qB]
    cases hq:(Qp acc).1
    ·exact⟨_,rfl,rfl⟩
    ·exact⟨_,rfl,rfl⟩
def sr(f:Bs->Bs->Option Pc)(s:Bs):Option (Bs×Bs×List Pc):=
 let a:=c8 tk s;let b:=dp 47 a.2;let c:=c8 tk b.2
 if a.1=[]\/b.1=false\/c.1=[] then none else(ko f (s.length+1) [] c.2).map fun l=>(a.1,c.1,l)
def q4y(f:Bs->Bs->Option Pc):∀(n:Nat)(acc:List Pc)(s:Bs),s.length<n->ko f n acc s=ko f (s.length+1) acc s:=by
 intro n
 induction n using Nat.strongRecOn with
 |ind n ih=>
  intro acc s h;obtain⟨n,rfl⟩:∃m,n=m+1:=⟨n-1,by omega⟩
  have hl:=y8 s;rw[ko,ko]
  cases ht:d6 s with
  |nil=>rfl|cons c t=>
   rw[ht]at hl;simp only[qL]at hl;simp only;by_cases hc:c=59
   ·rw[qX hc,qX hc]
    cases hx:sg t with
    |none=>rfl|some x=>
     have hxl:=(qr7 (n:=x.1.1) (v:=x.1.2) (t:=x.2) hx).1;simp only
     cases f x.1.1 x.1.2 with
     |none=>rfl|some p=>
      simp only;rw[ih n (by omega) _ _ (by omega)]
      by_cases he:s.length=n
      ·rw[he];exact(ih n (by omega) _ _ (by omega)).symm
      ·rw[ih s.length (by omega) _ _ (by omega)]
   ·rw[qW hc,qW hc]
def zgb(fu:Nat)(hfu:90000000<=fu)(Qp:List Pc->Bool×List cr)(hQ:∀l,ci l<=300000->(∀x∈l,nb x)->ww fu l=some (Qp l))(s:Bs)(h:s.length<=300000) :
  ∃R,qfv fu s=some R/\match sr ic s with
   |none=>ux R|some m=>if(Qp m.2.2).1=true then R = .inr (m.1,(m.2.1,(true,(Qp m.2.2).2))) else ux R:=by
 have l1:=vq tk s;have l2:=zi 47 (c8 tk s).2;have l3:=vq tk (dp 47 (c8 tk s).2).2;unfold qfv sr;rw[q6p fu hfu s (by omega),qB,qi6 fu hfu 47 _ (by omega),qB,q6p fu hfu _ (by omega),qB]
 simp only[];generalize ha:c8 tk s=A at *;generalize hb:dp 47 A.2=B at *;generalize hc:c8 tk B.2=C at *
 cases h1:A.1 with
 |nil=>rw[bh (by rfl),qr,bh rfl,qX (.inl rfl)];exact⟨_,rfl,rfl⟩|cons x1 y1=>
  rw[bi (by rfl)]
  cases h2:B.1 with
  |false=>rw[fc,qr,bh rfl,qX (.inr (.inl rfl))];exact⟨_,rfl,rfl⟩|true=>
   rw[dm]
   cases h3:C.1 with
   |nil=>rw[qr,bh (by rfl),qX (.inr (.inr rfl))];exact⟨_,rfl,rfl⟩|cons x3 y3=>
    rw[qr,bi (by rfl),qW (by simp),qnm]
    obtain⟨R,g1,g2⟩:=zhc fu hfu Qp hQ [] [] (x1::y1) (x3::y3) fu C.2 [] (by simp[ci];omega) (by omega) (by simp)
    refine⟨R,g1,?_⟩;rw[q4y _ fu _ _ (by omega)]at g2
    rw[q4y _ (s.length+1) _ _ (by omega)]
    cases hp:ko ic (C.2.length+1) [] C.2 with|none=>rw[hp]at g2;exact g2|some l=>rw[hp]at g2;exact g2
def z6d(c k:UInt8)(t:Bs):Lib.indexByte (c::t) k=if c=k then 0 else if Lib.indexByte t k<0 then -1 else Lib.indexByte t k+1:=by
 rw[Lib.indexByte];by_cases h:c=k
 ·rw[qX (by simpa using h),qX h]
 ·rw[qW (by simpa using h),qW h]
  rcases qjv k t with⟨a,r,rfl,ha⟩|hn
  ·rw[qdc k a r ha,qW (by simp),qW (by omega)]
  ·rw[qdd k t hn];rfl
def z58(fu n:Nat)(k:UInt8):∀(ab aa:Bs),aa.length<n->ab.length+aa.length<100000000 ->
  qk1 fu n (ab++aa) [k] (ab.length:Int)=some (if Lib.indexByte aa k<0 then -1 else(ab.length:Int)+Lib.indexByte aa k):=by
 induction n with
 |zero=>intro ab aa h;omega|succ n ih=>
  intro ab aa h hb;rw[qk1,qwm,show(([k]:Bs).length:Int)=1 from rfl]
  cases aa with
  |nil=>rw[bj _ (by simp only[qZ]at hb;omega),ay (by simp;omega)];rfl|cons c t=>
   simp only[qL]at h hb;rw[bj _ (by omega),am (by rw[ja];omega),am (by rw[ja];omega),od,z6d]
   have e:List.take (((ab.length+1:Nat):Int).toNat-((ab.length:Nat):Int).toNat) (c::t)=[c]:=by
    rw[show((ab.length+1:Nat):Int).toNat-((ab.length:Nat):Int).toNat=1 by omega];rfl
   rw[e];by_cases hc:c=k
   ·rw[bh (by simpa using hc),qX hc,qW (by omega)];simp
   ·rw[bi (by simpa using hc),qW hc]
    have:=ih (ab++[c]) t (by omega) (by simp;omega)
    simp only[qM,qL,qZ,qS,wM,wO]at this;rw[this];by_cases h0:Lib.indexByte t k<0
    ·rw[qX h0,qX h0,qX (by omega)]
    ·rw[qW h0,qW h0,qW (by omega)];congr 1;omega
def z57(fu:Nat)(hfu:90000000<=fu)(k:UInt8)(s:Bs)(h:s.length<=4000000):qwl fu s [k] 0=some (Lib.indexByte s k):=by
 have:=z58 fu fu k [] s (by omega) (by simp;omega)
 simp only[List.nil_append,qZ,Int.natCast_zero,Int.zero_add]at this;unfold qwl;refine this.trans ?_;rcases qjv k s with⟨a,r,rfl,ha⟩|hn
 ·rw[qdc k a r ha,qW (by omega)]
 ·rw[qdd k s hn];rfl
abbrev Pd:Type:=Bs×Bs×Int×Bool
def toD(p:Pc):Pd:=(p.1,p.2.2.2,p.2.1,p.2.2.1)
def z61(fu:Nat)(hfu:90000000<=fu)(b v s:Bs)(st:Bool)(z:Pd)(h:s.length<=4000000):∃R,ql8 fu s z (b,(v,((-1:Int),st)))=some R /\
  match(if b≠[] then qes s else none) with
  |some k=>R=((b,v,k,st),true)|none=>R.2=false:=by
 unfold ql8;obtain⟨x,h1,h2⟩:=z6r fu (by omega) s (by omega) (by omega)
 rw[h1,qB]
 cases b with
 |nil=>exact⟨_,rfl,rfl⟩|cons c b=>
  rw[qX (by simp)]
  rw[bh (by rfl)]
  rcases h2 with⟨g1,g2,g3⟩|⟨g1,g2⟩
  ·rw[am g2,g3,qB,g1];exact⟨_,rfl,by simp⟩
  ·rw[g1];rcases g2 with g2|⟨g2,t,g3,g4⟩
   ·rw[ay (by omega)];exact⟨_,rfl,rfl⟩
   ·rw[am g2,g3,qB];exact⟨_,rfl,by simpa using g4⟩
def z62(fu:Nat)(hfu:90000000<=fu)(nm v:Bs)(h:nm.length<=4000000):∃R,qxm fu nm v=some R/\match qae nm v with
  |some p=>R=(toD p,true)|none=>R.2=false:=by
 unfold qxm;rw[z57 fu hfu 42 nm h,qB];rcases qjv 42 nm with⟨t,r,rfl,ht⟩|hn
 ·simp only[qM,qL]at h;rw[qdc 42 t r ht,ay (by omega),bj _ (by omega),am (by rw[ja];omega),am (by rw[ja];omega),qcz,qef]
  have key:∀(s:Bs)(st:Bool),pz r=(s,st)->(∃R,ql8 fu s ([],([],((0:Int),false))) (t,(v,((-1:Int),st)))=some R/\match qae (t++42::r) v with
    |some p=>R=(toD p,true)| none=>R.2=false):=by
   intro s st he;have hsl:=zd6 r;rw[he]at hsl;simp only at hsl;obtain⟨R,h1,h2⟩:=z61 fu hfu t v s st ([],([],((0:Int),false))) (by omega)
   refine⟨R,h1,?_⟩;unfold qae ic;rw[q1i 42 t r ht];simp only[he];by_cases hb:t=[]
   ·rw[qW (by simp[hb])]
    rw[qW (by simp[hb])]at h2
    exact h2
   ·rw[qX hb]at h2;unfold qes at h2;cases hq:(kh s 1099511627776).2
    ·rw[qW (by simp[hq])]at h2
     rw[qW (by simp)]
     exact h2
    ·rw[qX ⟨hb,rfl⟩];simp only;by_cases hlt:(kh s 1099511627776).1<1000000000
     ·rw[qX ⟨hq,hlt⟩]at h2;rw[qX hlt];exact h2
     ·rw[qW (by simp[hlt])]at h2;rw[qW hlt];exact h2
  rcases List.eq_nil_or_concat r with rfl|⟨u,c,rfl⟩
  ·rw[ay (by simp),ql7,bi rfl]
   exact key [] false rfl
  ·rw[List.concat_eq_append]at *;simp only[qM,qL,qZ]at h;rw[am (by simp only[qM,qL,qZ];omega),mt,ng _ (by omega),qdf,qB,ql7]
   by_cases hc:c=42
   ·subst hc;rw[bh (by rfl),mt,ng _ (by omega),am (by omega),vt]
    exact key u true (by unfold pz;simp)
   ·rw[bi (by simpa using hc)]
    exact key (u++[c]) false (by unfold pz;rw[qW (by simpa using hc)])
 ·rw[qdd 42 nm hn,am (by omega)]
  refine⟨_,rfl,?_⟩;unfold qae ic;rw[q1k 42 nm hn]
  cases nm with|nil=>rfl|cons c nm=>rfl
def bad:dj:=(([],([],[])),false)
def z7m(fu:Nat)(r2:(Bs->Int->Bs->Bs->Bs->Bs->(List (Bs×Bs×Int×Bool))->Option dj))(s nm a b T S:Bs)(acc:List Pd)(hb:s.length<=4000000):∀(n:Nat)(r out:Bs),r <:+ s->r.length+1<n->out.length+r.length<100000000 ->
  qlq fu r2 n s (pos s r) nm out a b T S acc=match qv out r with
   |some x=>qk8 fu r2 s (pos s x.2) nm x.1 a b T S acc|none=>some bad:=by
 intro n
 induction n using Nat.strongRecOn with
 |ind n ih=>
  intro r out hr h ho;obtain⟨n,rfl⟩:∃m,n=m+1:=⟨n-1,by omega⟩
  rw[qlq,qw1]
  cases r with
  |nil=>rw[qsz,ay (by omega),qk9,bi rfl,bh (by simp)];rfl|cons c t=>
   have ht:t <:+ s:=(List.suffix_cons _ _).trans hr;simp only[qL]at h ho;rw[am (zhh hr),qc7 hr,qB,qd0,qk9,q0n];by_cases h1:c=34
   ·rw[qW (by simp[h1]),qX h1,bi (by have:=zhh hr;simp;omega),qcy hr (by omega)]
   rw[qX h1,qW h1,qw3,qc7 hr,qB,rl,qcy hr (by omega)]
   have p18:∀(d:UInt8)(u:Bs),(d::u) <:+ s->qlf fu r2 (qlq fu r2 n) s (pos s (d::u)) nm out a b T S acc=qlq fu r2 n s (pos s u) nm (out++[d]) a b T S acc:=by
    intro d u hd;have hu:=hd.length_le;have g1:=q4u s (d::u);have g2:=q4u s u;have g3:=z1d (s:=s) (List.suffix_cons d u);rw[qlf,qcy hd (by omega),am (by omega),z1g hd (List.suffix_cons _ _),show(d::u).take ((d::u).length-u.length)=[d] by simp,am (by simp[bf];omega)]
   by_cases h2:c=92
   ·rw[qX h2,qX h2]
    cases t with
    |nil=>
     rw[qsz,qlc,ay (by omega),p18 c [] hr]
     obtain⟨n,rfl⟩:∃m,n=m+1:=⟨n-1,by simp only[qZ]at h;omega⟩
     rw[qlq,qw1,qsz,ay (by omega),qk9,bi rfl,bh (by simp)];rfl
    |cons d u=>
     simp only[qL]at h ho;rw[qlc,am (zhh ht),qcy hr (by omega),p18 d u ht]
     simp only;exact ih n (by omega) u (out++[d]) ((List.suffix_cons _ _).trans ht) (by omega) (by simp;omega)
   ·rw[qW h2,qW h2,qlc,bi rfl,p18 c t hr];exact ih n (by omega) t (out++[c]) ht (by omega) (by simp;omega)
def z73(c:UInt8):(tk c||([42]:Bs).contains c)=fk c:=by unfold fk;rw[show([42]:Bs).contains c=(c==42) by rw[Bool.eq_iff_iff];simp]
def z31(c:UInt8):(tk c||([37,39,42]:Bs).contains c)=vx c:=by unfold vx;rw[show([37,39,42]:Bs).contains c=(c==37||(c==39||c==42)) by rw[Bool.eq_iff_iff];simp]
def z34(c:UInt8):(tk c||([]:Bs).contains c)=tk c:=by simp
def qqk(p:UInt8->Bool){s r:Bs}(hr:r <:+ s):(0<=pos s r/\pos s r<=pos s (r.dropWhile p)/\pos s (r.dropWhile p)<=(s.length:Int))/\List.take ((pos s (r.dropWhile p)).toNat-(pos s r).toNat) (List.drop (pos s r).toNat s)=r.takeWhile p:=by
 refine⟨⟨(q4u s r).1,z1d (List.dropWhile_suffix p),(q4u s _).2⟩,?_⟩;rw[z1g hr (List.dropWhile_suffix p),z71]
def z6w(fu:Nat)(hfu:90000000<=fu)(r2:(Bs->Int->Bs->Bs->Bs->Bs->(List (Bs×Bs×Int×Bool))->Option dj))(s nm v a b T S:Bs)(acc:List Pc)(hb:s.length<=4000000)(hn:nm.length<=4000000)(ha:acc.length<=4000000)(r:Bs)(hr:r <:+ s) :
  qk8 fu r2 s (pos s r) nm v a b T S (acc.map toD)=match qae nm v with
   |some p=>r2 s (pos s (d6 r)) a b T S ((acc++[p]).map toD)|none=>some bad:=by
 have hrm:=qi;obtain⟨R,h1,h2⟩:=z62 fu hfu nm v hn;rw[qk8,h1,qB]
 cases hp:qae nm v with
 |none=>rw[hp]at h2;simp only at h2;rw[h2,fc];rfl|some p=>
  rw[hp]at h2;simp only at h2 ⊢;subst h2;rw[dm,am (by simp;omega),qdn fu hfu hb hr,qB,List.map_append];rfl
def z7c(fu:Nat)(hfu:90000000<=fu)(s a b T S:Bs)(hb:s.length<=4000000):∀(n:Nat)(r:Bs)(acc:List Pc),r <:+ s->d6 r=r->r.length<n->acc.length+r.length<=4000000 ->
  qlh fu n s (pos s r) a b T S (acc.map toD)=match ko qae n acc r with
   |none=>some bad|some l=>qlm fu fu 0 a b T S (l.map toD) []:=by
 intro n
 induction n with
 |zero=>intro r acc _ _ h;omega|succ n ih=>
  intro r acc hr hlt h hacc;rw[qlh,qwx,ko,hlt]
  cases r with
  |nil=>rw[qsz,ay (by omega)]|cons c t=>
   have ht:t <:+ s:=(List.suffix_cons _ _).trans hr;simp only[qL]at h hacc;rw[am (zhh hr),qc7 hr,qB,q0n];simp only;by_cases hc:c=59
   ·rw[qW (by simp[hc]),qX hc,qcy hr (by omega),qdn fu hfu hb ht,qB]
    have h1:d6 t <:+ s:=(q3n t).trans ht;rw[qpw fu hfu [42] (by simp) hb h1 fk z73,qB]
    obtain⟨ok1,ok2⟩:=qqk fk h1;have h2:(d6 t).dropWhile fk <:+ s:=(List.dropWhile_suffix fk).trans h1;have hnl:((d6 t).takeWhile fk).length<=4000000:=by
     have:=(List.takeWhile_prefix (l:=d6 t) fk).length_le;have:=y8 t;omega
    rw[am ok1,qdn fu hfu hb h2,qB,ok2];unfold sg c8 dp;simp only;have h3:d6 ((d6 t).dropWhile fk) <:+ s:=(q3n _).trans h2;have hl3:(d6 ((d6 t).dropWhile fk)).length<=t.length:=by
     have g1:=y8 ((d6 t).dropWhile fk);have g2:=(List.dropWhile_suffix (l:=d6 t) fk).length_le;have g3:=y8 t;omega
    generalize d6 ((d6 t).dropWhile fk)=u at *;generalize (d6 t).takeWhile fk=nm at *
    cases u with
    |nil=>rw[qsz,bh (by simp),qll,bh rfl];simp;rfl|cons d u=>
     have h4:u <:+ s:=(List.suffix_cons _ _).trans h3;simp only[qL]at hl3;rw[bi (by have:=zhh h3;simp;omega),qc7 h3,qB,qll,q0n]
     by_cases hd:d=61
     ·rw[qW (by simp[hd])]
      simp only[qX hd,if_true];rw[qw5,qcy h3 (by omega),qdn fu hfu hb h4,qB]
      have h5:d6 u <:+ s:=(q3n u).trans h4;have hl5:=y8 u;have fin:∀(v w:Bs),w <:+ s->w.length<=u.length->qk8 fu (qlh fu n) s (pos s w) nm v a b T S (acc.map toD)=match(match qae nm v with
        |none=>none| some p=>ko qae n (acc++[p]) w) with
        |none=>some bad|some l=>qlm fu fu 0 a b T S (l.map toD) []:=by
       intro v w hw hwl;rw[z6w fu hfu _ s nm v a b T S acc hb hnl (by omega) w hw]
       cases qae nm v with
       |none=>rfl|some p=>
        simp only;have g1:=y8 w;rw[ih (d6 w) (acc++[p]) ((q3n w).trans hw) (zf1 w) (by omega) (by simp;omega)]
        have e:ko qae n (acc++[p]) (d6 w)=ko qae n (acc++[p]) w:=by
         cases n with|zero=>rfl|succ n=>rw[ko,ko,zf1]
        rw[e]
      unfold v7 dp
      cases hu:d6 u with
      |nil=>
       rw[qsz,ay (by omega),qlo,bi rfl]
       have hnil:([]:Bs) <:+ s:=List.nil_suffix;have r1:=qpw fu hfu [37,39,42] (by simp) hb hnil vx z31
       obtain⟨q1,q2⟩:=qqk vx hnil;rw[qsz]at r1 q1 q2;rw[r1,qB,am q1,q2];simp only[wJ,if_false,wQ];exact fin [] [] hnil (by simp)
      |cons e w=>
       rw[hu]at h5 hl5;simp only[qL]at hl5;have h6:w <:+ s:=(List.suffix_cons _ _).trans h5;rw[am (zhh h5),qc7 h5,qB,qlo];by_cases he:e=34
       ·rw[bh (by simpa using he),qcy h5 (by omega)]
        simp only[qX he,if_true];rw[z7m fu _ s nm a b T S _ hb fu w [] h6 (by omega) (by simp;omega)]
        cases hq:qv [] w with
        |none=>rfl|some x=>
         have:=zh0 [] w x.1 x.2 hq;simp only[wQ];exact fin x.1 x.2 (this.2.trans h6) (by have:=this.2.length_le;omega)
       ·rw[bi (by simpa using he)]
        simp only[qW he,wJ,if_false,wQ];rw[qpw fu hfu [37,39,42] (by simp) hb h5 vx z31,qB]
        obtain⟨q1,q2⟩:=qqk vx h5;rw[am q1,q2];unfold c8;have hle:d6 (e::w)=e::w:=by rw[← hu,zf1]
        rw[hle];have hdl:=(List.dropWhile_suffix (l:=e::w) vx).length_le;simp only[qL]at hdl;exact fin _ _ ((List.dropWhile_suffix vx).trans h5) (by omega)
     ·rw[qX hd];simp only[qW hd,wJ,if_false];rfl
   ·rw[qX hc,qW hc];rfl
def z7n(fu:Nat)(hfu:90000000<=fu)(s:Bs)(h:s.length<=300000):qwu fu s=match sr qae s with
  |none=>some bad|some m=>qlm fu fu 0 [] [] m.1 m.2.1 (m.2.2.map toD) []:=by
 have hb:s.length<=4000000:=by omega
 have h0:s <:+ s:=List.suffix_refl s;have h1:d6 s <:+ s:=q3n s;unfold qwu sr;have sk:=qdn fu hfu hb h0;rw[zhf]at sk;rw[sk,qB,qpw fu hfu [] (by simp) hb h1 tk z34,qB]
 obtain⟨ok1,ok2⟩:=qqk tk h1;have h2:(d6 s).dropWhile tk <:+ s:=(List.dropWhile_suffix tk).trans h1;rw[am ok1,qdn fu hfu hb h2,qB,ok2];unfold c8 dp;simp only;have h3:d6 ((d6 s).dropWhile tk) <:+ s:=(q3n _).trans h2;generalize d6 ((d6 s).dropWhile tk)=u at *
 cases hT:(d6 s).takeWhile tk with
 |nil=>rw[bh (by rfl),qe2,bh rfl,qX (.inl rfl)];rfl|cons x y=>
  rw[bi (by rfl)]
  cases u with
  |nil=>rw[qsz,bh (by simp),qe2,bh rfl,qX (.inr (.inl rfl))];rfl|cons d u=>
   have h4:u <:+ s:=(List.suffix_cons _ _).trans h3;rw[bi (by have:=zhh h3;simp;omega),qc7 h3,qB,qe2,q0n]
   by_cases hd:d=47
   ·rw[qW (by simp[hd]),qw2,qcy h3 (by omega),qdn fu hfu hb h4,qB]
    simp only[qX hd];have h5:d6 u <:+ s:=(q3n u).trans h4;rw[qpw fu hfu [] (by simp) hb h5 tk z34,qB]
    obtain⟨q1,q2⟩:=qqk tk h5;rw[am q1,q2];have h6:(d6 u).dropWhile tk <:+ s:=(List.dropWhile_suffix tk).trans h5
    cases hS:(d6 u).takeWhile tk with
    |nil=>rw[bh (by rfl),qX (.inr (.inr rfl))];rfl|cons x3 y3=>
     rw[bi (by rfl),qW (by simp),qdn fu hfu hb h6,qB]
     have hl6:=h6.length_le;have hl7:=y8 ((d6 u).dropWhile tk);have:=z7c fu hfu s [] [] (x::y) (x3::y3) hb fu (d6 ((d6 u).dropWhile tk)) [] ((q3n _).trans h6) (zf1 _) (by omega) (by simp;omega)
     refine(this:_=_).trans ?_;rw[q4y _ fu _ _ (by omega),q4y _ (s.length+1) _ _ (by omega)]
     have e:ko qae ((d6 ((d6 u).dropWhile tk)).length+1) [] (d6 ((d6 u).dropWhile tk))=ko qae (((d6 u).dropWhile tk).length+1) [] ((d6 u).dropWhile tk):=by
      rw[← q4y _ (((d6 u).dropWhile tk).length+1) _ _ (by omega),ko,ko,zf1]
     rw[e];cases ko qae (((d6 u).dropWhile tk).length+1) [] ((d6 u).dropWhile tk)<;>rfl
   ·rw[qX hd];simp only[qW hd];rw[qX (.inr (.inl trivial))];rfl
open Go.Sort (SWO PermIn SortedIn pdq_sorts)
open Go.Proofs (ltOf)
def ltQ(x y:Pq):ltOf gg x y=decide (x.1.2.1<y.1.2.1):=by
 have:=x.2;have:=y.2;unfold ltOf gg;have h:af (x.1.2.1-y.1.2.1)=x.1.2.1-y.1.2.1:=by unfold af;simp[IntKind.wrap,IntKind.bits,IntKind.signed];omega
 rw[h];by_cases q:x.1.2.1<y.1.2.1<;>simp[q]<;>omega
def zjp:SWO (ltOf gg):=⟨fun x=>by rw[ltQ];simp,fun x y z h1 h2=>by rw[ltQ]at *;simp at *;omega,fun x y z h1 h2=>by rw[ltQ]at *;simp at *;omega⟩
def q6b(l:List Pq):(fj l).Perm l/\(fj l).Pairwise (fun x y=>x.1.2.1<=y.1.2.1):=by
 obtain⟨⟨h1,_,h2⟩,h3⟩:=pdq_sorts (ltOf gg) zjp l.toArray 0 l.length (Lib.bitLen l.length) true true (Nat.zero_le _) (by simp) (.inl rfl)
 have hsort:fj l=(Go.Sort.pdq (ltOf gg) l.toArray 0 l.length (Lib.bitLen l.length) true true).toList:=rfl;generalize Go.Sort.pdq (ltOf gg) l.toArray 0 l.length (Lib.bitLen l.length) true true=D at h1 h2 h3 hsort;have hs:D.size=l.length:=by rw[h1];simp
 rw[hsort];constructor
 ·have e:∀d:Array Pq,d.size=l.length->(d.extract 0 l.length).toList=d.toList:=fun d hd=>by rw[← hd];simp
  rw[e _ hs,e _ (by simp)]at h2
  simpa using h2
 ·rw[List.pairwise_iff_getElem];intro i j hi hj hij;rw[Array.length_toList]at hi hj;have:=h3 i j (Nat.zero_le _) hij (by omega)
  rw[ltQ,getElem!_pos D j hj,getElem!_pos D i hi]at this;have:=of_decide_eq_false this;simp only[Array.getElem_toList];omega
def q6u:∀l:List Pc,(∀p∈l,nb p)->∃q,nd l=some q/\q.map (·.1)=l
 |[],_=>⟨[],rfl,rfl⟩|p::l,h=>by
  obtain⟨q,h1,h2⟩:=q6u l (fun x hx=>h x (qE _ hx))
  have hp:=h p qH;unfold nb at hp;refine⟨⟨p,by omega⟩::q,?_,by simp[h2]⟩
  rw[nd,dif_pos (by omega),h1]
def kp(l:List Pc):List Pc:=match nd l with|some q=>(fj q).map (·.1)|none=>[]
def zi5(l:List Pc)(h:∀p∈l,nb p)(hl:l.length<=4000000):ub l=some (kp l)/\(kp l).Perm l/\(kp l).Pairwise (fun x y=>x.2.1<=y.2.1):=by
 have hrm:=qi;obtain⟨q,h1,h2⟩:=q6u l h;have h3:=q6b q;unfold ub kp;rw[h1,am (by omega)]
 refine⟨rfl,?_,?_⟩
 ·have:=h3.1.map (·.1);rw[h2]at this;exact this
 ·exact List.pairwise_map.2 h3.2
def lm:List Pc->Int->Bs->Option Bs|[],_,out=>some out|p::q,k,out=>if p.2.1=k then lm q (k+1) (out++vv p) else none
def qsq:List Pc->Int->Prop|[],_=>True|p::q,k=>p.2.1=k/\qsq q (k+1)
def q3j:∀(q:List Pc)(k:Int)(out:Bs),qsq q k->lm q k out=some (out++q.flatMap vv)|[],_,out,_=>by simp[lm]|p::q,k,out,h=>by rw[lm,qX h.1,q3j q _ _ h.2];simp
def q3i:∀(q:List Pc)(k:Int)(out v:Bs),lm q k out=some v->qsq q k
 |[],_,_,_,_=>trivial|p::q,k,out,v,h=>by
  rw[lm]at h;by_cases hp:p.2.1=k
  ·rw[qX hp]at h;exact⟨hp,q3i q _ _ _ h⟩
  ·rw[qW hp]at h;cases h
def z0d(q:List Pc)(k:Int)(out:Bs)(h:¬qsq q k):lm q k out=none:=by
 cases hl:lm q k out with|none=>rfl|some v=>exact absurd (q3i q k out v hl) h
def Cov(q:List Pc)(k:Int):Prop:=∀j:Nat,j<q.length->∃p∈q,p.2.1=k+j
def pig(m:Nat):∀(l:List Pc)(k:Int),(∀j:Nat,j<m->∃p∈l,p.2.1=k+j)->m<=l.length:=by
 induction m with
 |zero=>intro l k _;omega|succ m ih=>
  intro l k h;obtain⟨p,hp,hk⟩:=h m (by omega)
  obtain⟨a,b,rfl⟩:=List.append_of_mem hp;have:=ih (a++b) k (fun j hj=>by
   obtain⟨x,hx,hxk⟩:=h j (by omega)
   refine⟨x,?_,hxk⟩;rcases List.mem_append.1 hx with g|g
   ·exact List.mem_append_left _ g
   ·rcases List.mem_cons.1 g with g|g
    ·subst g;omega
    ·exact List.mem_append_right _ g)
  rw[qM]at this;rw[qM,qL];omega
def zyp:∀(q:List Pc)(k:Int),q.Pairwise (fun x y=>x.2.1<=y.2.1)->Cov q k->qsq q k
 |[],_,_,_=>trivial|p::r,k,hs,hc=>by
  rw[List.pairwise_cons]at hs;have ac:(p::r).length=r.length+1:=rfl;have h1:k<=p.2.1/\p.2.1<k+(r.length+1:Nat):=by
   by_cases g:k<=p.2.1/\p.2.1<k+(r.length+1:Nat)
   ·exact g
   ·exfalso;have:=pig (r.length+1) r k (fun j hj=>by
     obtain⟨x,hx,hxk⟩:=hc j (by omega)
     rcases List.mem_cons.1 hx with e|e
     ·subst e;exact absurd ⟨by omega,by omega⟩ g
     ·exact⟨x,e,hxk⟩)
    omega
  have h2:p.2.1=k:=by
   obtain⟨x,hx,hxk⟩:=hc 0 (by omega)
   rcases List.mem_cons.1 hx with e|e
   ·subst e;omega
   ·have:=hs.1 x e;omega
  refine⟨h2,zyp r (k+1) hs.2 fun j hj => ?_⟩
  obtain⟨x,hx,hxk⟩:=hc (j+1) (by omega)
  rcases List.mem_cons.1 hx with e|e
  ·subst e;omega
  ·exact⟨x,e,by omega⟩
def z0l:∀(q:List Pc)(k:Int),qsq q k->∀x∈q,k<=x.2.1
 |[],_,_,_,h=>by cases h
 |p::r,k,h,x,hx=>by
  rcases List.mem_cons.1 hx with e|e
  ·subst e;exact Int.le_of_eq h.1.symm
  ·have:=z0l r _ h.2 x e;omega
def Cov.perm{q q':List Pc}{k:Int}(h:Cov q k)(hp:q.Perm q'):Cov q' k:=fun j hj=>by
 obtain⟨x,hx,e⟩:=h j (by rw[hp.length_eq];exact hj)
 exact⟨x,hp.mem_iff.1 hx,e⟩
def qdl:List Pc->Option Bs|[]=>none|p::l=>if p.2.1<0 then(if l=[] then some p.2.2.2 else none) else(lm (kp (p::l)) 0 []).map fun v=>vu [239,191,189] v.length false v
def q3c(p:Pc)(l:List Pc):qdl (p::l)=if p.2.1<0 then(if l=[] then some p.2.2.2 else none) else(lm (kp (p::l)) 0 []).map fun v=>vu [239,191,189] v.length false v:=rfl
def qeb(p:Pc)(l:List Pc):ci (p::l)=(p.1.length+p.2.2.2.length+1)+ci l:=by unfold ci;simp
def q6n{l l':List Pc}(h:l.Perm l'):ci l=ci l':=by unfold ci;exact(h.map _).sum_nat
def qtp{l:List Pc}{p:Pc}(h:p∈l):p.1.length+p.2.2.2.length+1<=ci l:=by
 obtain⟨a,b,rfl⟩:=List.append_of_mem h;unfold ci;simp;omega
def zfm(fu n:Nat)(hfu:90000000<=fu)(z:Bs×Bs)(nm:Bs):∀(ab aa:List Pc)(out:Bs),aa.length<n->ab.length+aa.length<100000000->out.length+ci aa<=300000 ->
  ∃R,qa6 fu n ((ab.length+aa.length:Nat):Int) (ab.length:Int) z (nm,out) (ab++aa)=some R/\match lm aa (ab.length:Int) out with
   |some v=>R=((nm,vu [239,191,189] v.length false v),true)|none=>R.2=false:=by
 induction n with
 |zero=>intro ab aa out h;omega|succ n ih=>
  intro ab aa out h hb hz;rw[qa6,qng]
  cases aa with
  |nil=>
   rw[ay (by simp),zj5 out (by simp[ci]at hz;omega)]
   exact⟨_,rfl,rfl⟩
  |cons p t=>
   rw[qeb]at hz;simp only[qL]at h hb;have hl:0<=(ab.length:Int)/\(ab.length:Int).toNat<(ab++p::t).length:=by simp
   have htl:=q6s p;rw[am (by simp only[qL];omega),am hl,qc9,qB,mf,lm]
   by_cases hp:p.2.1=(ab.length:Int)
   ·rw[qW (by simpa using hp),qX hp,zjz fu hfu p (by omega),qB,am (by simp[bf];omega),bj _ (by omega)]
    have:=ih (ab++[p]) t (out++vv p) (by omega) (by simp;omega) (by rw[qM];omega)
    simp only[qM,qL,qZ,qS,wM,wO]at this;rw[show(ab.length+(p::t).length:Nat)=ab.length+1+t.length by simp only[qL];omega,show(ab.length:Int)+1=((ab.length+1:Nat):Int) by omega]
    exact this
   ·rw[qX hp,qW hp];exact⟨_,rfl,rfl⟩
def zfn(fu:Nat)(hfu:90000000<=fu)(p:Pc)(l:List Pc)(hz:ci (p::l)<=300000)(hn:∀x∈p::l,nb x):∃R,qa5 fu (p::l)=some R/\match qdl (p::l) with
  |some v=>R=((p.1,v),true)|none=>R.2=false:=by
 have hl:decide (0<=(0:Int)/\(0:Int).toNat<List.length (p::l))=true:=by simp
 have ac:=qec (p::l);unfold qa5;rw[q3c,bh hl,show(p::l)[(0:Int).toNat]? = some p from rfl,qB,bh hl,qB,bh hl,qB]
 by_cases h0:p.2.1<0
 ·rw[am h0,qX h0];refine⟨_,rfl,?_⟩
  cases l with|nil=>rfl|cons y l=>rw[qW (by simp)];simp;omega
 ·rw[ay h0,qW h0];obtain⟨h1,h2,h3⟩:=zi5 (p::l) hn (by omega)
  rw[h1,qB];obtain⟨R,g1,g2⟩:=zfm fu fu hfu ([],[]) p.1 [] (kp (p::l)) [] (by rw[h2.length_eq];omega) (by rw[h2.length_eq];simp only[qZ];omega) (by rw[q6n h2];simpa using hz)
  simp only[List.nil_append,qZ,wO]at g1 g2;refine⟨R,g1,?_⟩;rw[show((0:Nat):Int)=0 from rfl]at g2
  cases hq:lm (kp (p::l)) 0 [] with|none=>rw[hq]at g2;exact g2|some v=>rw[hq]at g2;exact g2
def kg(nm:Bs)(l:List Pc):List Pc:=l.filter fun x=>lk x.1 nm
def jc:List Pc->List Pc->List cr->Bool×List cr
 |_,[],out=>(true,out)|ab,p::aa,out=>if ab.any (fun x=>lk x.1 p.1)=true then jc (ab++[p]) aa out else match qdl (kg p.1 (ab++p::aa)) with|none=>(false,[])|some v=>jc (ab++[p]) aa (out++[(p.1,v)])
def zfl(fu n:Nat)(hfu:90000000<=fu)(p:Pc)(hp:p.1.length<=4000000):∀(ab aa:List Pc),aa.length<n->ab.length+aa.length<100000000->(∀x∈aa,x.1.length<=4000000) ->
  ∃i:Int,qbu fu n (ab++aa) ((ab.length+aa.length:Nat):Int) (ab.length:Int) p=some (i,p)/\decide (0<=i)=aa.any (fun x=>lk x.1 p.1):=by
 induction n with
 |zero=>intro ab aa h;omega|succ n ih=>
  intro ab aa h hb hs;rw[qbu,qoe]
  cases aa with
  |nil=>rw[ay (by simp)];exact⟨_,rfl,rfl⟩|cons d aa=>
   simp only[qL]at h hb;rw[am (by simp only[qL];omega),cz,qB,qa9,ig fu hfu _ _ (hs d qH) hp,qB,qB,bj _ (by omega)]
   obtain⟨i,h1,h2⟩:=ih (ab++[d]) aa (by omega) (by simp;omega) (fun x hx=>hs x (qE _ hx))
   simp only[qM,qL,qZ,qS,wM,wO]at h1;cases e:lk d.1 p.1
   ·simp only[qF,List.any_cons,e,Bool.false_or];rw[show(ab.length+(d::aa).length:Nat)=ab.length+1+aa.length by simp only[qL];omega]
    exact⟨i,h1,h2⟩
   ·simp only[qT,List.any_cons,e,Bool.true_or];exact⟨_,rfl,decide_eq_true (by omega)⟩
def zc5(fu:Nat)(hfu:90000000<=fu)(l:List Pc)(p:Pc)(hp:p.1.length<=4000000)(hl:l.length<=4000000)(hs:∀x∈l,x.1.length<=4000000):qgg fu l p=some (l.any (fun x=>lk x.1 p.1),p):=by
 obtain⟨i,h1,h2⟩:=zfl fu fu hfu p hp [] l (by omega) (by simp;omega) hs
 simp only[List.nil_append,qZ,wO]at h1;unfold qgg qod;rw[← h2];exact(congrArg (fun q=>Option.bind q fun x1=>some (decide ((0:Int)<=x1.1),x1.2)) h1).trans rfl
def qq5(r0:((List (Bs×Int×Bool×Bs))->(List (Bs×Int×Bool×Bs))->Int->Int->(List (Bs×Bs))->Option uj))(s0 s13:List Pc)(s14 s15:Int)(p:Pc)(out:List cr)(x3:(Bs×Bs)×Bool):Option uj:=bif !x3.2 then some (false,[]) else bif decide (List.length (out++([(p.1,x3.1.2)]:List cr))<=bg) then r0 s0 s13 s14 (af (s15+(1:Int))) (out++([(p.1,x3.1.2)]:List cr)) else none
def zg6(fu:Nat)(hfu:90000000<=fu)(r0:((List (Bs×Int×Bool×Bs))->(List (Bs×Int×Bool×Bs))->Int->Int->(List (Bs×Bs))->Option uj))(s0 s13:List Pc)(s14 s15:Int)(p:Pc)(hp:p.1.length<=4000000)(out:List cr)(n:Nat):∀(ab aa acc:List Pc),aa.length<n->ab.length+aa.length<100000000->acc.length<=ab.length->(∀x∈aa,x.1.length<=4000000) ->
  qba fu r0 n s0 s13 s14 s15 (ab++aa) ((ab.length+aa.length:Nat):Int) (ab.length:Int) p out acc =
   (qa5 fu (acc++kg p.1 aa)).bind (qq5 r0 s0 s13 s14 s15 p out):=by
 have hrm:=qi
 induction n with
 |zero=>intro ab aa acc h;omega|succ n ih=>
  intro ab aa acc h hb ha hs;rw[qba,qnk]
  cases aa with
  |nil=>rw[ay (by simp),show kg p.1 []=[] from rfl,List.append_nil];rfl|cons d aa=>
   simp only[qL]at h hb;rw[am (by simp only[qL];omega),cz,qB,qa9,ig fu hfu _ _ (hs d qH) hp,qB,qB]
   have h1:=fun acc'(ha':acc'.length<=ab.length+1)=>ih (ab++[d]) aa acc' (by omega) (by simp;omega) (by simpa using ha') (fun x hx=>hs x (qE _ hx))
   simp only[qM,qL,qZ,qS,wM,wO]at h1;rw[show kg p.1 (d::aa)=if lk d.1 p.1=true then d::kg p.1 aa else kg p.1 aa by unfold kg;rw[List.filter_cons]]
   cases e:lk d.1 p.1
   ·simp only[qF,wJ,if_false];rw[qbb,bj _ (by omega),show(ab.length+(d::aa).length:Nat)=ab.length+1+aa.length by simp only[qL];omega]
    exact h1 acc (by omega)
   ·simp only[qT,if_true];rw[am (by simp;omega),qbb,bj _ (by omega),show(ab.length+(d::aa).length:Nat)=ab.length+1+aa.length by simp only[qL];omega]
    refine(h1 (acc++[d]) (by simp;omega)).trans ?_
    rw[qS];rfl
def q6m(f:Pc->Bool)(l:List Pc):ci (l.filter f)<=ci l:=by
 induction l with
 |nil=>simp|cons p l ih=>
  rw[List.filter_cons];split
  ·rw[qeb,qeb];omega
  ·rw[qeb];omega
def zg0(fu:Nat)(hfu:90000000<=fu)(l:List Pc)(hz:ci l<=300000)(hn:∀x∈l,nb x)(n:Nat):∀(ab aa:List Pc)(out:List cr),l=ab++aa->aa.length<n->out.length<=ab.length ->
  wy fu n l (ab++aa) ((ab.length+aa.length:Nat):Int) (ab.length:Int) out=some (jc ab aa out):=by
 have hrm:=qi;have hll:=qec l;have hnm:∀x∈l,x.1.length<=4000000:=fun x hx=>by have:=qtp hx;omega
 induction n with
 |zero=>intro ab aa out _ h;omega|succ n ih=>
  intro ab aa out hl h ho;rw[wy,qnj]
  cases aa with
  |nil=>rw[ay (by simp)];rfl|cons p aa=>
   simp only[qL]at h;have ac:l.length=ab.length+aa.length+1:=by rw[hl];simp;omega
   have hp:=hnm p (by rw[hl];simp)
   rw[am (by simp only[qL];omega),cz,qB,am (by omega)]
   have e:List.take ((ab.length:Nat):Int).toNat l=ab:=by rw[hl];exact qef _ _
   rw[e,zc5 fu hfu ab p hp (by omega) (fun x hx=>hnm x (by rw[hl];simp[hx])),qB,jc]
   have step:=fun o(ho:List.length o<=ab.length+1)=>ih (ab++[p]) aa o (by rw[hl];simp) (by omega) (by simpa using ho)
   simp only[qM,qL,qZ,qS,wM,wO]at step;simp only;cases hany:ab.any (fun x=>lk x.1 p.1)
   ·rw[bi rfl,qW (by simp)]
    have h1:=zg6 fu hfu (wy fu n) l (ab++p::aa) ((ab.length+(p::aa).length:Nat):Int) (ab.length:Int) p hp out fu [] l [] (by omega) (by simp;omega) (by simp) hnm
    simp only[List.nil_append,qZ,wO]at h1;rw[show((0:Nat):Int)=0 from rfl]at h1
    rw[h1];have hmem:p∈kg p.1 l:=by unfold kg;rw[List.mem_filter];exact⟨by rw[hl];simp,zfx _⟩
    have hzz:=q6m (fun x=>lk x.1 p.1) l
    cases hN:kg p.1 l with
    |nil=>rw[hN]at hmem;cases hmem
    |cons y w=>
     obtain⟨R,g1,g2⟩:=zfn fu hfu y w (by rw[← hN];unfold kg;omega) (fun x hx=>hn x (by rw[← hN]at hx;exact(List.mem_filter.1 hx).1))
     rw[g1,qB];rw[← hl,hN]
     cases hj:qdl (y::w) with
     |none=>rw[hj]at g2;simp only at g2;rw[qq5,g2];rfl|some v=>
      rw[hj]at g2;simp only at g2;subst g2;rw[qq5,dm,am (by simp;omega),bj _ (by omega)]
      simp only;rw[show(ab.length+(p::aa).length:Nat)=ab.length+1+aa.length by simp only[qL];omega]
      have st:=step (out++[(p.1,v)]) (by simp;omega)
      rw[← hl]at st;exact st
   ·rw[bh rfl,qX rfl,bj _ (by omega),show(ab.length+(p::aa).length:Nat)=ab.length+1+aa.length by simp only[qL];omega]
    exact step out (by omega)
def zgz(fu:Nat)(hfu:90000000<=fu)(l:List Pc)(hz:ci l<=300000)(hn:∀x∈l,nb x):ww fu l=some (jc [] l []):=by
 have hll:=qec l;have:=zg0 fu hfu l hz hn fu [] l [] rfl (by omega) (by simp)
 simpa [ww] using this
end Go.Sym
namespace Go.Sym
def z04:∀(q:List Pc)(k:Int),qsq q k->∀x∈q,∀y∈q,x.2.1=y.2.1->x=y
 |[],_,_,x,hx,_,_,_=>by cases hx
 |p::r,k,h,x,hx,y,hy,e=>by
  have hg:=z0l r _ h.2;have h1:=h.1;rcases List.mem_cons.1 hx with ex|ex
  ·rcases List.mem_cons.1 hy with ey|ey
   ·rw[ex,ey]
   ·subst ex;have:=hg y ey;omega
  ·rcases List.mem_cons.1 hy with ey|ey
   ·subst ey;have:=hg x ex;omega
   ·exact z04 r _ h.2 x ex y ey e
def qah{l u w:List Pc}{x:Pc}(h:l=u++x::w):ap (l.map toD) (u.length:Int)=some (toD x):=by
 subst h;have:=cz (u.map toD) (toD x) (w.map toD);rw[wC]at this;rw[List.map_append,List.map_cons];exact this
section ref
variable(fu:Nat)(hfu:90000000<=fu)(l ab aa:List Pc)(p:Pc)(hl:l=ab++p::aa)(hz:ci l<=300000)(b0 b1 T S:Bs)(ps:List cr)(r4:(Int->Bs->Bs->Bs->Bs->(List (Bs×Bs×Int×Bool))->(List (Bs×Bs))->Option dj))
include hfu hl hz
def zv4:∀x∈l,x.1.length<=4000000:=fun x hx=>by have _:=hfu;have _:=hl;have:=qtp hx;omega
def rp6(n:Nat):∀(u w:List Pc)(seen:Bool),ab=u++w->w.length<n ->
  qln fu r4 n (ab.length:Int) seen (u.length:Int) b0 b1 T S (l.map toD) ps=qlp fu r4 fu (ab.length:Int) (seen||w.any (fun x=>lk p.1 x.1)) (0:Int) (0:Int) b0 b1 T S (l.map toD) ps:=by
 have hnm:=zv4 fu hfu l ab aa p hl hz;have hll:=qec l;have ac:l.length=ab.length+aa.length+1:=by rw[hl];simp;omega
 induction n with
 |zero=>intro u w seen _ h;omega|succ n ih=>
  intro u w seen hp h;rw[qln,qwz];have hpl:ab.length=u.length+w.length:=by rw[hp];simp
  cases w with
  |nil=>rw[ay (by simp only[qZ]at hpl;omega)];simp|cons x w=>
   simp only[qL]at h hpl;have st:=fun sn=>ih (u++[x]) w sn (by rw[hp];simp) (by omega)
   simp only[qM,qL,qZ,wO]at st;rw[am (by omega),List.any_cons]
   have hx:x∈l:=by rw[hl,hp];simp
   cases seen
   ·rw[bi rfl,zig,qah hl,qB,zig,qah (show l=u++x::(w++p::aa) by rw[hl,hp];simp),qB]
    show(qn fu p.1 x.1).bind _=_;rw[qez fu hfu _ _ (hnm p (by rw[hl];simp)) (hnm x hx),qB,qld,bj _ (by omega),st]
    simp
   ·rw[bh rfl,qld,bj _ (by omega),st]
    simp
def rp8(n:Nat):∀(u w:List Pc)(seen:Bool)(c:Nat),l=u++w->w.length<n->c<=u.length ->
  qlp fu r4 n (ab.length:Int) seen (c:Int) (u.length:Int) b0 b1 T S (l.map toD) ps=qlp fu r4 1 (ab.length:Int) seen ((c+(w.filter (fun x=>lk p.1 x.1)).length:Nat):Int) (l.length:Int) b0 b1 T S (l.map toD) ps:=by
 have hnm:=zv4 fu hfu l ab aa p hl hz;have hll:=qec l
 induction n with
 |zero=>intro u w seen c _ h;omega|succ n ih=>
  intro u w seen c hp h hc;have hpl:l.length=u.length+w.length:=by rw[hp];simp
  cases w with
  |nil=>
   rw[List.append_nil]at hp;subst hp;rw[qlp,qlp];simp only[List.filter_nil,qZ,Nat.add_zero];have hend:¬((l.length:Int)<(List.length (l.map toD):Int)):=by rw[wC];omega
   rw[qw0,qw0,ay hend,ay hend]
  |cons x w=>
   simp only[qL]at h hpl;rw[qlp,qw0];have st:=fun c'(hc':c'<=u.length+1)=>ih (u++[x]) w seen c' (by rw[hp];simp) (by omega) (by simpa using hc')
   simp only[qM,qL,qZ,wO]at st;have hx:x∈l:=by rw[hp];simp
   rw[am (by rw[wC];omega),zig,qah hl,qB,zig,qah hp,qB]
   show(qn fu p.1 x.1).bind _=_;rw[qez fu hfu _ _ (hnm p (by rw[hl];simp)) (hnm x hx),qB,List.filter_cons]
   cases hk:lk p.1 x.1
   ·rw[bi rfl,qla,bj _ (by omega),st c (by omega)];rfl
   ·rw[bh rfl,qla,bj _ (by omega),bj _ (by omega),st (c+1) (by omega)]
    simp only[if_true,qL];rw[show c+1+(w.filter (fun x=>lk p.1 x.1)).length=c+((w.filter (fun x=>lk p.1 x.1)).length+1) by omega]
def z2t(r13:(Int->Int->Bs->Int->Bs->Bs->Bs->Bs->(List (Bs×Bs×Int×Bool))->(List (Bs×Bs))->Option dj))(c:Int)(v:Bs)(nn:Int)(n:Nat):∀(u w:List Pc)(j:Int),l=u++w->w.length<n ->
  ∃j',qle fu r4 r13 n (ab.length:Int) c v nn j (u.length:Int) b0 b1 T S (l.map toD) ps=qle fu r4 r13 1 (ab.length:Int) c v nn j' (l.length:Int) b0 b1 T S (l.map toD) ps /\
   ((j'=j/\∀x∈w,¬(lk p.1 x.1=true/\x.2.1=nn))\/∃x∈w,lk p.1 x.1=true/\x.2.1=nn/\ap (l.map toD) j'=some (toD x)):=by
 have hnm:=zv4 fu hfu l ab aa p hl hz;have hll:=qec l
 induction n with
 |zero=>intro u w j _ h;omega|succ n ih=>
  intro u w j hp h;have hpl:l.length=u.length+w.length:=by rw[hp];simp
  cases w with
  |nil=>
   rw[List.append_nil]at hp;subst hp;refine⟨j,?_,.inl ⟨rfl,by simp⟩⟩
   have hend:¬((l.length:Int)<(List.length (l.map toD):Int)):=by rw[wC];omega
   rw[qle,qle,qww,qww,ay hend,ay hend]
  |cons x w=>
   simp only[qL]at h hpl;rw[qle,qww];have st:=fun j'=>ih (u++[x]) w j' (by rw[hp];simp) (by omega)
   simp only[qM,qL,qZ,wO]at st;have hx:x∈l:=by rw[hp];simp
   rw[am (by rw[wC];omega),zig,qah hl,qB,zig,qah hp,qB]
   have hsk:¬(lk p.1 x.1=true/\x.2.1=nn)->∃j',qle fu r4 r13 n (ab.length:Int) c v nn j ((u.length+1:Nat):Int) b0 b1 T S (l.map toD) ps=qle fu r4 r13 1 (ab.length:Int) c v nn j' (l.length:Int) b0 b1 T S (l.map toD) ps /\
     ((j'=j/\∀y∈x::w,¬(lk p.1 y.1=true/\y.2.1=nn))\/∃y∈x::w,lk p.1 y.1=true/\y.2.1=nn/\ap (l.map toD) j'=some (toD y)):=fun hno=>by
    obtain⟨j',g1,g2⟩:=st j;refine⟨j',g1,?_⟩;rcases g2 with⟨g2,g3⟩|⟨y,g2,g3⟩
    ·exact .inl ⟨g2,fun y hy=>(List.mem_cons.1 hy).elim (fun e=>e▸hno) (g3 y)⟩
    ·exact .inr ⟨y,qE _ g2,g3⟩
   show ∃j',(qn fu p.1 x.1).bind _=_/\_;rw[qez fu hfu _ _ (hnm p (by rw[hl];simp)) (hnm x hx),qB]
   cases hk:lk p.1 x.1
   ·rw[bi rfl,qlg,bi rfl,qli,bj _ (by omega)]
    exact hsk (by simp[hk])
   ·rw[bh rfl,zig,qah hp,qB,qlg];show ∃j',(bif x.2.1==nn then _ else _)=_/\_
    rw[g7];by_cases hn:x.2.1=nn
    ·rw[qX hn,qli,bj _ (by omega)]
     obtain⟨j',g1,g2⟩:=st (u.length:Int);refine⟨j',g1,.inr ?_⟩;rcases g2 with⟨g2,g3⟩|⟨y,g2,g3⟩
     ·exact⟨x,qH,hk,hn,by rw[g2];exact qah hp⟩
     ·exact⟨y,qE _ g2,g3⟩
    ·rw[qW hn,qli,bj _ (by omega)]
     exact hsk (by simp[hn])
omit hl in
def zy4(r13:(Int->Int->Bs->Int->Bs->Bs->Bs->Bs->(List (Bs×Bs×Int×Bool))->(List (Bs×Bs))->Option dj))(a c:Int)(v:Bs)(nn:Nat)(j:Int)(x:Pc)(hx:x∈l)(hn:x.2.1=(nn:Int))(hj:ap (l.map toD) j=some (toD x))(hv:v.length<=100000000000)(hnn:nn<=4000000) :
  qle fu r4 r13 1 a c v (nn:Int) j (l.length:Int) b0 b1 T S (l.map toD) ps=r13 a c (v++vv x) ((nn+1:Nat):Int) b0 b1 T S (l.map toD) ps:=by
 have hxl:=qtp hx;have h0:0<=j:=by
  by_cases h:0<=j
  ·exact h
  ·unfold ap at hj;rw[qW h]at hj;cases hj
 rw[qle,qww,ay (by rw[wC];omega),ay (by omega),zig,hj,qB,zig,hj,qB]
 have p22:∀t:Bs,t.length<=4000000->qlj fu r4 r13 a c v (nn:Int) t b0 b1 T S (l.map toD) ps=r13 a c (v++t) ((nn+1:Nat):Int) b0 b1 T S (l.map toD) ps:=fun t ht=>by
  rw[qlj,am (by simp only[bf];omega),qw4,bj _ (by omega)]
 have p23:∀t:Bs,t.length<=4000000->qlk fu r4 r13 a c v (nn:Int) t b0 b1 T S (l.map toD) ps=r13 a c (v++fg t) ((nn+1:Nat):Int) b0 b1 T S (l.map toD) ps:=fun t ht=>by
  rw[qlk,z8c fu hfu t ht,qB,p22 _ (by have:=zg5 _ t (wF _);omega)]
 unfold vv qtk;show(bif x.2.2.1 then(bif(nn:Int)==0 then(bif decide ((6:Int)<=(x.2.2.2.length:Int)) then(bif decide (0<=(6:Int)/\(6:Int)<=(List.length x.2.2.2:Int)) then(qak fu (List.take (6:Int).toNat x.2.2.2)).bind fun x7=>qe3 fu r4 r13 a c v (nn:Int) x.2.2.2 (x7==([117,116,102,56,39,39]:Bs)) b0 b1 T S (l.map toD) ps else none) else qe3 fu r4 r13 a c v (nn:Int) x.2.2.2 false b0 b1 T S (l.map toD) ps) else qe3 fu r4 r13 a c v (nn:Int) x.2.2.2 false b0 b1 T S (l.map toD) ps) else qlj fu r4 r13 a c v (nn:Int) x.2.2.2 b0 b1 T S (l.map toD) ps)=_
 cases hs:x.2.2.1
 ·rw[bi rfl,p22 _ (by omega),qW (by simp)]
 rw[bh rfl,qX rfl,g7,hn];by_cases hz0:(nn:Int)=0
 ·rw[qX hz0];by_cases h6:6<=x.2.2.2.length
  ·have h6':(List.take (6:Int).toNat x.2.2.2).length=6:=by show(List.take 6 _).length=6;rw[List.length_take];omega
   rw[am (by omega),am (by omega),qdh fu _ (by omega) (by rw[h6'];simp[maxLen]),qB,qe3]
   show(bif lk (x.2.2.2.take 6) [117,116,102,56,39,39] then _ else _)=_
   cases hk:lk (x.2.2.2.take 6) [117,116,102,56,39,39]
   ·rw[bi rfl,p23 _ (by omega),qW (by simp)]
   ·rw[bh rfl,am (by omega),qX ⟨hz0,h6,rfl⟩]
    exact p23 (x.2.2.2.drop 6) (by simp;omega)
  ·rw[ay (by omega),qe3,bi rfl,p23 _ (by omega),qW (by omega)]
 ·rw[qW hz0,qe3,bi rfl,p23 _ (by omega),qW (by omega)]
def z52(r13:(Int->Int->Bs->Int->Bs->Bs->Bs->Bs->(List (Bs×Bs×Int×Bool))->(List (Bs×Bs))->Option dj))(c:Int)(v:Bs)(nn:Int):qle fu r4 r13 1 (ab.length:Int) c v nn (-1) (l.length:Int) b0 b1 T S (l.map toD) ps=some bad:=by
 have _:=hfu;have _:=hl;have _:=hz;rw[qle,qww,ay (by rw[wC];omega),am (by omega)];rfl
def z7h(q:List Pc)(hq:qsq q 0)(hqm:∀x,x∈q↔(x∈l/\lk p.1 x.1=true))(n:Nat):∀(done rest:List Pc)(v:Bs),q=done++rest->rest.length<n->v.length+ci rest<=300000->qsq rest (done.length:Int)->q.length<=300000 ->
  qlb fu r4 n (ab.length:Int) (q.length:Int) v (done.length:Int) b0 b1 T S (l.map toD) ps=qlb fu r4 1 (ab.length:Int) (q.length:Int) (v++rest.flatMap vv) (q.length:Int) b0 b1 T S (l.map toD) ps:=by
 have hll:=qec l
 induction n with
 |zero=>intro done rest v _ h;omega|succ n ih=>
  intro done rest v hd h hv hnum hqb;have hql:q.length=done.length+rest.length:=by rw[hd];simp
  cases rest with
  |nil=>
   rw[List.append_nil]at hd;subst hd;have hend:¬((q.length:Int)<(q.length:Int)):=by omega
   rw[qlb,qlb,qwv,qwv,ay hend,ay hend];simp
  |cons x t=>
   simp only[qL]at h hql;rw[qeb]at hv;have hxq:x∈q:=by rw[hd];simp
   have hxl:=(hqm x).1 hxq;have hxn:x.2.1=(done.length:Int):=hnum.1;rw[qlb,qwv,am (by omega)]
   obtain⟨j',g1,g2⟩:=z2t fu hfu l ab aa p hl hz b0 b1 T S ps r4 (qlb fu r4 n) (q.length:Int) v (done.length:Int) fu [] l (-1) rfl (by omega)
   rw[show(([]:List Pc).length:Int)=0 from rfl]at g1
   rw[g1];rcases g2 with⟨_,g3⟩|⟨y,g2,g3,g4,g5⟩
   ·exact absurd ⟨hxl.2,hxn⟩ (g3 x hxl.1)
   ·have hyq:y∈q:=(hqm y).2 ⟨g2,g3⟩;have hyx:y=x:=z04 q 0 hq y hyq x hxq (by rw[g4,hxn])
    subst hyx;rw[zy4 fu hfu l hz b0 b1 T S ps r4 _ _ _ v done.length j' y g2 g4 g5 (by omega) (by omega)]
    have htl:=q6s y;have st:=ih (done++[y]) t (v++vv y) (by rw[hd];simp) (by omega) (by rw[qM];omega) (by rw[qM,wD];have:=hnum.2;rw[show((done.length+1:Nat):Int)=(done.length:Int)+1 by omega];exact this) hqb
    simp only[qM,qL,qZ,wO]at st;refine st.trans ?_;rw[List.flatMap_cons,qS]
def z7i(cnt k:Nat)(hk:k<cnt)(hno:∀x∈l,¬(lk p.1 x.1=true/\x.2.1=(k:Int)))(hc:cnt<=300000)(n:Nat):∀(nn:Nat)(v:Bs),nn<=k->cnt-nn<n->v.length<=nn*300000 ->
  qlb fu r4 n (ab.length:Int) (cnt:Int) v (nn:Int) b0 b1 T S (l.map toD) ps=some bad:=by
 have hll:=qec l
 induction n with
 |zero=>intro nn v _ h;omega|succ n ih=>
  intro nn v hnk h hv;rw[qlb,qwv,am (by omega)]
  obtain⟨j',g1,g2⟩:=z2t fu hfu l ab aa p hl hz b0 b1 T S ps r4 (qlb fu r4 n) (cnt:Int) v (nn:Int) fu [] l (-1) rfl (by omega)
  rw[show(([]:List Pc).length:Int)=0 from rfl]at g1
  rw[g1];rcases g2 with⟨e,_⟩|⟨y,g2,g3,g4,g5⟩
  ·rw[e];exact z52 fu hfu l ab aa p hl hz b0 b1 T S ps r4 _ _ v _
  ·have hne:nn≠k:=fun e=>by subst e;exact hno y g2 ⟨g3,g4⟩
   have hyl:=qtp g2;have htl:=q6s y;rw[zy4 fu hfu l hz b0 b1 T S ps r4 _ _ _ v nn j' y g2 g4 g5 (by omega) (by omega)]
   exact ih (nn+1) (v++vv y) (by omega) (by omega) (by rw[qM];omega)
end ref
def z6o{l ab aa:List Pc}{p:Pc}(hl:l=ab++p::aa)(h:ab.any (fun x=>lk x.1 p.1)=false):kg p.1 l=p::kg p.1 aa:=by
 subst hl;unfold kg;rw[List.filter_append,List.filter_cons,qX (zfx p.1)];rw[List.filter_eq_nil_iff.2]
 ·rfl
 ·intro x hx;rw[List.any_eq_false]at h;exact h x hx
def z7l(fu:Nat)(hfu:90000000<=fu)(l:List Pc)(hz:ci l<=300000)(hn:∀x∈l,nb x)(b0 b1 T S:Bs)(n:Nat):∀(ab aa:List Pc)(ps:List cr),l=ab++aa->aa.length<n->ps.length<=ab.length ->
  qlm fu n (ab.length:Int) b0 b1 T S (l.map toD) ps=some (if(jc ab aa ps).1=true then((T,(S,(jc ab aa ps).2)),true) else bad):=by
 have hrm:=qi;have hll:=qec l
 induction n with
 |zero=>intro ab aa ps _ h;omega|succ n ih=>
  intro ab aa ps hl h hps;have ac:l.length=ab.length+aa.length:=by rw[hl];simp
  rw[qlm,qwy]
  cases aa with
  |nil=>rw[ay (by rw[wC];simp only[qZ]at ac;omega)];rfl|cons p aa=>
   simp only[qL]at h ac;have st:=fun o(ho:List.length o<=ab.length+1)=>ih (ab++[p]) aa o (by rw[hl];simp) (by omega) (by simpa using ho)
   simp only[qM,qL,qZ,wO]at st;rw[am (by rw[wC];omega)]
   have h6:=rp6 fu hfu l ab aa p hl hz b0 b1 T S ps (qlm fu n) fu [] ab false rfl (by omega)
   rw[show(([]:List Pc).length:Int)=0 from rfl]at h6
   have h8:=rp8 fu hfu l ab aa p hl hz b0 b1 T S ps (qlm fu n) fu [] l (false||ab.any (fun x=>lk p.1 x.1)) 0 rfl (by omega) (by simp)
   rw[show(([]:List Pc).length:Int)=0 from rfl,show((0:Nat):Int)=0 from rfl]at h8
   rw[h6,h8];have hcm:(fun x:Pc=>lk p.1 x.1)=(fun x:Pc=>lk x.1 p.1):=funext fun x=>zka _ _
   rw[hcm,Bool.false_or,wO,qlp,qw0,ay (by rw[wC];omega)]
   have hP:jc ab (p::aa) ps=(if ab.any (fun x=>lk x.1 p.1)=true then jc (ab++[p]) aa ps else match qdl (kg p.1 l) with
    |none=>(false,[])| some v=>jc (ab++[p]) aa (ps++[(p.1,v)])):=by subst hl;rfl
   rw[hP];cases hany:ab.any (fun x=>lk x.1 p.1)
   ·rw[bi rfl,qW (c:=(false=true)) (by simp),zig,qah hl,qB]
    have hnf:=z6o hl hany;have hA:(l.filter fun x=>lk x.1 p.1)=p::kg p.1 aa:=hnf
    rw[hA,hnf,q3c];have hAz:ci (p::kg p.1 aa)<=300000:=by have:=q6m (fun x=>lk x.1 p.1) l;rw[hA]at this;omega
    have hAl:=qec (p::kg p.1 aa);have hAm:∀x,x∈p::kg p.1 aa↔(x∈l/\lk p.1 x.1=true):=fun x=>by
     rw[← hA,List.mem_filter,zka]
    show(bif decide (p.2.1<0) then _ else _)=_
    by_cases h0:p.2.1<0
    ·rw[am h0,qX h0,mf];by_cases h1:kg p.1 aa=[]
     ·rw[qW (by rw[h1];simp),qX h1,zig,qah hl,qB,zig,qah hl,qB,am (by simp;omega),bj _ (by omega)]
      exact st (ps++[(p.1,p.2.2.2)]) (by simp;omega)
     ·rw[qX (by
       cases hh:kg p.1 aa with
       |nil=>exact absurd hh h1| cons=>simp only[qL];omega),qW h1];rfl
    ·rw[ay h0,qW h0];obtain⟨_,h2,h3⟩:=zi5 (p::kg p.1 aa) (fun x hx=>hn x ((hAm x).1 hx).1) (by omega)
     by_cases hnum:qsq (kp (p::kg p.1 aa)) 0
     ·rw[q3j _ _ _ hnum,wQ];have hm:∀x,x∈kp (p::kg p.1 aa)↔(x∈l/\lk p.1 x.1=true):=fun x=>by rw[h2.mem_iff];exact hAm x
      have hsz:=q6n h2;have:=z7h fu hfu l ab aa p hl hz b0 b1 T S ps (qlm fu n) (kp (p::kg p.1 aa)) hnum hm fu [] (kp (p::kg p.1 aa)) [] rfl (by rw[h2.length_eq];omega) (by rw[hsz];simpa using hAz) hnum (by rw[h2.length_eq];omega)
      rw[show(([]:List Pc).length:Int)=0 from rfl,h2.length_eq]at this
      rw[this,qlb,qwv,ay (by omega),zig,qah hl,qB]
      have hvl:∀q:List Pc,(q.flatMap vv).length<=ci q:=by
       intro q
       induction q with
       |nil=>simp|cons y q ih2=>
        have:=q6s y;rw[List.flatMap_cons,qM,qeb];omega
      have hv:=hvl (kp (p::kg p.1 aa));simp only[List.nil_append];rw[z7b fu (by omega) _ (by omega) (by omega),qB,am (by simp;omega),bj _ (by omega)]
      exact st (ps++[(p.1,_)]) (by simp;omega)
     ·rw[z0d _ _ _ hnum,Option.map_none];have hncov:¬Cov (p::kg p.1 aa) 0:=fun hc=>hnum (zyp _ 0 h3 (hc.perm h2.symm))
      obtain⟨k,hk1,hk2⟩:∃k:Nat,k<(p::kg p.1 aa).length/\∀x∈p::kg p.1 aa,x.2.1≠(0:Int)+k:=by
       apply Classical.byContradiction;intro hq;apply hncov;intro j hj;apply Classical.byContradiction;intro hq2;exact hq ⟨j,hj,fun x hx e=>hq2 ⟨x,hx,e⟩⟩
      have:=z7i fu hfu l ab aa p hl hz b0 b1 T S ps (qlm fu n) (p::kg p.1 aa).length k hk1 (fun x hx hc=>hk2 x ((hAm x).2 ⟨hx,hc.1⟩) (by rw[hc.2];omega)) (by omega) fu 0 [] (by omega) (by omega) (by simp)
      rw[show((0:Nat):Int)=0 from rfl]at this
      rw[this];rfl
   ·rw[bh rfl,qX (c:=(true=true)) rfl,bj _ (by omega)]
    exact st ps (by omega)
def qdk(s:List UInt8)(i:Nat):Bool:=bl (s.getD i 0) && !bl (s.getD (i-1) 0)
def cb(s:List UInt8):Nat->Nat->Nat->Nat|0,_,b=>b|m+1,i,b=>cb s m (i+1) (if qdk s i && !(decide (0<b)&&decide (78<i)) then i else b)
def q1a(s:List UInt8):∀m i b,0<b->78<i->cb s m i b=b
 |0,_,_,_,_=>rfl|m+1,i,b,h1,h2=>by
  rw[cb,decide_eq_true h1,decide_eq_true h2];simp only[Bool.and_self,Bool.not_true,Bool.and_false,wJ,if_false];exact q1a s m (i+1) b h1 (by omega)
def qqy(s:List UInt8):∀m i b,cb s m i b=b\/(i<=cb s m i b/\cb s m i b<i+m/\qdk s (cb s m i b)=true)
 |0,_,_ => .inl rfl|m+1,i,b=>by
  rw[cb];split
  ·rename_i h;simp only[qA]at h;rcases qqy s m (i+1) i with e|⟨h1,h2,h3⟩
   ·rw[e];exact .inr ⟨wF _,by omega,h.1⟩
   ·exact .inr ⟨by omega,by omega,h3⟩
  ·rcases qqy s m (i+1) b with e|⟨h1,h2,h3⟩
   ·exact .inl e
   ·exact .inr ⟨by omega,by omega,h3⟩
def q2u(s:List UInt8)(i:Nat)(h:i<s.length):s.getD i 0=s[i]:=by simp[List.getD_eq_getElem?_getD,h]
def zhe(fu n:Nat):∀(s:List UInt8)(m i b:Nat),i+m=s.length->1<=i->m<n->s.length<1000000000->qa0 fu n s (b:Int) (i:Int)=some ((cb s m i b:Nat):Int):=by
 induction n with
 |zero=>intro s m i b _ _ h;omega|succ n ih=>
  intro s m i b hi h1 hm hb;rw[qa0,qm6]
  cases m with
  |zero=>rw[ay (by omega)];rfl|succ m=>
   have hlt:i<s.length:=by omega
   have hlt':i-1<s.length:=by omega
   rw[am (by omega),qdg _ _ hlt,qB,qhr,qB,cb]
   unfold qdk;rw[q2u _ _ hlt,q2u _ _ hlt'];unfold qfo;cases bl s[i]
   ·rw[fc,bh (by rfl),bj _ (by omega)]
    exact ih s m (i+1) b (by omega) (by omega) (by omega) hb
   ·rw[dm,show af ((i:Int)-1)=((i-1:Nat):Int) by rw[ee (by omega) (by omega)];omega,qdg _ _ hlt',qB,qhr,qB]
    cases bl s[i-1]
    ·rw[bi (by rfl),bj _ (by omega),dc,dc]
     by_cases q1:0<b
     ·rw[qX (by omega),decide_eq_true q1]
      by_cases q2:78<i
      ·rw[qX (by omega),decide_eq_true q2]
       simp only[Bool.and_self,Bool.not_true,Bool.and_false,wJ,if_false];rw[q1a s m (i+1) b q1 (by omega)]
      ·rw[qW (by omega),decide_eq_false q2]
       exact ih s m (i+1) i (by omega) (by omega) (by omega) hb
     ·rw[qW (by omega),decide_eq_false q1]
      exact ih s m (i+1) i (by omega) (by omega) (by omega) hb
    ·rw[bh (by rfl),bj _ (by omega)]
     exact ih s m (i+1) b (by omega) (by omega) (by omega) hb
def iu(s:List UInt8)(k:Nat):Nat:=cb s (s.length-k) k 0
def zhd(fu:Nat)(s:List UInt8)(k:Nat)(h:s.length<fu)(hb:s.length<1000000000)(hk:k<=s.length)(h0:1<=s.length):qfn fu s (k:Int)=some ((iu s (max k 1):Nat):Int):=by
 unfold qfn iu;have e:(if(1:Int)>(k:Int) then(1:Int) else(k:Int))=((max k 1:Nat):Int):=by
  split
  ·rename_i h;have:k=0:=by omega
   subst this;rfl
  ·rename_i h;rw[Nat.max_eq_left (by omega)]
 rw[e];exact zhe fu fu s (s.length-max k 1) (max k 1) 0 (by omega) (by omega) (by omega) hb
def li:Nat->List UInt8->Nat->List (List UInt8)|0,s,_=>[s]|n+1,s,k=>if 78<s.length then(if iu s k=0 then[s] else s.take (iu s k)::li n (s.drop (iu s k)) 1) else[s]
def q0w(s:List UInt8)(k:Nat)(_h1:1<=k)(h:iu s k≠0):k<=iu s k/\iu s k<s.length/\qdk s (iu s k)=true:=by
 unfold iu at *;rcases qqy s (s.length-k) k 0 with e|⟨h2,h3,h4⟩
 ·exact absurd e h
 ·exact⟨h2,by omega,h4⟩
def qdo:Nat->List (List UInt8)->Option Nat|_,[]=>none|i,l::ls=>if 998<l.length then some i else qdo (i+1) ls
def qdm(ls:List (List UInt8)):(Int×Int)×List (List UInt8):=match qdo 0 ls with|some i=>((1,(i:Int)),[])|none=>((0,0),ls)
def zc8(fu n:Nat)(m16:Int×Int):∀(ab aa:List (List UInt8)),aa.length<n->ab.length+aa.length<1000000000 ->
  qaz fu n ((ab.length+aa.length:Nat):Int) (ab.length:Int) m16 (ab++aa)=some (match qdo ab.length aa with|some i=>((1,(i:Int)),[])|none=>((0,0),ab++aa)):=by
 induction n with
 |zero=>intro ab aa h;omega|succ n ih=>
  intro ab aa h hb;rw[qaz,qm4]
  cases aa with
  |nil=>rw[ay (by simp)];rfl|cons c aa=>
   simp only[qL]at h hb ⊢;rw[am (by omega),zig,cz,qB,dc,qdo]
   by_cases hc:998<c.length
   ·rw[qX (by omega),qX hc];rfl
   ·rw[qW (by omega),qW hc,bj _ (by omega)]
    have:=ih (ab++[c]) aa (by omega) (by simp;omega)
    simp only[qS,wM,qM,qL,qZ]at this;rw[show ab.length+(0+1)+aa.length=ab.length+(aa.length+1) by omega]at this
    exact this
def q2p(fu:Nat)(m16:Int×Int)(s:List UInt8)(out:List (List UInt8))(h:out.length+1<fu)(hb:out.length<900000000):qay fu s m16 out=some (qdm (out++[s])):=by
 unfold qay;rw[am (by simp[bg];omega)]
 have:=zc8 fu fu m16 [] (out++[s]) (by simpa using h) (by simp;omega)
 simp only[List.nil_append,qZ,wO]at this;exact this
def zel(fu n:Nat)(m16:Int×Int):∀(m:Nat)(s:List UInt8)(k k':Nat)(out:List (List UInt8)),s.length<=m->s.length<n->max k 1=k'->(78<s.length->k<=s.length)->s.length+out.length+1<fu->s.length+out.length<500000000 ->
  qax fu n s (k:Int) m16 out=some (qdm (out++li m s k')):=by
 induction n with
 |zero=>intro m s k k' out _ h;omega|succ n ih=>
  intro m s k k' out hm h hk hk2 hf hb;rw[qax,qm3,dc];by_cases hl:78<s.length
  ·obtain⟨m,rfl⟩:∃j,m=j+1:=⟨m-1,by omega⟩
   rw[qX (by omega),zhd fu s k (by omega) (by omega) (hk2 hl) (by omega),hk,qB,g7,li,qX hl]
   by_cases h0:iu s k'=0
   ·rw[qX (by omega),qX h0]
    exact q2p fu m16 s out (by omega) (by omega)
   ·obtain⟨h1,h2,_⟩:=q0w s k' (by omega) h0
    rw[qW (by omega),qW h0,am (by omega),am (by simp[bg];omega),am (by omega)]
    have:=ih m (s.drop (iu s k')) 0 1 (out++[s.take (iu s k')]) (by rw[List.length_drop];omega) (by rw[List.length_drop];omega) rfl (by intro;omega) (by rw[List.length_drop,qM,wD];omega) (by rw[List.length_drop,qM,wD];omega)
    simpa using this
  ·rw[qW (by omega)]
   have e:li m s k'=[s]:=by cases m with|zero=>rfl|succ m=>rw[li,qW hl]
   rw[e];exact q2p fu m16 s out (by omega) (by omega)
def jx(n v:List UInt8):List UInt8:=n++[58,32]++v
def og(n v:List UInt8):List (List UInt8):=li (jx n v).length (jx n v) (n.length+2)
def ry(n v:List UInt8):(Int×Int)×List (List UInt8):=if rr n v=0 then qdm (og n v) else((rr n v,-1),[])
def q2l{s:List UInt8}(h:rx s=true):s.length<=60:=by
 unfold rx at h;simp only[qA,decide_eq_true_eq]at h;exact h.1.2
def q15{n v:List UInt8}(h:rr n v=0):rx n=true/\v.length<=4000/\qc8 v=true:=by
 unfold rr at h;split at h
 ·rename_i h1;split at h
  ·exact absurd h (by decide)
  ·rename_i h2;split at h
   ·rename_i h3;exact⟨h1,by omega,h3⟩
   ·exact absurd h (by decide)
 ·exact absurd h (by decide)
def zek(fu:Nat)(n v:List UInt8)(hfu:10000<=fu)(hv:v.length<fu)(hvb:v.length<1000000000):qfk fu n v=some (ry n v):=by
 unfold qfk ry;rw[zej fu n (by omega),qB]
 by_cases h0:rr n v=0
 ·obtain⟨h1,h2,h3⟩:=q15 h0;have hn:=q2l h1;rw[qX h0,h1,dm,ay (by omega),q2t fu v (by omega) hv hvb,qB,h3,dm,am (by simp[bf];omega),am (by simp[bf];omega)]
  have:=zel fu fu (0,0) (jx n v).length (jx n v) (n.length+2) (n.length+2) [] (wF _) (by simp[jx]<;>omega) (by omega) (by intro;simp[jx]<;>omega) (by simp[jx]<;>omega) (by simp[jx]<;>omega)
  rw[show af ((n.length:Int)+2)=((n.length+2:Nat):Int) by rw[ee (by omega) (by omega)];omega]
  exact this
 ·rw[qW h0];unfold rr at h0 ⊢;cases hn:rx n
  ·rfl
  ·rw[hn]at h0;simp only[if_true]at h0 ⊢;rw[dm,dc];by_cases hl:4000<v.length
   ·rw[qX (by omega),qX hl];rfl
   ·rw[qW hl]at h0;rw[qW (by omega),qW hl,q2t fu v (by omega) hv hvb,qB]
    cases hv3:qc8 v
    ·rfl
    ·rw[hv3]at h0;exact absurd rfl h0
def pts(s:List UInt8)(i m:Nat):List Nat:=(List.range' i m).filter (qdk s)
def q2n:∀(m:Nat)(s:List UInt8)(k:Nat),s.length<=m->1<=k->(li m s k).length<=s.length+1
 |0,s,_,_,_=>by simp[li]|m+1,s,k,h,hk=>by
  rw[li];split
  ·split
   ·simp
   ·rename_i h0;obtain⟨h1,h2,_⟩:=q0w s k hk h0;have:=q2n m (s.drop (iu s k)) 1 (by rw[List.length_drop];omega) (by omega)
    rw[List.length_drop]at this;rw[qL];omega
  ·simp
def ze2{α:Type}(ab:List α)(c d:α)(aa:List α):ap (ab++c::d::aa) ((ab.length+1:Nat):Int)=some d:=by
 have:=cz (ab++[c]) d aa;simpa using this
def iy(c:UInt8)(r:List UInt8):Bool:=c==13&&r.head? == some 10
def q23{c:UInt8}{r:List UInt8}(h:iy c r=true):c=13/\∃r',r=10::r':=by
 unfold iy at h;simp only[qA,beq_iff_eq]at h;refine⟨h.1,?_⟩
 cases r with|nil=>simp at h|cons d r=>simp at h;exact⟨r,by rw[h.2]⟩
def eo:List UInt8->List UInt8|[]=>[]|c::r=>if iy c r then 13::10::eo r.tail else if c=13\/c=10 then 13::10::eo r else c::eo r
termination_by l=>l.length
decreasing_by all_goals (simp only[qL,List.length_tail];omega)
def bs(col:Nat):List UInt8->Int|[]=>0|c::r=>if iy c r then bs 0 r.tail else if c=13\/c=10 then 11 else if 998<=col then 1 else bs (col+1) r
termination_by l=>l.length
decreasing_by all_goals (simp only[qL,List.length_tail];omega)
def zcw(col:Nat):bs col []=0:=by rw[bs]
def zcv(col:Nat)(c:UInt8)(r:List UInt8):bs col (c::r)=if iy c r then bs 0 r.tail else if c=13\/c=10 then 11 else if 998<=col then 1 else bs (col+1) r:=by rw[bs]
def zco(fu n:Nat):∀(ab aa:List UInt8)(col:Nat),aa.length<n->ab.length+aa.length<100000000->col<=2000 ->
  wj fu n (ab++aa) (col:Int) (ab.length:Int)=some (bs col aa):=by
 induction n with
 |zero=>intro ab aa col h;omega|succ n ih=>
  intro ab aa col h hb hcol;rw[wj,qmh]
  cases aa with
  |nil=>rw[ay (by simp),zcw]|cons c r=>
   simp only[qL]at h hb;have fin:∀f,f=iy c r->wk fu (wj fu n) (ab++c::r) (col:Int) (ab.length:Int) c f=some (bs col (c::r)):=by
    intro f hf;unfold wk;rw[zcv,hf];cases hc:iy c r
    ·rw[bi (by rfl),qW (by decide)]
     unfold qmi;rw[rl,rl];by_cases h13:c=13
     ·rw[qX h13,qX (.inl h13)]
     ·rw[qW h13];by_cases h10:c=10
      ·rw[qX h10,qX (.inr h10)]
      ·rw[qW h10,qW (by simp[h13,h10]),bj _ (by omega),dc]
       by_cases hq:998<=col
       ·rw[qX (by omega),qX hq]
       ·rw[qW (by omega),qW hq,bj _ (by omega)]
        have:=ih (ab++[c]) r (col+1) (by omega) (by simp;omega) (by omega)
        simpa using this
    ·obtain⟨rfl,r',rfl⟩:=q23 hc;simp only[qL]at h hb;rw[bh (by rfl),qX rfl,bj _ (by omega),bj _ (by omega),show ab.length+1+1=ab.length+2 from rfl]
     have:=ih (ab++[13,10]) r' 0 (by omega) (by simp;omega) (by omega)
     simpa using this
   rw[ja,am (by omega),cz,qB,rl]
   by_cases h13:c=13
   ·subst h13;rw[qX rfl,bj _ (by omega)]
    cases r with
    |nil=>rw[ay (by simp)];exact fin false rfl|cons d r=>
     rw[am (by simp only[qL];omega),ze2,qB]
     exact fin _ (by unfold iy;cases h:d==10<;>simp_all)
   ·rw[qW h13];exact fin false (by unfold iy;rw[beq_false_of_ne h13];rfl)
abbrev bm:Type:=List UInt8×List UInt8
def xl(l:List bm):Prop:=l.length<=10000000/\∀x∈l,x.1.length<=10000000/\x.2.length<=10000000
def xl.tail{x:bm}{l:List bm}(h:xl (x::l)):xl l:=⟨by have:=h.1;simp only[qL]at this;omega,fun y hy=>h.2 y (qE _ hy)⟩
def ff:Nat->List bm->Int×Int|_,[]=>(0,0)|i,x::l=>if(ry x.1 x.2).1.1≠0 then((ry x.1 x.2).1.1,(i:Int)) else ff (i+1) l
def ru(l:List bm):Int×Int:=if 60<l.length then(2,-1) else ff 0 l
def zey(fu n:Nat)(hfu:90000000<=fu)(m16:Int×Int):∀(ab aa:List bm),aa.length<n->ab.length+aa.length<100000000->xl aa ->
  qa1 fu n (ab++aa) ((ab.length+aa.length:Nat):Int) (ab.length:Int) m16=some (ff ab.length aa):=by
 induction n with
 |zero=>intro ab aa h;omega|succ n ih=>
  intro ab aa h hb hs;rw[qa1,qm7]
  cases aa with
  |nil=>rw[ay (by simp)];rfl|cons x aa=>
   simp only[qL]at h hb ⊢;obtain⟨q1,q2⟩:=hs.2 x qH;rw[am (by omega),cz,qB,zek fu x.1 x.2 (by omega) (by omega) (by omega),qB,p8,qB,mf,ff]
   split
   ·rfl
   ·rw[bj _ (by omega)]
    have:=ih (ab++[x]) aa (by omega) (by simp;omega) hs.tail
    simp only[qS,wM,qM,qL,qZ]at this;rw[show ab.length+(0+1)+aa.length=ab.length+(aa.length+1) by omega]at this
    exact this
def zex(fu:Nat)(hfu:90000000<=fu)(l:List bm)(hs:xl l):qfq fu l=some (ru l):=by
 unfold qfq ru;rw[dc];split
 ·rw[qX (by omega)];rfl
 ·rw[qW (by omega)]
  have:=zey fu fu hfu (0,0) [] l (by have:=hs.1;omega) (by have:=hs.1;simp;omega) hs
  simp only[List.nil_append,qZ,wO]at this;exact this
def zd(x:bm):Prop:=rr x.1 x.2=0/\qdo 0 (og x.1 x.2)=none
def zgs{x:bm}(h:zd x):ry x.1 x.2=((0,0),og x.1 x.2):=by
 unfold ry qdm;rw[qX h.1,h.2]
def zem{x:bm}(h:(ry x.1 x.2).1.1=0):zd x:=by
 unfold ry qdm at h;by_cases h0:rr x.1 x.2=0
 ·refine⟨h0,?_⟩;rw[qX h0]at h;split at h
  ·exact absurd h (by simp)
  ·rename_i h1;exact h1
 ·rw[qW h0]at h;exact absurd h h0
def q16:∀(i:Nat)(l:List bm),(ff i l).1=0->∀x∈l,zd x
 |_,[],_,_,h=>by cases h
 |i,y::l,h,x,hx=>by
  rw[ff]at h;split at h
  ·rename_i h1;exact absurd h h1
  ·rename_i h1;rcases List.mem_cons.1 hx with rfl|hx
   ·exact zem (by omega)
   ·exact q16 (i+1) l h x hx
def q4h:∀(i:Nat)(l:List bm),(∀x∈l,zd x)->ff i l=(0,0)
 |_,[],_=>rfl|i,y::l,h=>by
  rw[ff,zgs (h y qH),qW (by simp)]
  exact q4h (i+1) l fun x hx=>h x (qE _ hx)
def zed{l:List bm}(h:(ru l).1=0):ru l=(0,0)/\l.length<=60/\∀x∈l,zd x:=by
 unfold ru at h ⊢;split at h
 ·exact absurd h (by decide)
 ·rename_i hl;have:=q16 0 l h;rw[qW hl];exact⟨q4h 0 l this,by omega,this⟩
def qiw(ls:List (List UInt8)):List UInt8:=ls.flatMap fun s=>s++[13,10]
def zec(l:List bm):List UInt8:=l.flatMap fun x=>qiw (og x.1 x.2)
def hbytes(l:List bm):List UInt8:=zec l++[13,10]
def q2m:∀(m:Nat)(s:List UInt8)(k:Nat),(li m s k).flatten=s
 |0,s,_=>by simp[li]|m+1,s,k=>by
  rw[li];split
  ·split
   ·simp
   ·rw[List.flatten_cons,q2m m,List.take_append_drop]
  ·simp
def q3g:∀ls:List (List UInt8),(qiw ls).length=ls.flatten.length+2*ls.length
 |[]=>rfl|s::ls=>by
  have:=q3g ls;unfold qiw at this ⊢;rw[List.flatMap_cons,List.flatten_cons,qM,qM,this];simp only[qM,qL,qZ];omega
def q4f{x:bm}(h:zd x):x.1.length<=60/\x.2.length<=4000/\(og x.1 x.2).length<=5000/\(qiw (og x.1 x.2)).length<=20000:=by
 obtain⟨h1,h2,_⟩:=q15 h.1;have hl:=q2l h1;have hle:(jx x.1 x.2).length=x.1.length+2+x.2.length:=by simp[jx];omega
 have h3:=q2n (jx x.1 x.2).length (jx x.1 x.2) (x.1.length+2) (wF _) (by omega)
 have h4:(og x.1 x.2).flatten.length=(jx x.1 x.2).length:=by unfold og;rw[q2m]
 have h5:(og x.1 x.2).length<=5000:=by unfold og;omega
 exact⟨hl,h2,h5,by rw[q3g];omega⟩
def SmM(m:List bm×List UInt8):Prop:=xl m.1/\m.2.length<=80000000
def qq1(t:List UInt8):List UInt8:=if t.getLast? = some 13 then t.dropLast else t
def ln(r:List UInt8):List UInt8×Nat:=if(10:UInt8)∈r then(qq1 (r.takeWhile (· != 10)),(r.takeWhile (· != 10)).length+1) else(r,r.length)
def qj0(t:List UInt8)(hb:t.length<1000000000):tr t [13]=some (qq1 t):=by
 unfold tr wm qfe qq1;rcases List.eq_nil_or_concat t with rfl|⟨u,c,rfl⟩
 ·rfl
 ·rw[List.concat_eq_append]at *;simp only[qM,qL,qZ]at hb;rw[mt,show(([13]:List UInt8).length:Int)=1 from rfl,ng _ (by omega),am (by omega),am (by omega),qB,qB]
  have e:List.drop ((u.length:Nat):Int).toNat (u++[c])=[c]:=od u [c];rw[e,List.getLast?_concat,List.dropLast_concat,vt];by_cases h:c=13
  ·subst h;rw[bh (by rfl),am (by omega),qX rfl]
  ·rw[bi (by simpa using h),qW (by simpa using h)]
def zei(s:List UInt8):Option bm:=if(58:UInt8)∈s/\rx (dn (s.takeWhile (· != 58)))=true then some (dn (s.takeWhile (· != 58)),(s.dropWhile (· != 58)).tail) else none

def qhi(out:List bm)(s:List UInt8):List bm:=match out.getLast? with|some x=>out.dropLast++[(x.1,x.2++s)]|none=>out
def zbm(out:List bm)(x:bm)(s:List UInt8):qhi (out++[x]) s=out++[(x.1,x.2++s)]:=by
 unfold qhi;rw[List.getLast?_concat,List.dropLast_concat]
def hd:Nat->List UInt8->Nat->List bm->Nat×List bm
 |0,_,a,out=>(a,out)|n+1,r,a,out=>
  if r=[] then(a,out) else
  if(ln r).1=[] then(a+(ln r).2,out) else
  if bl ((ln r).1.headD 0)=true/\out≠[] then hd n (r.drop (ln r).2) (a+(ln r).2) (qhi out (ln r).1) else
  match zei (ln r).1 with|none=>(a,out)|some x=>hd n (r.drop (ln r).2) (a+(ln r).2) (out++[x])
def xj(a:Nat)(l:List bm):Prop:=l.length<=a/\∀x∈l,x.1.length<=a/\x.2.length<=a
def xj.mono{a b:Nat}{l:List bm}(h:xj a l)(hab:a<=b):xj b l:=⟨Nat.le_trans h.1 hab,fun x hx=>⟨Nat.le_trans (h.2 x hx).1 hab,Nat.le_trans (h.2 x hx).2 hab⟩⟩
def xj.app{a k:Nat}{l:List bm}(h:xj a l)(hne:l≠[])(s:List UInt8)(hs:s.length<=k):xj (a+k) (qhi l s):=by
 rcases List.eq_nil_or_concat l with rfl|⟨t,x,rfl⟩
 ·exact absurd rfl hne
 ·rw[List.concat_eq_append]at *;rw[zbm];refine⟨by have:=h.1;simp only[qM,qL,qZ]at this ⊢;omega,fun y hy => ?_⟩
  rcases List.mem_append.1 hy with hy|hy
  ·have:=h.2 y (List.mem_append_left _ hy);omega
  ·have:=h.2 x (by simp)
   rw[List.mem_singleton.1 hy];simp only[qM];omega



def dv(l:List bm)(n:List UInt8):List (List UInt8):=(l.filter fun x=>x.1.map lo==n.map lo).map (·.2)
def tc(x:bm)(l:List bm)(n:List UInt8):dv (x::l) n=if(x.1.map lo==n.map lo)=true then x.2::dv l n else dv l n:=by
 unfold dv;rw[List.filter_cons];split<;>rfl
def z8i(fu n:Nat)(hfu:90000000<=fu)(nm:List UInt8)(hn:nm.length<=1000):∀(ab aa:List bm)(out:List (List UInt8)),aa.length<n->ab.length+aa.length<100000000->xl aa->out.length+aa.length<1000000000 ->
  ql2 fu n (ab++aa) nm (ab.length:Int) out=some (out++dv aa nm):=by
 induction n with
 |zero=>intro ab aa out h;omega|succ n ih=>
  intro ab aa out h hb hs hk;rw[ql2,qxh]
  cases aa with
  |nil=>rw[ay (by simp)];simp[dv]|cons x aa=>
   simp only[qL]at h hb hk;obtain⟨q1,q2⟩:=hs.2 x qH;have next:∀out':List (List UInt8),out'.length<=out.length+1->ql2 fu n (ab++x::aa) nm (af ((ab.length:Int)+1)) out'=some (out'++dv aa nm):=by
    intro out' hj;have:=ih (ab++[x]) aa out' (by omega) (by simp;omega) hs.tail (by omega)
    rw[bj _ (by omega)]
    simpa using this
   rw[zhm,qL,am (by omega),cz,qB,q9s fu _ _ (by omega) (by omega) (by simp only[maxLen];omega) (by simp only[maxLen];omega),qB,tc]
   cases hc:x.1.map lo==nm.map lo
   ·rw[bi (by rfl),qW (by decide)]
    exact next out (by omega)
   ·rw[bh (by rfl),qX rfl,qB,am (by simp[bg];omega),next _ (by simp)]
    simp
def z8h(fu:Nat)(hfu:90000000<=fu)(l:List bm)(nm:List UInt8)(hn:nm.length<=1000)(hs:xl l):qxg fu l nm=some (dv l nm):=by
 have h1:=hs.1;have:=z8i fu fu hfu nm hn [] l [] (by omega) (by simp;omega) hs (by simp;omega)
 exact this
def z68(f:Bs->Bs->Option Pc):∀(n:Nat)(acc:List Pc)(s:Bs)(l:List Pc),ko f n acc s=some l->∃t,l=acc++t:=by
 intro n
 induction n with
 |zero=>intro acc s l h;cases h
 |succ n ih=>
  intro acc s l h;rw[ko]at h
  cases ht:d6 s with
  |nil=>rw[ht]at h;cases h;exact⟨[],by simp⟩
  |cons c t=>
   rw[ht]at h;simp only at h;by_cases hc:c=59
   ·rw[qX hc]at h
    cases hx:sg t with
    |none=>rw[hx]at h;cases h
    |some x=>
     rw[hx]at h;simp only at h
     cases hp:f x.1.1 x.1.2 with
     |none=>rw[hp]at h;cases h
     |some p=>
      rw[hp]at h;simp only at h;obtain⟨u,e⟩:=ih _ _ _ h;exact⟨p::u,by rw[e];simp⟩
   ·rw[qW hc]at h;cases h
def vp(p:Pc):Prop:=p.2.1<1000000000
def z67:∀(n:Nat)(acc:List Pc)(s:Bs),(∀p∈acc,vp p)->(∀l,ko ic n acc s=some l->(∀p∈l,vp p)->ko qae n acc s=some l) /\
  (∀l,ko ic n acc s=some l->(∃p∈l,¬vp p)->ko qae n acc s=none)/\(ko ic n acc s=none->ko qae n acc s=none):=by
 intro n
 induction n with
 |zero=>intro acc s _;exact⟨fun l h=>(nomatch h),fun l h=>(nomatch h),fun _=>rfl⟩
 |succ n ih=>
  intro acc s ha;rw[ko,ko]
  cases ht:d6 s with
  |nil=>exact⟨fun l h _=>h,fun l h hb=>(by cases h;obtain⟨p,hp,hq⟩:=hb;exact absurd (ha p hp) hq),fun h=>h⟩
  |cons c t=>
   simp only;by_cases hc:c=59
   ·rw[qX hc,qX hc]
    cases hx:sg t with
    |none=>exact⟨fun l h=>(nomatch h),fun l h=>(nomatch h),fun _=>rfl⟩
    |some x=>
     simp only;unfold qae
     cases hp:ic x.1.1 x.1.2 with
     |none=>exact⟨fun l h=>(nomatch h),fun l h=>(nomatch h),fun _=>rfl⟩
     |some p=>
      simp only;by_cases hs:p.2.1<1000000000
      ·simp only[qX hs];exact ih (acc++[p]) x.2 (fun y hy=>(List.mem_append.1 hy).elim (ha y) (fun e=>by rw[List.mem_singleton.1 e];exact hs))
      ·simp only[qW hs];refine⟨fun l h hall => ?_,fun _ _ _=>by first|rfl|trivial,fun _=>by first|rfl|trivial⟩
       obtain⟨u,e⟩:=z68 ic n _ _ _ h;exact absurd (hall p (by rw[e];simp)) hs
   ·rw[qW hc,qW hc];exact⟨fun l h=>(nomatch h),fun l h=>(nomatch h),fun _=>rfl⟩
def zhn:∀(n:Nat)(acc:List Pc)(s:Bs)(l:List Pc),ko ic n acc s=some l->ci l<=ci acc+s.length/\((∀p∈acc,nb p)->∀p∈l,nb p):=by
 intro n
 induction n with
 |zero=>intro acc s l h;cases h
 |succ n ih=>
  intro acc s l h;have hl:=y8 s;rw[ko]at h
  cases ht:d6 s with
  |nil=>rw[ht]at h;cases h;exact⟨Nat.le_add_right _ _,fun h=>h⟩
  |cons c t=>
   rw[ht]at h hl;simp only[qL]at h hl;by_cases hc:c=59
   ·rw[qX hc]at h
    cases hx:sg t with
    |none=>rw[hx]at h;cases h
    |some x=>
     rw[hx]at h;simp only at h;have hxl:=(qr7 (n:=x.1.1) (v:=x.1.2) (t:=x.2) hx).1
     cases hp:ic x.1.1 x.1.2 with
     |none=>rw[hp]at h;cases h
     |some p=>
      rw[hp]at h;simp only at h;obtain⟨g1,g2,g3,g4,_⟩:=q4t hp;obtain⟨e1,e2⟩:=ih _ _ _ h;rw[q6l,g2]at e1;exact⟨by omega,fun hh=>e2 (fun y hy=>(List.mem_append.1 hy).elim (hh y) (fun e=>by rw[List.mem_singleton.1 e];exact⟨g3,g4⟩))⟩
   ·rw[qW hc]at h;cases h
def z0w:∀(q:List Pc)(k:Int),qsq q k->∀x∈q,x.2.1<k+q.length
 |[],_,_,_,h=>by cases h
 |p::r,k,h,x,hx=>by
  simp only[qL];rcases List.mem_cons.1 hx with e|e
  ·subst e;have:=h.1;omega
  ·have:=z0w r _ h.2 x e;omega
def zz9{a b c:Bs}(h1:lk a b=true)(h2:lk b c=true):lk a c=true:=by
 unfold lk at *;simp only[beq_iff_eq]at *;rw[h1,h2]
def z6p(l:List Pc){a b:Bs}(h:lk a b=true):kg a l=kg b l:=by
 unfold kg;congr 1;funext x;rw[Bool.eq_iff_iff];exact⟨fun g=>zz9 g h,fun g=>zz9 g (by rw[zka];exact h)⟩
def z6x(l:List Pc):∀(aa ab:List Pc)(out:List cr),l=ab++aa->(jc ab aa out).1=true->(∀x∈ab,qdl (kg x.1 l)≠none)->∀x∈l,qdl (kg x.1 l)≠none:=by
 intro aa
 induction aa with
 |nil=>intro ab out hl _ hp;rw[hl,List.append_nil];rw[hl,List.append_nil]at hp;exact hp|cons p aa ih=>
  intro ab out hl h hp;rw[jc]at h;by_cases hany:ab.any (fun x=>lk x.1 p.1)=true
  ·rw[qX hany]at h;refine ih (ab++[p]) out (by rw[hl];simp) h (fun x hx => ?_)
   rcases List.mem_append.1 hx with g|g
   ·exact hp x g
   ·rw[List.mem_singleton.1 g];obtain⟨y,hy,hk⟩:=List.any_eq_true.1 hany;rw[← z6p l hk];exact hp y hy
  ·rw[qW hany,← hl]at h
   cases hj:qdl (kg p.1 l) with
   |none=>rw[hj]at h;cases h
   |some v=>
    rw[hj]at h;refine ih (ab++[p]) _ (by rw[hl];simp) h (fun x hx => ?_)
    rcases List.mem_append.1 hx with g|g
    ·exact hp x g
    ·rw[List.mem_singleton.1 g,hj];simp
def z6j(A:List Pc)(hn:∀x∈A,nb x)(hl:A.length<=300000)(h:qdl A≠none):∀x∈A,vp x:=by
 cases A with
 |nil=>intro x hx;cases hx
 |cons p l=>
  rw[q3c]at h;by_cases h0:p.2.1<0
  ·rw[qX h0]at h;by_cases h1:l=[]
   ·subst h1;intro x hx;rw[List.mem_singleton.1 hx];unfold vp;omega
   ·rw[qW h1]at h;exact absurd rfl h
  ·rw[qW h0]at h;obtain⟨_,h2,_⟩:=zi5 (p::l) hn (by omega)
   have hnum:qsq (kp (p::l)) 0:=by
    by_cases hq:qsq (kp (p::l)) 0
    ·exact hq
    ·rw[z0d _ _ _ hq]at h;exact absurd rfl h
   intro x hx;have:=z0w _ 0 hnum x (h2.mem_iff.2 hx);rw[h2.length_eq]at this;unfold vp;omega
def z6y(l:List Pc)(hn:∀x∈l,nb x)(hl:l.length<=300000)(hb:∃p∈l,¬vp p):(jc [] l []).1=false:=by
 cases h:(jc [] l []).1
 ·rfl
 ·obtain⟨p,hp,hq⟩:=hb;have:=z6x l l [] [] rfl h (by simp) p hp
  refine absurd (z6j (kg p.1 l) (fun x hx=>hn x (List.mem_filter.1 hx).1) ?_ this p (List.mem_filter.2 ⟨hp,zfx _⟩)) hq
  have:=List.length_filter_le (fun x:Pc=>lk x.1 p.1) l
  unfold kg;omega
def y9(s:Bs):Option eq:=match sr ic s with|none=>none|some m=>if(jc [] m.2.2 []).1=true then some (m.1,(m.2.1,(jc [] m.2.2 []).2)) else none
def q4p{f:Bs->Bs->Option Pc}{s:Bs}{m:Bs×Bs×List Pc}(h:sr f s=some m):∃c,ko f (s.length+1) [] c=some m.2.2/\c.length+m.1.length+m.2.1.length<=s.length:=by
 have l1:=vq tk s;have l2:=zi 47 (c8 tk s).2;have l3:=vq tk (dp 47 (c8 tk s).2).2;unfold sr at h;simp only at h;split at h
 ·cases h
 ·cases hp:ko f (s.length+1) [] (c8 tk (dp 47 (c8 tk s).2).2).2 with
  |none=>rw[hp]at h;cases h
  |some l=>
   rw[hp]at h;cases h;exact⟨_,hp,by simp only;omega⟩
def zg2{s:Bs}{m:Bs×Bs×List Pc}(h:sr ic s=some m):ci m.2.2<=s.length/\∀p∈m.2.2,nb p:=by
 obtain⟨c,h1,h2⟩:=q4p h;obtain⟨g1,g2⟩:=zhn _ _ _ _ h1;exact⟨by simp[ci]at g1 ⊢;omega,g2 (by simp)⟩
def zg1(l:List Pc)(hz:ci l<=300000):∀(aa ab:List Pc)(out:List cr),l=ab++aa->out.length<=ab.length->(∀x∈out,x.1.length<=4000000/\x.2.length<=4000000)->pl (jc ab aa out).2:=by
 have hll:=qec l;intro aa
 induction aa with
 |nil=>intro ab out hl ho hs;rw[hl]at hll;simp at hll;exact⟨by rw[jc];simp only;rw[hl]at hz;simp at hz;omega,hs⟩|cons p aa ih=>
  intro ab out hl ho hs;rw[jc];have hpl:=qtp (show p∈l by rw[hl];simp)
  split
  ·exact ih (ab++[p]) out (by rw[hl];simp) (by simp;omega) hs
  ·rw[← hl]
   cases hj:qdl (kg p.1 l) with
   |none=>exact⟨by simp,by simp⟩|some v=>
    refine ih (ab++[p]) _ (by rw[hl];simp) (by simp;omega) (fun x hx => ?_)
    rcases List.mem_append.1 hx with g|g
    ·exact hs x g
    ·rw[List.mem_singleton.1 g];refine⟨by simp only;omega,?_⟩
     simp only;have hzf:=q6m (fun x=>lk x.1 p.1) l
     have hN:kg p.1 l=l.filter fun x=>lk x.1 p.1:=rfl
     rw[hN]at hj;generalize l.filter (fun x=>lk x.1 p.1)=A at hj hzf
     cases A with
     |nil=>cases hj
     |cons a A=>
      rw[q3c]at hj;split at hj
      ·split at hj
       ·cases hj
        have:=qtp (qH (a:=a) (l:=A));omega
       ·cases hj
      ·cases hL:lm (kp (a::A)) 0 [] with
       |none=>rw[hL]at hj;cases hj
       |some w=>
        rw[hL]at hj;cases hj;have:=zkr w.length false w;have hw:w.length<=ci (kp (a::A)):=by
         have hnum:=q3i _ _ _ _ hL;rw[q3j _ _ _ hnum]at hL;cases hL
         generalize kp (a::A)=q;clear hnum
         induction q with
         |nil=>simp|cons y q ih2=>
          have:=q6s y;simp only[List.nil_append]at ih2 ⊢;rw[List.flatMap_cons,qM,qeb];omega
        have hq:ci (kp (a::A))<=ci (a::A):=by
         unfold kp
         cases ht:nd (a::A) with
         |none=>simp[ci]|some q=>
          have h1:=(q6b q).1.map (·.1);simp only;rw[q6n h1]
          have e:q.map (·.1)=a::A:=by
           clear h1 hL hzf hw this;generalize a::A=B at ht
           induction B generalizing q with
           |nil=>cases ht;rfl
           |cons b B ih3=>
            rw[nd]at ht;split at ht
            ·cases hB:nd B with
             |none=>rw[hB]at ht;cases ht
             |some r=>rw[hB]at ht;cases ht;simp[ih3 r hB]
            ·cases ht
          rw[e];exact wF _
        show(vu [239,191,189] w.length false w).length<=4000000;omega
def q3s{s:Bs}{m:eq}(h:y9 s=some m)(hs:s.length<=300000):q9 m:=by
 unfold y9 at h
 cases hp:sr ic s with
 |none=>rw[hp]at h;cases h
 |some x=>
  rw[hp]at h;simp only at h;split at h
  ·cases h
   obtain⟨c,_,h2⟩:=q4p hp;obtain⟨h3,_⟩:=zg2 hp;exact⟨by simp only;omega,by simp only;omega,zg1 x.2.2 (by omega) x.2.2 [] [] rfl (by simp) (by simp)⟩
  ·cases h
def z6n(fu:Nat)(hfu:90000000<=fu)(s:Bs)(h:s.length<=300000):qwu fu s=some (match y9 s with|some m=>(m,true)|none=>bad):=by
 rw[z7n fu hfu s h];unfold y9;have hR:=fun c=>z67 (s.length+1) [] c (by simp)
 unfold sr;simp only;by_cases hc:(c8 tk s).1=[]\/(dp 47 (c8 tk s).2).1=false\/(c8 tk (dp 47 (c8 tk s).2).2).1=[]
 ·rw[qX hc,qX hc]
 ·rw[qW hc,qW hc];obtain⟨r1,r2,r3⟩:=hR (c8 tk (dp 47 (c8 tk s).2).2).2
  cases hp:ko ic (s.length+1) [] (c8 tk (dp 47 (c8 tk s).2).2).2 with
  |none=>rw[r3 hp];rfl|some l=>
   simp only[wQ];have hsz:ci l<=s.length/\∀p∈l,nb p:=zg2 (s:=s) (m:=((c8 tk s).1,(c8 tk (dp 47 (c8 tk s).2).2).1,l)) (by unfold sr;simp only;rw[qW hc,hp];rfl)
   have hll:=qec l;by_cases hall:∀p∈l,vp p
   ·rw[r1 l hp hall];simp only[wQ];have:=z7l fu hfu l (by omega) hsz.2 [] [] (c8 tk s).1 (c8 tk (dp 47 (c8 tk s).2).2).1 fu [] l [] rfl (by omega) (by simp)
    rw[show(([]:List Pc).length:Int)=0 from rfl]at this
    rw[this];cases (jc [] l []).1<;>rfl
   ·have hb:∃p∈l,¬vp p:=by
     apply Classical.byContradiction;intro hq;exact hall (fun p hp2=>Classical.byContradiction fun hq2=>hq ⟨p,hp2,hq2⟩)
    rw[r2 l hp hb,z6y l hsz.2 (by omega) hb];rfl
def ot(s:Bs):Option eq:=if 4000<s.length then none else match y9 s with|none=>none|some m=>if(gm m).1≠0 then none else some m
def q3o(fu:Nat)(hfu:90000000<=fu)(s:Bs)(h:s.length<=4000000):∃R,ws fu s=some R/\match ot s with
  |some m=>R = .inr (m.1,(m.2.1,(0,(0,m.2.2))))|none=>∃f:Int×Int,R = .inl ([],([],f))/\f.1≠0:=by
 unfold ws ot;by_cases h4:4000<s.length
 ·rw[am (by omega),qX h4];exact⟨_,rfl,_,rfl,by decide⟩
 rw[ay (by omega),qW h4]
 obtain⟨R,g1,g2⟩:=zgb fu hfu (fun l=>jc [] l []) (fun l hl hn=>zgz fu hfu l hl hn) s (by omega)
 rw[g1,qB];have hfail:ux R->∃R',(a7 R (fun a3=>bif !a3.2.2 then(bt (11:Int) (-5:Int)).bind fun x5=>some (.inl (([]:Bs),(([]:Bs),x5))) else(ph fu (a3.1,(a3.2.1,[]))).bind fun x6=>(ef x6).bind fun x7=>bif x7 then(bt x6.1 (-6:Int)).bind fun x8=>some (.inl (([]:Bs),(([]:Bs),x8))) else(cq).bind fun x9=>some (.inl (a3.1,(a3.2.1,x9)))) (fun b4=>bif !b4.2.2.1 then(bt (11:Int) (-5:Int)).bind fun x10=>some (.inl (([]:Bs),(([]:Bs),x10))) else(ph fu (b4.1,(b4.2.1,b4.2.2.2))).bind fun x11=>(ef x11).bind fun x12=>bif x12 then(bt x11.1 (-6:Int)).bind fun o7=>some (.inl (([]:Bs),(([]:Bs),o7))) else(cq).bind fun x14=>some (.inr (b4.1,(b4.2.1,(x14.1,(x14.2,b4.2.2.2)))))):Option qzk)=some R'/\∃f:Int×Int,R' = .inl ([],([],f))/\f.1≠0:=by
  intro hf
  cases R with|inl x=>unfold ux at hf;simp only at hf;simp only[a7,hf];exact⟨_,rfl,_,rfl,by decide⟩|inr x=>unfold ux at hf;simp only at hf;simp only[a7,hf];exact⟨_,rfl,_,rfl,by decide⟩
 unfold y9
 cases hp:sr ic s with
 |none=>rw[hp]at g2;exact hfail g2|some m=>
  rw[hp]at g2;simp only at g2 ⊢;by_cases ht:(jc [] m.2.2 []).1=true
  ·rw[qX ht]at g2;subst g2;have hsz:=q3s (s:=s) (m:=(m.1,(m.2.1,(jc [] m.2.2 []).2))) (by unfold y9;rw[hp];simp only;rw[qX ht]) (by omega)
   simp only[a7,qX ht];rw[dm,qsh fu hfu _ hsz,qB,p8,qB,mf];by_cases h0:(gm (m.1,(m.2.1,(jc [] m.2.2 []).2))).1≠0
   ·rw[qX h0,qX h0];exact⟨_,rfl,_,rfl,h0⟩
   ·rw[qW h0,qW h0];exact⟨_,rfl,rfl⟩
  ·rw[qW ht]at g2 ⊢;exact hfail g2
def qsx{s:Bs}{m:eq}(h:ot s=some m):q9 m/\(gm m).1=0:=by
 unfold ot at h;split at h
 ·cases h
 ·rename_i h4
  cases hm:y9 s with
  |none=>rw[hm]at h;cases h
  |some x=>
   rw[hm]at h;simp only at h;split at h
   ·cases h
   ·rename_i h0;cases h
    exact⟨q3s hm (by omega),Classical.byContradiction h0⟩
open Go.Lib (decDigits itoa validD)
def dgH(c:UInt8):UInt8:=(lz (ne c (min (4:Int).toNat 8))).getD 0
def dgL(c:UInt8):UInt8:=(lz c).getD 0
def zdu:∀n:_root_.Fin 256,lz (ne (UInt8.ofNat n.val) (min (4:Int).toNat 8))=some (dgH (UInt8.ofNat n.val))/\lz (UInt8.ofNat n.val)=some (dgL (UInt8.ofNat n.val)):=by decide +kernel
def two(c:UInt8):Bs:=[dgH c,dgL c]
def q61(c:UInt8):(two c).length=2:=rfl
def zdv(c:UInt8):lz (ne c (min (4:Int).toNat 8))=some (dgH c)/\lz c=some (dgL c)/\[dgH c,dgL c]=two c:=
 have h:=lf (fun c=>lz (ne c (min (4:Int).toNat 8))=some (dgH c)/\lz c=some (dgL c)) zdu c
 ⟨h.1,h.2,rfl⟩
def q60:∀n:_root_.Fin 256,qe5 (UInt8.ofNat n.val)=some (two (UInt8.ofNat n.val)):=by decide +kernel
def ku(c:UInt8):Bs:=if tk c=true then[c] else 37::two c
def q67(c:UInt8):1<=(ku c).length/\(ku c).length<=3:=by
 unfold ku;split
 ·simp
 ·rw[qL,q61];omega
def gp(cur:Bs):Bs->List Bs|[]=>[cur]|c::t=>if cur.length+(ku c).length<=60 then gp (cur++ku c) t else cur::gp (ku c) t
def qjd:∀(t cur:Bs),(gp cur t).length<=t.length+1/\1<=(gp cur t).length
 |[],_=>by simp[gp]|c::t,cur=>by
  rw[gp];split
  ·have:=qjd t (cur++ku c);simp only[qL];omega
  ·have:=qjd t (ku c);simp only[qL];omega
def qje:∀(t cur:Bs),cur.length<=60->∀x∈gp cur t,x.length<=60
 |[],cur,h,x,hx=>by rw[gp,List.mem_singleton]at hx;rw[hx];exact h|c::t,cur,h,x,hx=>by
  have hu:=q67 c;rw[gp]at hx;split at hx
  ·exact qje t _ (by rw[qM];omega) x hx
  ·rcases List.mem_cons.1 hx with e|e
   ·rw[e];exact h
   ·exact qje t _ (by omega) x e
def qf(nm:Bs):Nat->List Bs->Bs|_,[]=>[]|n,p::ps=>(((((([59,32]:Bs)++nm)++([42]:Bs))++decDigits n)++([42,61]:Bs))++p)++qf nm (n+1) ps
def q4a(nm:Bs)(hn:nm.length<=1000):∀(ps:List Bs)(n:Nat),n+ps.length<=100000000->(∀x∈ps,x.length<=60)->(qf nm n ps).length<=ps.length*1200
 |[],_,_,_=>by simp[qf]|p::ps,n,h,hs=>by
  simp only[qL]at h;have h1:=q4a nm hn ps (n+1) (by omega) (fun x hx=>hs x (qE _ hx))
  have h2:=hs p qH;have h3:=q1s 9 n (by omega) (by omega)
  rw[qf];simp only[qM,qL,qZ];omega
def zg8(fu n:Nat):∀(ab aa cur:Bs)(done:List Bs),aa.length<n->ab.length+aa.length<1000000->done.length<=ab.length->cur.length<=60 ->
  w3 fu n (ab++aa) ((ab.length+aa.length:Nat):Int) (ab.length:Int) (done++[cur])=some (done++gp cur aa):=by
 have hrm:=qi
 induction n with
 |zero=>intro ab aa cur done h;omega|succ n ih=>
  intro ab aa cur done h hb hd hc;rw[w3,qno]
  cases aa with
  |nil=>rw[ay (by simp)];rfl|cons c t=>
   simp only[qL]at h hb;have hu:=q67 c;have e:(ab.length+(c::t).length:Nat)=ab.length+1+t.length:=by simp only[qL];omega
   have p1:qbe fu (w3 fu n) (ab++c::t) (ku c) ((ab.length+(c::t).length:Nat):Int) (ab.length:Int) (done++[cur])=some (done++gp cur (c::t)):=by
    have hl:(((done++[cur]).length:Nat):Int)-1=(done.length:Int):=by simp
    rw[qbe,hl,ee (by omega) (by omega),am (by simp),qc9,qB,qj6 _ _ (by omega),gp,bj _ (by omega),e]
    have st:=fun cur' done'(h1:done'.length<=ab.length+1)(h2:cur'.length<=60)=>ih (ab++[c]) t cur' done' (by omega) (by simp;omega) (by simpa using h1) h2
    simp only[qM,qL,qZ,qS,wM,wO]at st;by_cases h60:cur.length+(ku c).length<=60
    ·rw[am (by omega),qX h60,am (by simp),qB,am (by simp only[bf];omega),am (by simp),qB,qtg]
     exact st (cur++ku c) done (by omega) (by rw[qM];omega)
    ·rw[ay (by omega),qW h60,am (by simp only[qM,qL,qZ];omega)]
     have:=st (ku c) (done++[cur]) (by simp;omega) (by omega)
     refine this.trans ?_;simp
   rw[am (by simp only[qL];omega),bj _ (by omega),am (by rw[ja];omega),cz,qB,qeg,qB,zi2]
   rw[ku]at p1;obtain⟨d1,d2,d3⟩:=zdv c;cases hk:tk c
   ·rw[fc,qB,d1,qB,qB,d2,qB];rw[hk,qW (by simp),← d3]at p1
    exact p1
   ·rw[dm];rw[hk,qX rfl]at p1;exact p1
def qg:Bs:=[117,116,102,56,39,39]
def zgc(fu:Nat)(hfu:90000000<=fu)(v:Bs)(h:v.length<=500000):qfx fu v=some (gp qg v):=by
 have:=zg8 fu fu [] v qg [] (by omega) (by simp;omega) (by simp) (by decide)
 simpa [qfx,qg] using this
def ou(c:UInt8):Bool:=decide (32<=c)&&decide (c<=126)
def zhl(c:UInt8):qa7 c=some (ou c):=by unfold qa7 ou;by_cases h:(32:UInt8)<=c<;>simp[h]
def zbe(fu:Nat)(s:Bs)(h:s.length<fu)(hb:s.length<9223372036854775807):qfb fu s=some (s.all ou):=by
 have e:∀n,qaq fu n=uo qa7 n:=by
  intro n;induction n with|zero=>rfl|succ n ih=>rw[qaq,ih];funext a b c;rfl
 unfold qfb;rw[e];exact qqe _ _ zhl _ _ h hb
def quo(s:Bs):Bs:=d5 92 34 [92,92] [92,34] s
def q43(s:Bs):(quo s).length<=2*s.length:=by
 unfold quo;rw[qia (by decide)]
 have h1:=List.count_le_length (a:=(92:UInt8)) (l:=s);unfold gh;have:List.count 92 s+List.count 34 s<=s.length:=by
  induction s with
  |nil=>simp|cons c s ih=>
   have h1:=List.count_le_length (a:=(92:UInt8)) (l:=s);have:=ih h1;simp only[List.count_cons,qL];by_cases e:c=92
   ·subst e;simp;omega
   ·have:(c==92)=false:=by simpa using e
    rw[this];simp only[wJ,if_false];split<;>omega
 omega
def ss(p:cr):Bs:=if fm p.2=true then((([59,32]:Bs)++p.1)++([61]:Bs))++p.2
 else if p.2.length<=60/\p.2.all ou=true then((((([59,32]:Bs)++p.1)++([61,34]:Bs))++quo p.2)++([34]:Bs))
 else qf p.1 0 (gp qg p.2)
def zgw(fu n:Nat)(z:cr)(hz:z.1.length<=1000):∀(ab aa:List Bs)(out:Bs),aa.length<n->ab.length+aa.length<1000000->out.length<=ab.length*1200->(∀x∈aa,x.length<=60) ->
  qa8 fu n out ((ab.length+aa.length:Nat):Int) (ab.length:Int) z (ab++aa)=some (out++qf z.1 ab.length aa):=by
 induction n with
 |zero=>intro ab aa out h;omega|succ n ih=>
  intro ab aa out h hb ho hs;rw[qa8,qnh]
  cases aa with
  |nil=>rw[ay (by simp)];simp[qf]|cons p t=>
   simp only[qL]at h hb;have hp:=hs p qH;have hd:=q1s 9 ab.length (by omega) (by omega)
   rw[am (by simp only[qL];omega),am (by simp),qc9,qB,am (by simp[bf];omega),am (by simp[bf];omega)]
   have hi:uc (ab.length:Int)=some (decDigits ab.length):=by unfold uc;rw[am (by omega),q3b]
   rw[hi,qB,am (by simp[bf];omega),am (by simp[bf];omega),am (by simp[bf];omega),am (by simp[bf];omega),bj _ (by omega)]
   have st:=ih (ab++[p]) t (out++((((((([59,32]:Bs)++z.1)++([42]:Bs))++decDigits ab.length)++([42,61]:Bs))++p))) (by omega) (by simp;omega) (by simp only[qM,qL,qZ];omega) (fun x hx=>hs x (qE _ hx))
   simp only[qM,qL,qZ,wO]at st;rw[show(ab.length+(p::t).length:Nat)=ab.length+1+t.length by simp only[qL];omega]
   rw[show(ab++[p])++t=ab++p::t by simp]at st
   refine st.trans ?_;rw[qf,qS]
def zgy(fu:Nat)(hfu:90000000<=fu)(p:cr)(h1:p.1.length<=1000)(h2:p.2.length<=100000):qfu fu p=some (ss p):=by
 unfold qfu ss;rw[qjz fu _ (by omega) (by omega),qB]
 cases ht:fm p.2
 ·rw[bi rfl,qW (by simp)]
  have hno:wv fu false p=some (qf p.1 0 (gp qg p.2)):=by
   rw[wv,bi rfl,qni,zgc fu hfu _ (by omega),qB]
   have hl:=qjd p.2 qg;have:=zgw fu fu p h1 [] (gp qg p.2) [] (by omega) (by simp;omega) (by simp) (qje _ _ (by decide))
   simpa using this
  by_cases h60:p.2.length<=60
  ·rw[am (by omega),zbe fu _ (by omega) (by omega),qB]
   cases ha:p.2.all ou
   ·rw[hno,qW (by simp)]
   ·rw[qX ⟨h60,rfl⟩,wv,bh rfl,am (by simp[bf];omega),am (by simp[bf];omega)]
    have hq:=q43 p.2;rw[show qon ([([92]:Bs),([92,92]:Bs),([34]:Bs),([92,34]:Bs)]:List Bs)=some (0,0,0,[[92],[92,92],[34],[92,34]]) by rfl,qB]
    have hr:qx p.2 0 0 0 [[92],[92,92],[34],[92,34]]=some (quo p.2):=by
     unfold qx quo;simp only;rw[am (by refine⟨?_,?_,by decide,by omega⟩<;>first|rfl|trivial)]
    rw[hr,qB,am (by simp[bf];omega),am (by simp[bf];omega)]
  ·rw[ay (by omega),hno,qW (by omega)]
 ·rw[bh rfl,qX rfl,am (by simp[bf];omega),am (by simp[bf];omega),am (by simp[bf];omega)]
def zho(p:cr)(h1:p.1.length<=1000)(h2:p.2.length<=100000):(ss p).length<=200000000:=by
 have hq:=q43 p.2;have hl:=qjd p.2 qg;have hn:=q4a p.1 h1 (gp qg p.2) 0 (by omega) (qje _ _ (by decide))
 unfold ss;split
 ·simp;omega
 ·split
  ·simp;omega
  ·omega
def si(m:eq):Bs:=((m.1++([47]:Bs))++m.2.1)++m.2.2.flatMap ss
def SmV(m:eq):Prop:=m.1.length<=1000/\m.2.1.length<=1000/\m.2.2.length<=1000/\∀p∈m.2.2,p.1.length<=1000/\p.2.length<=100000
def q6v{s:Bs}(h:fm s=true):s.length<=60:=by unfold fm at h;simp at h;exact h.1.2
def q4o:∀(l ab:List cr),(vi ab l).1=0->∀p∈l,fm p.1=true/\p.1.length<=20/\p.2.length<=500/\validD p.2=true
 |[],_,_,p,hp=>by cases hp
 |q::l,ab,h,p,hp=>by
  rw[vi]at h;split at h
  ·cases h
  ·split at h
   ·cases h
   ·split at h
    ·cases h
    ·split at h
     ·cases h
     ·rename_i g1 g2 g3 g4;rcases List.mem_cons.1 hp with e|e
      ·subst e;refine⟨?_,by omega,by omega,?_⟩
       ·cases hh:fm p.1
        ·exact absurd (.inl hh) g1
        ·rfl
       ·cases hh:validD p.2
        ·exact absurd hh g4
        ·rfl
      ·exact q4o l _ h p e
def zf3{m:eq}(h:(gm m).1=0):fm m.1=true/\fm m.2.1=true/\m.2.2.length<=60/\∀p∈m.2.2,fm p.1=true/\p.1.length<=20/\p.2.length<=500/\validD p.2=true:=by
 unfold gm at h;split at h
 ·cases h
 ·split at h
  ·cases h
  ·rename_i g1 g2;refine⟨?_,?_,by omega,q4o _ _ h⟩
   ·cases hh:fm m.1
    ·exact absurd (.inl hh) g1
    ·rfl
   ·cases hh:fm m.2.1
    ·exact absurd (.inr hh) g1
    ·rfl
def qse{m:eq}(h:(gm m).1=0):SmV m:=by
 obtain⟨h1,h2,h3,h4⟩:=zf3 h;have:=q6v h1;have:=q6v h2;exact⟨by omega,by omega,by omega,fun p hp=>by have:=h4 p hp;omega⟩
def SmV.smD{m:eq}(h:SmV m):q9 m:=⟨by have:=h.1;omega,by have:=h.2.1;omega,by have:=h.2.2.1;omega,fun x hx=>by have:=h.2.2.2 x hx;omega⟩
def zhk(fu n:Nat)(hfu:90000000<=fu)(z:Int×Int):∀(ab aa:List cr)(out:Bs),aa.length<n->ab.length+aa.length<=1000->(∀p∈aa,p.1.length<=1000/\p.2.length<=100000)->out.length<=3000+ab.length*200000000 ->
  qa4 fu n out (ab++aa) ((ab.length+aa.length:Nat):Int) (ab.length:Int) z=some (if 4000<(out++aa.flatMap ss).length then([],(1,-4)) else(out++aa.flatMap ss,(0,0))):=by
 induction n with
 |zero=>intro ab aa out h;omega|succ n ih=>
  intro ab aa out h hb hs ho;rw[qa4,qnc]
  cases aa with
  |nil=>
   rw[ay (by simp)]
   simp only[List.flatMap_nil,List.append_nil];by_cases h4:4000<out.length
   ·rw[am (by omega),qX h4,mw];rfl
   ·rw[ay (by omega),qW h4,zf8];rfl
  |cons p t=>
   simp only[qL]at h hb;have hp:=hs p qH;have hpl:=zho p hp.1 hp.2;rw[am (by simp only[qL];omega),cz,qB,zgy fu hfu p hp.1 hp.2,qB,am (by simp only[bf];omega),bj _ (by omega)]
   have st:=ih (ab++[p]) t (out++ss p) (by omega) (by simp;omega) (fun x hx=>hs x (qE _ hx)) (by simp;omega)
   simp only[qM,qL,qZ,wO]at st;rw[show(ab++[p])++t=ab++p::t by simp]at st
   rw[show(ab.length+(p::t).length:Nat)=ab.length+1+t.length by simp only[qL];omega]
   refine st.trans ?_;simp only[List.flatMap_cons,qS,qM,Nat.add_assoc]
def zhj(fu:Nat)(hfu:90000000<=fu)(m:eq)(hs:q9 m):qft fu m=some (if(gm m).1≠0 then([],gm m) else if 4000<(si m).length then([],(1,-4)) else(si m,(0,0))):=by
 unfold qft;rw[qsh fu hfu m hs,qB,p8,qB,mf];by_cases h:(gm m).1≠0
 ·rw[qX h,qX h]
 ·rw[qW h,qW h];obtain⟨g1,g2,g3,g4⟩:=qse (m:=m) (by omega)
  rw[am (by simp[bf];omega),am (by simp[bf];omega)]
  have:=zhk fu fu hfu (0,0) [] m.2.2 ((m.1++([47]:Bs))++m.2.1) (by omega) (by simp;omega) g4 (by simp;omega)
  simpa [si] using this
end Go.Sym
namespace Go.Sym
abbrev ce:Bs:=[67,111,110,116,101,110,116,45,84,121,112,101]
abbrev ctn:Bs:=[99,111,110,116,101,110,116,45,116,121,112,101]
abbrev mpN:Bs:=[109,117,108,116,105,112,97,114,116]
abbrev me:Bs:=[98,111,117,110,100,97,114,121]
def z8g(l:List bm):dv l ctn=dv l ce:=rfl
def ji(l:List bm):Option eq:=match dv l ce with|[v]=>ot v|_=>none
def tyP(fu:Nat)(k:Int)(v:Bs):Option qg2:=(ws fu v).bind fun x4=>a7 x4 (fun a5=>(ef a5.2.2).bind fun x7=>some (.inl (a5.1,(a5.2.1,(k,!x7))))) (fun b6=>(ef (b6.2.2.1,b6.2.2.2.1)).bind fun x8=>some (.inr (b6.1,(b6.2.1,(k,(!x8,b6.2.2.2.2))))))
def zkb(fu:Nat)(hfu:90000000<=fu)(k:Int)(v:Bs)(h:v.length<=4000000):tyP fu k v=some (match ot v with|some m => .inr (m.1,(m.2.1,(k,(true,m.2.2))))|none => .inl ([],([],(k,false)))):=by
 unfold tyP;obtain⟨R,h1,h2⟩:=q3o fu hfu v h;rw[h1,qB]
 cases hp:ot v with
 |none=>
  rw[hp]at h2;obtain⟨f,rfl,hf⟩:=h2;simp only[a7,p8,qB];have:(f.1 != 0)=true:=by simpa using hf
  rw[this];rfl
 |some m=>rw[hp]at h2;simp only at h2;subst h2;rfl
section typ
variable(fu:Nat)(hfu:90000000<=fu)(l:List bm)(hs:∀x∈l,x.1.length<=4000000/\x.2.length<=4000000)(hl:l.length<=4000000)
include hfu hs hl
def zke(k:Nat)(y:bm)(hy:ap l (k:Int)=some y)(n:Nat):∀(ab aa:List bm),l=ab++aa->aa.length<n ->
  qw fu n l (k:Int) (ab++aa) ((ab.length+aa.length:Nat):Int) (ab.length:Int) [] []=if dv aa ce=[] then tyP fu (k:Int) y.2 else some (.inl ([],([],(0,false)))):=by
 induction n with
 |zero=>intro ab aa _ h;omega|succ n ih=>
  intro ab aa hp h;have ac:l.length=ab.length+aa.length:=by rw[hp];simp
  rw[qw,qf2]
  cases aa with
  |nil=>rw[ay (by simp),ay (by omega),hy,qB,show dv [] ce=[] from rfl,qX rfl];rfl|cons x t=>
   simp only[qL]at h ac;have hx:=hs x (by rw[hp];simp)
   have st:=ih (ab++[x]) t (by rw[hp];simp) (by omega)
   simp only[qM,qL,qZ,qS,wM,wO]at st;rw[am (by simp only[qL];omega),cz,qB,ig fu hfu _ _ hx.1 (by simp),qB,tc]
   cases hk:lk x.1 ce
   ·rw[bi rfl,w7,bj _ (by omega),qW (show ¬((x.1.map lo==ce.map lo)=true) by show ¬lk x.1 ce=true;rw[hk];simp),show(ab.length+(x::t).length:Nat)=ab.length+1+t.length by simp only[qL];omega]
    exact st
   ·rw[bh rfl,am (by omega),qX (show(x.1.map lo==ce.map lo)=true from hk),qW (by simp)]
def zkd(n:Nat):∀(ab aa:List bm),l=ab++aa->aa.length<n ->
  (dv aa ce=[]->qw fu n l (-1) (ab++aa) ((ab.length+aa.length:Nat):Int) (ab.length:Int) [] []=some (.inl ([],([],(0,false))))) /\
  (∀u x w,aa=u++x::w->dv u ce=[]->lk x.1 ce=true->qw fu n l (-1) (ab++aa) ((ab.length+aa.length:Nat):Int) (ab.length:Int) [] []=if dv w ce=[] then tyP fu ((ab.length+u.length:Nat):Int) x.2 else some (.inl ([],([],(0,false))))):=by
 induction n with
 |zero=>intro ab aa _ h;omega|succ n ih=>
  intro ab aa hp h;have ac:l.length=ab.length+aa.length:=by rw[hp];simp
  rw[qw,qf2]
  cases aa with
  |nil=>exact⟨fun _=>by rw[ay (by simp),am (by omega)],fun u x w e=>by simp at e⟩
  |cons y t=>
   simp only[qL]at h ac;have hy:=hs y (by rw[hp];simp)
   obtain⟨s1,s2⟩:=ih (ab++[y]) t (by rw[hp];simp) (by omega)
   simp only[qM,qL,qZ,qS,wM,wO]at s1 s2;rw[am (by simp only[qL];omega),cz,qB,ig fu hfu _ _ hy.1 (by simp),qB,tc,show(ab.length+(y::t).length:Nat)=ab.length+1+t.length by simp only[qL];omega]
   cases hk:lk y.1 ce
   ·rw[bi rfl,w7,bj _ (by omega),qW (show ¬((y.1.map lo==ce.map lo)=true) by show ¬lk y.1 ce=true;rw[hk];simp)]
    refine⟨s1,fun u x w e hu hx => ?_⟩
    cases u with
    |nil=>rw[List.nil_append,List.cons.injEq]at e;rw[e.1,hx]at hk;cases hk
    |cons z u=>
     rw[wK,List.cons.injEq]at e;obtain⟨rfl,e⟩:=e;rw[tc,qW (show ¬((y.1.map lo==ce.map lo)=true) by show ¬lk y.1 ce=true;rw[hk];simp)]at hu
     have:=s2 u x w e hu hx;rw[show(ab.length+(y::u).length:Nat)=ab.length+1+u.length by simp only[qL];omega]
     exact this
   ·rw[bh rfl,ay (by omega),w7,bj _ (by omega),qX (show(y.1.map lo==ce.map lo)=true from hk)]
    refine⟨fun e=>by simp at e,fun u x w e hu hx => ?_⟩
    cases u with
    |nil=>
     rw[List.nil_append,List.cons.injEq]at e;obtain⟨rfl,rfl⟩:=e;have:=zke fu hfu l hs hl ab.length y (by rw[hp];exact cz ab y t) n (ab++[y]) t (by rw[hp];simp) (by omega)
     simp only[qM,qL,qZ,qS,wM,wO]at this;exact this
    |cons z u=>
     rw[wK,List.cons.injEq]at e;obtain⟨rfl,e⟩:=e;rw[tc,qX (show(y.1.map lo==ce.map lo)=true from hk)]at hu
     simp at hu
def qt2:∃R,w6 fu l=some R/\match ji l with
  |some m=>∃ab x aa,l=ab++x::aa/\dv l ce=[x.2]/\lk x.1 ce=true/\dv ab ce=[]/\dv aa ce=[]/\R = .inr (m.1,(m.2.1,((ab.length:Int),(true,m.2.2))))|none=>∃k,R = .inl ([],([],(k,false))):=by
 obtain⟨h1,h2⟩:=zkd fu hfu l hs hl fu [] l rfl (by omega)
 simp only[List.nil_append,qZ,wO]at h1 h2;unfold w6;rw[show((0:Nat):Int)=0 from rfl]at h1 h2
 have hd:dv l ce=[]\/∃u x w,l=u++x::w/\dv u ce=[]/\lk x.1 ce=true:=by
  clear h1 h2 hs hl
  induction l with
  |nil=>exact .inl rfl|cons y t ih=>
   rw[tc];cases hk:lk y.1 ce
   ·rw[qW (show ¬((y.1.map lo==ce.map lo)=true) by show ¬lk y.1 ce=true;rw[hk];simp)]
    rcases ih with g|⟨u,x,w,e,g1,g2⟩
    ·exact .inl g
    ·exact .inr ⟨y::u,x,w,by rw[e];rfl,by rw[tc,qW (show ¬((y.1.map lo==ce.map lo)=true) by show ¬lk y.1 ce=true;rw[hk];simp)];exact g1,g2⟩
   ·exact .inr ⟨[],y,t,rfl,rfl,hk⟩
 have vapp:∀(u w:List bm)(x:bm),lk x.1 ce=true->dv (u++x::w) ce=dv u ce++x.2::dv w ce:=fun u w x hx=>by
  unfold dv;rw[List.filter_append,List.filter_cons,qX (show(x.1.map lo==ce.map lo)=true from hx),List.map_append];rfl
 rcases hd with g|⟨u,x,w,e,g1,g2⟩
 ·refine⟨_,h1 g,?_⟩;unfold ji;rw[g];exact⟨0,rfl⟩
 ·have hr:=h2 u x w e g1 g2;have hv:=vapp u w x g2;rw[← e,g1,List.nil_append]at hv;by_cases hw:dv w ce=[]
  ·rw[qX hw,zkb fu hfu _ _ (hs x (by rw[e];simp)).2]at hr
   refine⟨_,hr,?_⟩;rw[hw]at hv;unfold ji;rw[hv];simp only
   cases hp:ot x.2 with|none=>exact⟨_,rfl⟩|some m=>exact⟨u,x,w,e,rfl,g2,g1,hw,rfl⟩
  ·rw[qW hw]at hr;refine⟨_,hr,?_⟩;unfold ji;rw[hv]
   cases hh:dv w ce with|nil=>exact absurd hh hw|cons=>exact⟨0,rfl⟩
end typ
def q66{l:List bm}{m:eq}(h:ji l=some m):(gm m).1=0:=by
 unfold ji at h;split at h
 ·exact(qsx h).2
 ·cases h
def z8b(fu:Nat)(hfu:90000000<=fu)(l:List bm)(hs:xl l):qxu fu l=some (match ji l with|some m=>(m,true)|none=>(([],([],[])),false)):=by
 unfold qxu;rw[z8h fu hfu l ctn (by simp) hs,qB,z8g,mf]
 unfold ji
 cases hv:dv l ce with
 |nil=>rw[qX (by simp)];rfl|cons v t=>
  cases t with
  |cons w t=>rw[qX (by simp only[qL];omega)];rfl|nil=>
   rw[qW (by simp),am (by simp),show([v]:List Bs)[(0:Int).toNat]? = some v from rfl,qB,qme]
   simp only;unfold ot;by_cases h4:4000<v.length
   ·rw[am (by omega),qX h4]
   ·rw[ay (by omega),qW h4,qxv,am (by simp),show([v]:List Bs)[(0:Int).toNat]? = some v from rfl,qB,z6n fu hfu v (by omega),qB]
    cases hm:y9 v with
    |none=>rfl|some m=>
     simp only;rw[dm,z7e fu hfu m (q3s hm (by omega)),qB,mf]
     by_cases h0:(gm m).1≠0
     ·rw[qX h0,qX h0]
     ·rw[qW h0,qW h0]
def bOk(b:Bs):Bool := !b.isEmpty&&(decide (b.length<=60)&&(b.all ou && !(b.getLast? == some 32)))
def bnd(l:List bm):Option Bs:=match ji l with|some m=>if lk m.1 mpN=true/\(d7 m.2.2 me).2=true/\bOk (d7 m.2.2 me).1=true then some (d7 m.2.2 me).1 else none|none=>none
def zgx(l:List cr)(nm:Bs)(M:Nat)(h:∀x∈l,x.2.length<=M):(d7 l nm).1.length<=M:=by
 induction l with
 |nil=>simp[d7,par]|cons p l ih=>
  rw[q4n];split
  ·exact h p qH
  ·exact ih (fun x hx=>h x (qE _ hx))
def zg3(c:UInt8):qbn c=some (ou c):=by unfold qbn ou;by_cases h:(32:UInt8)<=c<;>simp[h]
def zbf(fu:Nat)(s:Bs)(h:s.length<fu)(hb:s.length<9223372036854775807):qfc fu s=some (s.all ou):=by
 have e:∀n,qar fu n=uo qbn n:=by
  intro n;induction n with|zero=>rfl|succ n ih=>rw[qar,ih];funext a b c;rfl
 unfold qfc;rw[e];exact qqe _ _ zg3 _ _ h hb
def zes(t:Bs)(hb:t.length<=4000000):qgl t [32]=some (t.getLast? == some 32):=by
 unfold qgl qa2;rw[show(([32]:List UInt8).length:Int)=1 from rfl]
 rcases List.eq_nil_or_concat t with rfl|⟨u,c,rfl⟩
 ·rfl
 ·rw[List.concat_eq_append]at *;simp only[qM,qL,qZ]at hb;rw[mt,ng _ (by omega),am (by omega),am (by omega),qB,List.getLast?_concat]
  have e:List.drop ((u.length:Nat):Int).toNat (u++[c])=[c]:=od u [c];rw[e];congr 1;rw[Bool.eq_iff_iff];simp
def zcq(fu:Nat)(hfu:90000000<=fu)(l:List bm)(hs:∀x∈l,x.1.length<=4000000/\x.2.length<=4000000)(hl:l.length<=4000000):∃R,qf3 fu l=some R/\match bnd l with
  |some b=>R=(b,true)|none=>R.2=false:=by
 obtain⟨R,h1,h2⟩:=qt2 fu hfu l hs hl;unfold qf3 bnd;rw[h1,qB]
 cases ht:ji l with
 |none=>
  rw[ht]at h2;obtain⟨k,rfl⟩:=h2;exact⟨_,rfl,rfl⟩
 |some m=>
  rw[ht]at h2;obtain⟨ab,x,aa,e1,e2,e3,e4,e5,rfl⟩:=h2;have h0:=q66 ht;have hv:=qse h0;simp only[a7];rw[dm,ig fu hfu _ _ (by have:=hv.1;omega) (by simp),qB]
  cases hk:lk m.1 mpN
  ·rw[t6,fc];exact⟨_,rfl,by simp⟩
  ·have hbl:=zgx m.2.2 me 100000 (fun x hx=>(hv.2.2.2 x hx).2)
   rw[t6,dm,qnw,qsg fu hfu (m.1,(m.2.1,m.2.2)) me (by simp) hv.smD,qB,qW (by simpa using h0)]
   simp only;generalize hb:(d7 m.2.2 me).1=b at *;generalize hi:(d7 m.2.2 me).2=i at *;unfold bOk
   cases b with
   |nil=>rw[show(!(([]:Bs)==[]))=false from rfl,bi rfl];cases i<;>exact⟨_,rfl,by simp⟩
   |cons c b=>
    rw[show(!((c::b:Bs)==[]))=true from rfl,bh rfl]
    by_cases h60:(c::b).length<=60
    ·rw[am (by omega),zbf fu _ (by omega) (by omega),qB]
     cases ha:(c::b).all ou
     ·rw[bi rfl];cases i<;>exact⟨_,rfl,by simp[ha]⟩
     ·rw[bh rfl,zes _ (by omega),qB]
      cases i
      ·exact⟨_,rfl,by simp⟩
      ·rw[bh rfl];refine⟨_,rfl,?_⟩;cases hg:((c::b).getLast? == some 32)
       ·rw[qX ⟨by first|rfl|trivial,by first|rfl|trivial,by simp only[List.isEmpty_cons,Bool.not_false,Bool.true_and,Bool.and_true];exact decide_eq_true h60⟩];rfl
       ·rw[qW (by simp)];rfl
    ·rw[ay (by omega)]
     have hnot:¬(decide ((c::b).length<=60)=true):=by simpa using h60
     cases i
     ·exact⟨_,rfl,by simp⟩
     ·refine⟨_,rfl,?_⟩;rw[qW (by
       rintro⟨_,_,g⟩
       rw[qA,qA]at g;exact hnot g.2.1)]
def zcn{l:List bm}{b:Bs}(h:bnd l=some b):1<=b.length/\b.length<=60:=by
 unfold bnd at h;split at h
 ·split at h
  ·rename_i hc;cases h
   have q:=hc.2.2;unfold bOk at q;simp only[qA,Bool.not_eq_true',decide_eq_true_eq]at q;refine⟨?_,q.2.1⟩;generalize (d7 _ me).1=z at *
   cases z with|nil=>simp at q|cons=>simp
  ·cases h
 ·cases h
def q3e(t b:Bs):Int:=if t=([45,45]:Bs)++b then 1 else if t=(([45,45]:Bs)++b)++([45,45]:Bs) then 2 else 0
def mr(line b:Bs):Int:=q3e (dn line) b
def q0m{α:Type}{a b:Bs}{x y:α}:(bif a==b then x else y)=if a=b then x else y:=by
 by_cases h:a=b
 ·rw[bh (by simpa using h),qX h]
 ·rw[bi (by simpa using h),qW h]
def zfo(fu:Nat)(hfu:90000000<=fu)(line b:Bs)(h:line.length<=4000000)(hb:b.length<=1000):qgb fu line b=some (mr line b):=by
 unfold qgb mr q3e;rw[qtw fu line (by omega) (by omega) (by omega),qB,am (by simp[bf];omega),q0m,am (by simp[bf];omega),am (by simp[bf];omega),q0m]
 split
 ·rfl
 ·split<;>rfl
def da:Bs->Bs|[]=>[]|c::t=>if iy c t=true then[] else c::da t
def e7:Bs->Bs|[]=>[]|c::t=>if iy c t=true then t.tail else e7 t
def uv:∀r:Bs,(r=da r++13::10::e7 r/\Lib.index r [13,10]=((da r).length:Int))\/(da r=r/\e7 r=[]/\Lib.index r [13,10] = -1)
 |[] => .inr ⟨rfl,rfl,rfl⟩|c::t=>by
  have hp:([13,10]:Bs).isPrefixOf (c::t)=iy c t:=by
   unfold iy
   cases t with|nil=>simp[List.isPrefixOf]|cons d t=>simp[List.isPrefixOf,zcf]
  rw[da,e7,Lib.index,hp];by_cases hc:iy c t=true
  ·obtain⟨rfl,r',rfl⟩:=q23 hc;rw[qX hc,qX hc,qX hc];exact .inl ⟨rfl,rfl⟩
  ·rw[qW hc,qW hc,qW hc];rcases uv t with⟨h1,h2⟩|⟨h1,h2,h3⟩
   ·refine .inl ⟨by rw[wK,← h1],?_⟩
    rw[h2,qW (by simp)];simp
   ·refine .inr ⟨by rw[h1],h2,?_⟩
    rw[h3];rfl
def q1m(r:Bs):r.take (da r).length=da r:=by
 rcases uv r with⟨h1,_⟩|⟨h1,_,_⟩
 ·have e:r.take (da r).length=(da r++13::10::e7 r).take (da r).length:=by rw[← h1]
  rw[e,List.take_left]
 ·rw[h1];simp
def q4d(r:Bs):e7 r <:+ r:=by
 rcases uv r with⟨h1,_⟩|⟨_,h2,_⟩
 ·exact⟨da r++[13,10],by simp;exact h1.symm⟩
 ·rw[h2];exact List.nil_suffix
def q4c(c:UInt8)(t:Bs):(e7 (c::t)).length<=t.length:=by
 rcases uv (c::t) with⟨h1,_⟩|⟨_,h2,_⟩
 ·have:=congrArg List.length h1;simp only[qM,qL]at this;omega
 ·rw[h2];simp
def q1l(r:Bs):(da r).length<=r.length:=by
 rcases uv r with⟨h1,_⟩|⟨h1,_,_⟩
 ·have:=congrArg List.length h1;simp only[qM,qL]at this;omega
 ·rw[h1];exact wF _
def qq7(s r:Bs):Bs:=s.take (s.length-r.length-2)
def nr(st:Option Bs)(r:Bs)(out:List Bs):List Bs:=match st with|some s=>out++[qq7 s r]|none=>out
def iw(b:Bs):Nat->Bs->Option Bs->List Bs->List Bs
 |0,_,_,out=>out|_+1,[],st,out=>match st with|some s=>out++[s]|none=>out
 |n+1,c::t,st,out=>if mr (da (c::t)) b=0 then iw b n (e7 (c::t)) st out
  else if mr (da (c::t)) b=2 then nr st (c::t) out else iw b n (e7 (c::t)) (some (e7 (c::t))) (nr st (c::t) out)
def jz(body:Bs)(st:Option Bs):Int:=match st with|some s=>pos body s|none => -1
def zf2{body s r:Bs}(hs:s <:+ body)(hr:r <:+ s)(hb:body.length<=4000000):0<=pos body s/\pos body s<=(if af (pos body r-2)>pos body s then af (pos body r-2) else pos body s)/\(if af (pos body r-2)>pos body s then af (pos body r-2) else pos body s)<=(body.length:Int) /\
  List.take ((if af (pos body r-2)>pos body s then af (pos body r-2) else pos body s).toNat-(pos body s).toNat) (List.drop (pos body s).toNat body)=qq7 s r:=by
 have h1:=hs.length_le;have h2:=hr.length_le;rw[qsy hs];unfold qq7 pos;rw[ee (by omega) (by omega)]
 refine⟨by omega,?_,?_,?_⟩
 ·split<;>omega
 ·split<;>omega
 ·congr 1;split<;>omega
def zhg{body r:Bs}(hr:r <:+ body)(hb:body.length<=4000000):(if(body.length:Int)<af (af (pos body r+((da r).length:Int))+2) then(body.length:Int) else af (af (pos body r+((da r).length:Int))+2))=pos body (e7 r):=by
 have h1:=hr.length_le;rcases uv r with⟨h,_⟩|⟨h,h2,_⟩
 ·have:=congrArg List.length h;simp only[qM,qL]at this;unfold pos;rw[qj6 _ _ (by omega),ee (by omega) (by omega)]
  split<;>omega
 ·rw[h2,h,qsz];unfold pos;rw[qj6 _ _ (by omega),ee (by omega) (by omega)]
  split<;>omega
def zde(fu:Nat)(hfu:90000000<=fu)(body b:Bs)(hb:body.length<=4000000)(hbb:b.length<=1000)(r:Bs)(hr:r <:+ body)(st:Option Bs)(hst:∀s,st=some s->s <:+ body/\r <:+ s)(z out:List Bs)(ho:out.length<=4000000) :
  w8 fu (pos body r) (da r) body b (jz body st) z out =
   if mr (da r) b=0 then some (.inl (body,(b,(jz body st,(z,out))))) else if mr (da r) b=2 then some (.inr (body,(b,(jz body st,nr st r out)))) else some (.inl (body,(b,(pos body (e7 r),(z,nr st r out))))):=by
 have hrm:=qi;have hcl:=q1l r;have hrl:=hr.length_le;unfold w8;rw[zfo fu hfu _ b (by omega) hbb,qB,g7]
 by_cases h0:mr (da r) b=0
 ·rw[qX h0,qX h0]
 rw[qW h0,qW h0,zhg hr hb,g7]
 cases st with
 |none=>
  rw[show jz body none = -1 from rfl,ay (by omega)]
  try rw[g7]
  by_cases h2:mr (da r) b=2
  ·rw[qX h2,qX h2];rfl
  ·rw[qW h2,qW h2];rfl
 |some s=>
  obtain⟨g1,g2⟩:=hst s rfl;obtain⟨q1,q2,q3,q4⟩:=zf2 g1 g2 hb;rw[show jz body (some s)=pos body s from rfl,am q1,am ⟨q1,q2,q3⟩,q4,am (by simp;omega)]
  by_cases h2:mr (da r) b=2
  ·rw[qX h2,qX h2];rfl
  ·rw[qW h2,qW h2];rfl
def zba(st:Option Bs)(r:Bs)(out:List Bs):(nr st r out).length<=out.length+1:=by unfold nr;cases st<;>simp
def q19(st:Option Bs)(out:List Bs):List Bs:=match st with|some s=>out++[s]|none=>out
def zdc(fu:Nat)(hfu:90000000<=fu)(body b:Bs)(hb:body.length<=4000000)(hbb:b.length<=1000)(z:List Bs)(n:Nat):∀(r:Bs)(st:Option Bs)(out:List Bs),r <:+ body->(∀s,st=some s->s <:+ body/\r <:+ s)->r.length<n->out.length+r.length<=4000000 ->
  (∃x,t7 fu n (pos body r) body body b (jz body st) z out=some (.inl (body,(body,(b,(x,iw b n r st out)))))) \/
  (∃st' out',t7 fu n (pos body r) body body b (jz body st) z out=some (.inr (body,(body,(b,(jz body st',(z,out'))))))/\iw b n r st out=q19 st' out'/\out'.length<=4000000/\∀s,st'=some s->s <:+ body):=by
 induction n with
 |zero=>intro r st out _ _ h;omega|succ n ih=>
  intro r st out hr hst h ho;rw[t7,qn7]
  cases r with
  |nil=>
   rw[qsz,ay (by omega)]
   exact .inr ⟨st,out,rfl,rfl,by omega,fun s hs=>(hst s hs).1⟩
  |cons c t=>
   simp only[qL]at h ho;have hL:(c::t).length=t.length+1:=rfl;have hrl:=hr.length_le;simp only[qL]at hrl;have hcl:=q1l (c::t);have hnl:=q4c c t;have hge:=q4u body (c::t);have hnx:e7 (c::t) <:+ body:=(q4d _).trans hr;rw[am (zhh hr),am hge,am (by decide),qsy hr]
   have hI:tp (c::t) [13,10]=some (Lib.index (c::t) [13,10]):=by
    unfold tp;rw[am (by refine⟨by simp,by simp only[qL];omega,by simp[maxLen]⟩)]
   have step:∀q:Option qpu,q=((w8 fu (pos body (c::t)) (da (c::t)) body b (jz body st) z out).bind fun x2=>a7 x2 (fun a3=>t7 fu n (pos body (e7 (c::t))) body a3.1 a3.2.1 a3.2.2.1 a3.2.2.2.1 a3.2.2.2.2) (fun b4=>some (.inl (body,b4)))) ->
     (∃x,q=some (.inl (body,(body,(b,(x,iw b (n+1) (c::t) st out))))))\/(∃st' out',q=some (.inr (body,(body,(b,(jz body st',(z,out'))))))/\iw b (n+1) (c::t) st out=q19 st' out'/\out'.length<=4000000/\∀s,st'=some s->s <:+ body):=by
    intro q hq;rw[hq,zde fu hfu body b hb hbb (c::t) hr st hst z out (by omega),iw]
    have hal:=zba st (c::t) out;by_cases h0:mr (da (c::t)) b=0
    ·simp only[qX h0,qB,a7];exact ih (e7 (c::t)) st out hnx (fun s hs=>⟨(hst s hs).1,(q4d _).trans (hst s hs).2⟩) (by omega) (by omega)
    ·simp only[qW h0];by_cases h2:mr (da (c::t)) b=2
     ·simp only[qX h2,qB,a7];exact .inl ⟨_,rfl⟩
     ·simp only[qW h2,qB,a7];exact ih (e7 (c::t)) (some (e7 (c::t))) _ hnx (fun s hs=>by cases hs;exact⟨hnx,List.suffix_refl _⟩) (by omega) (by omega)
   apply step;rw[hI,qB];rcases uv (c::t) with⟨h1,h2⟩|⟨h1,h2,h3⟩
   ·have ac:=congrArg List.length h1;simp only[qM,qL]at ac;have e1:af (pos body (c::t)+((da (c::t)).length:Int))=((body.length-(c::t).length+(da (c::t)).length:Nat):Int):=by unfold pos;rw[qj6 _ _ (by omega)]
    have e2:af (((body.length-(c::t).length+(da (c::t)).length:Nat):Int)+2)=pos body (e7 (c::t)):=by unfold pos;rw[ee (by omega) (by omega)];simp only[qL];omega
    have e3:((body.length-(c::t).length+(da (c::t)).length:Nat):Int).toNat-(pos body (c::t)).toNat=(da (c::t)).length:=by unfold pos;omega
    rw[h2,am (by omega),e1,am (by unfold pos;simp only[qL];omega),e3,q1m,e2]
   ·have e3:(body.length:Int).toNat-(pos body (c::t)).toNat=(da (c::t)).length:=by rw[h1];unfold pos;omega
    rw[h3,ay (by omega),am (by omega),e3,q1m,h2,qsz]
def zdd(b:Bs):∀(n:Nat)(r:Bs)(st:Option Bs)(out:List Bs),r.length<n->iw b n r st out=iw b (r.length+1) r st out:=by
 intro n
 induction n using Nat.strongRecOn with
 |ind n ih=>
  intro r st out h;obtain⟨n,rfl⟩:∃m,n=m+1:=⟨n-1,by omega⟩
  cases r with
  |nil=>rfl|cons c t=>
   simp only[qL]at h ⊢;have hnl:=q4c c t;rw[iw,iw];have e:∀st' out',iw b n (e7 (c::t)) st' out'=iw b (t.length+1) (e7 (c::t)) st' out':=fun st' out'=>by
    rw[ih n (by omega) _ _ _ (by omega)]
    by_cases hq:t.length+1=n
    ·rw[hq];exact(ih n (by omega) _ _ _ (by omega)).symm
    ·exact(ih (t.length+1) (by omega) _ _ _ (by omega)).symm
   rw[e,e]
def qct(body b:Bs):List Bs:=iw b (body.length+1) body none []
def zdf(fu:Nat)(hfu:90000000<=fu)(body b:Bs)(hb:body.length<=4000000)(hbb:b.length<=1000):qf5 fu body b=some (qct body b):=by
 have hrm:=qi;unfold qf5 qn5 qn6 qct;rw[qB];have:=zdc fu hfu body b hb hbb [] fu body none [] (List.suffix_refl _) (by simp) (by omega) (by simpa using hb)
 rw[zhf,show jz body none = -1 from rfl,zdd b fu body none [] (by omega)]at this
 rcases this with⟨x,h⟩|⟨st',out',h1,h2,h3,h4⟩
 ·rw[h];rfl
 ·rw[h1,qB,h2];simp only[a7]
  cases st' with
  |none=>rw[show jz body none = -1 from rfl,ay (by omega)];rfl|some s=>
   have hge:=q4u body s;rw[show jz body (some s)=pos body s from rfl,am hge.1,am hge,am (by simp;omega),qsy (h4 s rfl)];rfl
def z3w(l:List bm)(f:bm->Nat)(hf:∀x,x.1.length+x.2.length+1<=f x):l.length<=(l.map f).sum/\∀x∈l,x.1.length+x.2.length<=(l.map f).sum:=by
 induction l with
 |nil=>exact⟨wF _,fun x h=>by cases h⟩
 |cons y l ih=>
  have hy:=hf y;refine⟨by simp only[qL,List.map_cons,List.sum_cons];omega,fun x hx => ?_⟩
  rw[List.map_cons,List.sum_cons];rcases List.mem_cons.1 hx with rfl|hx
  ·omega
  ·have:=ih.2 x hx;omega
def zwy:∀b:List UInt8,(List.map (Ty.byte.bk:Ty.byte.den->Nat) b).sum=b.length
 |[]=>rfl|c::b=>by
  show 1+(List.map (Ty.byte.bk:Ty.byte.den->Nat) b).sum=b.length+1;rw[zwy b];omega
def qen(x:bm):Nat:=(x.1.length+1)+(x.2.length+1)
def z5m(l:List bm)(b:List UInt8)(h:((l.map qen).sum+1)+(b.length+1)<=1048576):SmM (l,b):=by
 obtain⟨h1,h2⟩:=z3w l qen (fun x=>by unfold qen;omega)
 refine⟨⟨by simp only;omega,fun x hx => ?_⟩,by simp only;omega⟩
 have:=h2 x hx;omega
def z5l(m:List bm×List UInt8)(h:(Ty.prod (.list (.prod .str .str)) (.list .byte)).bk m<=1048576):SmM m:=by
 obtain⟨l,b⟩:=m;have h:((l.map qen).sum+1)+((List.map (Ty.byte.bk:Ty.byte.den->Nat) b).sum+1)<=1048576:=h;rw[zwy]at h;exact z5m l b h
abbrev TP:Type:=Tree (List (Bs×Bs)×Bs)
abbrev τP:Ty := .prod (.list (.prod .str .str)) (.list .byte)
def ep(t:TP):Nat:=(Ty.tree τP).bk t
def zl(x:List (Bs×Bs)×Bs)(l:List TP):ep (.node x l)=τP.bk x+(l.map ep).sum+2:=q6x τP.bk x l
def jh(t:TP):Tree.node t.val t.kids=t:=by cases t;rfl
def zjo(l:List TP)(k:TP)(h:k∈l):ep k<=(l.map ep).sum:=by
 obtain⟨a,b,rfl⟩:=List.append_of_mem h;simp;omega
def qtx{t k:TP}(h:k∈t.kids):ep k+2<=ep t:=by
 cases t with
 |node x l=>
  rw[zl];have:=zjo l k h;omega
def zjn(l:List TP):l.length<=(l.map ep).sum:=by
 induction l with
 |nil=>simp|cons k l ih=>
  have:2<=ep k:=by cases k;rw[zl];omega
  simp only[qL,List.map_cons,List.sum_cons];omega
def qj1(t:TP):t.kids.length+2<=ep t:=by
 cases t with|node x l=>rw[zl];have:=zjn l;show l.length+2<=_;omega
def qty(t:TP):2<=ep t:=by cases t;rw[zl];omega
def z79(t:TP):τP.bk t.val<=ep t:=by cases t;rw[zl];show τP.bk _<=_;simp only[Tree.val];omega
def SmT(x:List (Bs×Bs)×Bs):Prop:=SmM x/\x.1.length<=4000000/\(∀y∈x.1,y.1.length<=4000000/\y.2.length<=4000000)/\x.2.length<=4000000
def z3t(x:List (Bs×Bs)×Bs)(h:τP.bk x<=1048576):SmT x:=by
 refine⟨z5l x h,?_⟩;obtain⟨l,b⟩:=x;have h:((l.map qen).sum+1)+((List.map (Ty.byte.bk:Ty.byte.den->Nat) b).sum+1)<=1048576:=h;rw[zwy]at h;obtain⟨h1,h2⟩:=z3w l qen (fun x=>by unfold qen;omega)
 exact⟨by simp only;omega,fun y hy=>by have:=h2 y hy;omega,by simp only;omega⟩
def qua(l:List bm)(b:Bs):Int:=match ji l with|none=>5|some m=>if 0<b.length\/lk m.1 mpN=false\/(d7 m.2.2 me).2=true\/60<=m.2.2.length\/dv l ce≠[si m]\/2000<(si m).length then 5 else 0
def zkx(fu:Nat)(hfu:90000000<=fu)(t:TP)(hs:SmT t.val):qgc fu t=some (qua t.val.1 t.val.2):=by
 obtain⟨_,h1,h2,h3⟩:=hs;obtain⟨R,g1,g2⟩:=qt2 fu hfu t.val.1 h2 h1;unfold qgc qua;rw[g1,qB];simp only[jh]
 cases ht:ji t.val.1 with
 |none=>
  rw[ht]at g2;obtain⟨k,rfl⟩:=g2;simp only[a7];by_cases hb:0<t.val.2.length
  ·rw[am (by omega),l7,bh rfl]
  ·rw[ay (by omega),fc,l7,bh rfl]
 |some m=>
  rw[ht]at g2;obtain⟨ab,x,aa,e1,e2,e3,e4,e5,rfl⟩:=g2;have h0:=q66 ht;have hv:=qse h0;simp only[a7];by_cases hb:0<t.val.2.length
  ·rw[am (by omega),l7,bh rfl,qX (.inl hb)]
  rw[ay (by omega),dm,ig fu hfu _ _ (by have:=hv.1;omega) (by simp),qB,l7,jh]
  cases hk:lk m.1 mpN
  ·rw[fc,qX (.inr (.inl rfl))]
  rw[dm,qn8,qsg fu hfu (m.1,(m.2.1,m.2.2)) me (by simp) hv.smD,qB,qW (by simpa using h0),zhj fu hfu (m.1,(m.2.1,m.2.2)) hv.smD,qB,qW (by simpa using h0)]
  rw[show((m.1,(m.2.1,m.2.2)):eq)=m from rfl]
  simp only;cases hp:(d7 m.2.2 me).2
  ·rw[bi rfl];by_cases h60:60<=m.2.2.length
   ·rw[am (by omega),qX (.inr (.inr (.inr (.inl h60))))]
   rw[ay (by omega)]
   by_cases h4:4000<(si m).length
   ·rw[qX h4,qX (by omega)];rfl
   ·have hx:ap t.val.1 (ab.length:Int)=some x:=by rw[e1];exact cz ab x aa
    rw[qW h4];simp only[p8,qB];rw[bi (by rfl),hx,qB,zcj,e2]
    by_cases he:si m=x.2
    ·rw[qW (by rw[he];simp),dc]
     by_cases h2k:2000<(si m).length
     ·rw[qX (by omega),qX (by omega)]
     ·rw[qW (by omega),qW (by
       rintro (q|q|q|q|q|q)
       ·exact hb q
       ·simp at q
       ·simp at q
       ·exact h60 q
       ·exact q (by rw[he])
       ·exact h2k q)]
    ·rw[qX (by simpa using he),qX (.inr (.inr (.inr (.inr (.inl (by simpa using fun q=>he q.symm))))))]
  ·rw[bh rfl,qX (.inr (.inr (.inl rfl)))]
def lu(t:TP)(d:Int):Int:=if(ru t.val.1).1≠0 then(ru t.val.1).1 else if 0<t.kids.length then qua t.val.1 t.val.2 else if 12000<t.val.2.length then 1
 else if bs 0 t.val.2≠0 then bs 0 t.val.2 else match bnd t.val.1 with|none=>0|some b=>if d<8/\0<(qct t.val.2 b).length then 5 else 0
def zcb(fu:Nat)(s:Bs)(h:s.length<fu)(hb:s.length<100000000):qfd fu s=some (bs 0 s):=by
 unfold qfd;have:=zco fu fu [] s 0 h (by simpa using hb) (by omega)
 exact this
def ze8(fu:Nat)(hfu:90000000<=fu)(l:List bm)(b:Bs)(d:Int)(hs:SmT (l,b)):qga fu l b d=some (match bnd l with|none=>[]|some bb=>if d<8 then qct b bb else[]):=by
 obtain⟨_,h1,h2,h3⟩:=hs;obtain⟨R,g1,g2⟩:=zcq fu hfu l h2 h1;unfold qga;rw[g1,qB]
 cases hb:bnd l with
 |none=>rw[hb]at g2;simp only at g2;rw[g2,fc]|some bb=>
  rw[hb]at g2;simp only at g2;subst g2;rw[dm,dc];have:=zcn hb;by_cases hd:d<8
  ·rw[qW (by omega)];simp only[qX hd];rw[zdf fu hfu b bb h3 (by omega)];rfl
  ·rw[qX (by omega)];simp only[qW hd]
def zc7(fu:Nat)(hfu:90000000<=fu)(t:TP)(d:Int)(hs:SmT t.val):qf4 fu (t,d)=some (lu t d):=by
 unfold qf4 lu;rw[zex fu hfu _ hs.1.1,qB,p8,qB,mf];simp only[jh];by_cases h0:(ru t.val.1).1≠0
 ·rw[qX h0,qX h0]
 rw[qW h0,qW h0,dc];by_cases h1:0<t.kids.length
 ·rw[qX (by omega),qX h1,zkx fu hfu t hs];rfl
 rw[qW (by omega),qW h1,dc]
 by_cases h2:12000<t.val.2.length
 ·rw[qX (by omega),qX h2]
 rw[qW (by omega),qW h2,zcb fu _ (by omega) (by omega),qB,mf]
 by_cases h3:bs 0 t.val.2≠0
 ·rw[qX h3,qX h3]
 rw[qW h3,qW h3,ze8 fu hfu t.val.1 t.val.2 d hs,qB]
 cases bnd t.val.1 with
 |none=>rfl|some b=>
  simp only;by_cases hd:d<8
  ·simp only[qX hd];rw[dc];by_cases hc:0<(qct t.val.2 b).length
   ·rw[qX (by omega),qX ⟨hd,hc⟩]
   ·rw[qW (by omega),qW (fun q=>hc q.2)]
  ·simp only[qW hd];rw[qW (fun q=>hd q.1)];rfl
def cy:Nat->TP->Int->List (TP×Int)|0,_,_=>[]|n+1,t,d=>(t,d)::t.kids.flatMap fun k=>cy n k (d+1)
def q2f:∀(n:Nat)(t:TP)(d:Int),(cy n t d).length<=ep t:=by
 intro n
 induction n with
 |zero=>intro t d;simp[cy]|succ n ih=>
  intro t d;have key:∀l:List TP,(l.flatMap fun k=>cy n k (d+1)).length<=(l.map ep).sum:=by
   intro l
   induction l with
   |nil=>simp|cons k l ih2=>
    have:=ih k (d+1);rw[List.flatMap_cons,qM,List.map_cons,List.sum_cons];omega
  cases t with
  |node x l=>
   have:=key l;rw[cy,qL,zl];show(l.flatMap _).length+1<=_;omega
def z6b:∀(n:Nat)(t:TP)(d:Int),∀x∈cy n t d,ep x.1<=ep t:=by
 intro n
 induction n with
 |zero=>intro t d x hx;cases hx
 |succ n ih=>
  intro t d x hx;rw[cy]at hx;rcases List.mem_cons.1 hx with e|e
  ·rw[e];exact wF _
  ·obtain⟨k,hk,hx2⟩:=List.mem_flatMap.1 e;have:=ih k (d+1) x hx2;have:=qtx hk;omega
def gd(t:TP):Prop:=ep t<=60000000/\∀n d,∀x∈cy n t d,SmT x.1.val
def zeo{t:TP}(h:gd t):SmT t.val:=h.2 1 0 (t,0) (by rw[cy];exact qH)
def zen{t k:TP}(h:gd t)(hk:k∈t.kids):gd k:=⟨by have:=qtx hk;have:=h.1;omega,fun n d x hx=>h.2 (n+1) (d-1) x (by
 rw[cy];refine qE _ (List.mem_flatMap.2 ⟨k,hk,?_⟩);rw[show d-1+1=d by omega];exact hx)⟩
def zz8{t:TP}(h:ep t<=1048576):gd t:=⟨by omega,fun n d x hx=>z3t _ (by have:=z6b n t d x hx;have:=z79 x.1;omega)⟩
def ie:List (TP×Int)->Nat->Bool->Option (Nat×Bool)|[],i,fl=>some (i,fl)|x::L,i,fl=>if 40<=i then none else ie L (i+1) (fl||decide (8<x.2))
def q5t:∀(L M:List (TP×Int))(i:Nat)(fl:Bool),ie (L++M) i fl=(ie L i fl).bind fun x=>ie M x.1 x.2
 |[],_,_,_=>rfl|x::L,M,i,fl=>by
  rw[wK,ie,ie];by_cases h:40<=i
  ·rw[qX h,qX h];rfl
  ·rw[qW h,qW h,q5t L M]
def q5u:∀(L:List (TP×Int))(i:Nat)(fl:Bool)(x:Nat×Bool),i<=40->ie L i fl=some x->x.1<=40
 |[],_,_,_,h,e=>by cases e;exact h
 |y::L,i,fl,x,h,e=>by
  rw[ie]at e;by_cases h4:40<=i
  ·rw[qX h4]at e;cases e
  ·rw[qW h4]at e;exact q5u L _ _ x (by omega) e
def q5v:∀(L:List (TP×Int))(i:Nat)(fl:Bool),i<=40->ie L i fl=if 40<i+L.length then none else some (i+L.length,fl||L.any fun x=>decide (8<x.2))
 |[],i,fl,h=>by rw[ie,qW (by simp;omega)];simp|x::L,i,fl,h=>by
  rw[ie];by_cases h4:40<=i
  ·rw[qX h4,qX (by simp only[qL];omega)]
  ·rw[qW h4,q5v L _ _ (by omega)]
   by_cases h5:40<i+1+L.length
   ·rw[qX h5,qX (by simp only[qL];omega)]
   ·rw[qW h5,qW (by simp only[qL];omega),List.any_cons,Bool.or_assoc,qL,Nat.add_assoc,Nat.add_comm 1]
def zd2(fu:Nat)(hfu:90000000<=fu)(z:Int×Int):∀(n:Nat)(t:TP)(d i:Nat)(fl:Bool),ep t<=n->ep t+d<=70000000->i<=40 ->
  ∃R,xa fu n t (d:Int) (i:Int) z fl=some R/\match ie (cy n t (d:Int)) i fl with
   |none=>∃a b,R = .inl (a,(((2:Int),(-1:Int)),b))|some x=>R = .inr ((x.1:Int),(z,x.2)):=by
 intro n
 induction n with
 |zero=>intro t d i fl h;have:=qty t;omega|succ n ih=>
  intro t d i fl hz hd hi;rw[xa,qf7,qnu,cy,ie];by_cases h4:40<=i
  ·rw[am (by omega),qX h4,mw];exact⟨_,rfl,_,_,rfl⟩
  rw[ay (by omega),qW h4]
  have hr0:(bif fl then some (.inr (z,true)) else some (.inr (z,decide ((8:Int)<(d:Int)))):Option qzl)=some (.inr (z,fl||decide ((8:Int)<(d:Int)))):=by cases fl<;>rfl
  rw[hr0,qB];simp only[a7];rw[bj i (by omega)]
  have loop:∀(m:Nat)(ab aa:List TP)(i:Nat)(fl:Bool),t.kids=ab++aa->aa.length<m->i<=40 ->
    ∃R,qbo (xa fu n) fu m (d:Int) t.kids (t.kids.length:Int) (ab.length:Int) (i:Int) z fl=some R/\match ie (aa.flatMap fun k=>cy n k ((d:Int)+1)) i fl with
     |none=>∃a b,R = .inl (a,(((2:Int),(-1:Int)),b))|some x=>R = .inr ((x.1:Int),(z,x.2)):=by
   intro m
   induction m with
   |zero=>intro ab aa i fl _ h;omega|succ m ihm=>
    intro ab aa i fl hk h hi;have ac:t.kids.length=ab.length+aa.length:=by rw[hk];simp
    have hks:=qj1 t;rw[qbo,qnx]
    cases aa with
    |nil=>rw[ay (by simp only[qZ]at ac;omega)];exact⟨_,rfl,rfl⟩|cons k aa=>
     simp only[qL]at h ac;have hkm:k∈t.kids:=by rw[hk];simp
     have hx:ap t.kids (ab.length:Int)=some k:=by rw[hk];exact cz ab k aa
     have hkz:=qtx hkm;rw[am (by omega),hx,qB,jh,bj d (by omega),List.flatMap_cons,q5t]
     obtain⟨R,g1,g2⟩:=ih k (d+1) i fl (by omega) (by omega) hi
     rw[g1,qB];rw[show((d+1:Nat):Int)=(d:Int)+1 by omega]at g2
     cases hr:ie (cy n k ((d:Int)+1)) i fl with
     |none=>
      rw[hr]at g2;obtain⟨a,b,rfl⟩:=g2;exact⟨_,rfl,a,b,rfl⟩
     |some x=>
      rw[hr]at g2;simp only at g2;subst g2;simp only[a7,qB];rw[bj _ (by omega)]
      have:=ihm (ab++[k]) aa x.1 x.2 (by rw[hk];simp) (by omega) (q5u _ _ _ _ hi hr)
      rw[qM,wD]at this;exact this
  have hks:=qj1 t;exact loop fu [] t.kids (i+1) _ rfl (by omega) (by omega)
def ge:List (TP×Int)->Nat->Option (Int×Int)|[],_=>none|x::L,i=>if lu x.1 x.2≠0 then some (lu x.1 x.2,(i:Int)) else ge L (i+1)
def q5w:∀(L M:List (TP×Int))(i:Nat),ge (L++M) i=match ge L i with|some f=>some f|none=>ge M (i+L.length)
 |[],_,_=>rfl|x::L,M,i=>by
  rw[wK,ge,ge];by_cases h:lu x.1 x.2≠0
  ·rw[qX h,qX h]
  ·rw[qW h,qW h,q5w L M,qL,Nat.add_assoc,Nat.add_comm 1]
def zd3(fu:Nat)(hfu:90000000<=fu)(z:Int×Int):∀(n:Nat)(t:TP)(d i:Nat),ep t<=n->ep t+d<=70000000->gd t->i+ep t<=70000000 ->
  ∃R,xc fu n t (d:Int) (i:Int) z=some R/\match ge (cy n t (d:Int)) i with
   |some f=>∃a,R = .inl (a,f)|none=>R = .inr (((i+(cy n t (d:Int)).length:Nat):Int),z):=by
 intro n
 induction n with
 |zero=>intro t d i h;have:=qty t;omega|succ n ih=>
  intro t d i hz hd hs hi;have htp:=qty t;rw[xc,qf8,qnv];rw[show((t.val.1,t.val.2):List (Bs×Bs)×Bs)=t.val from rfl,jh,zc7 fu hfu t _ (zeo hs),qB,cy,ge,mf]
  by_cases hc:lu t (d:Int)≠0
  ·rw[qX hc,qX hc,mw];exact⟨_,rfl,_,rfl⟩
  rw[qW hc,qW hc,qB];simp only[a7];rw[bj i (by omega)]
  have loop:∀(m:Nat)(ab aa:List TP)(i:Nat),t.kids=ab++aa->aa.length<m->i+(aa.map ep).sum<=70000000 ->
    ∃R,qbp (xc fu n) fu m (d:Int) t.kids (t.kids.length:Int) (ab.length:Int) (i:Int) z=some R/\match ge (aa.flatMap fun k=>cy n k ((d:Int)+1)) i with
     |some f=>∃a,R = .inl (a,f)|none=>R = .inr (((i+(aa.flatMap fun k=>cy n k ((d:Int)+1)).length:Nat):Int),z):=by
   intro m
   induction m with
   |zero=>intro ab aa i _ h;omega|succ m ihm=>
    intro ab aa i hk h hi;have ac:t.kids.length=ab.length+aa.length:=by rw[hk];simp
    have hks:=qj1 t;rw[qbp,qny]
    cases aa with
    |nil=>rw[ay (by simp only[qZ]at ac;omega)];exact⟨_,rfl,rfl⟩|cons k aa=>
     simp only[qL]at h ac;simp only[List.map_cons,List.sum_cons]at hi;have hkm:k∈t.kids:=by rw[hk];simp
     have hx:ap t.kids (ab.length:Int)=some k:=by rw[hk];exact cz ab k aa
     have hkz:=qtx hkm;have hfl:=q2f n k ((d:Int)+1);rw[am (by omega),hx,qB,jh,bj d (by omega),List.flatMap_cons,q5w]
     obtain⟨R,g1,g2⟩:=ih k (d+1) i (by omega) (by omega) (zen hs hkm) (by omega)
     rw[g1,qB];rw[show((d+1:Nat):Int)=(d:Int)+1 by omega]at g2
     cases hr:ge (cy n k ((d:Int)+1)) i with
     |some f=>
      rw[hr]at g2;obtain⟨a,rfl⟩:=g2;exact⟨_,rfl,a,rfl⟩
     |none=>
      rw[hr]at g2;simp only at g2;subst g2;simp only[a7];rw[bj _ (by omega)]
      have:=ihm (ab++[k]) aa (i+(cy n k ((d:Int)+1)).length) (by rw[hk];simp) (by omega) (by omega)
      rw[qM,wD]at this;rw[qM,← Nat.add_assoc];exact this
  have hks:=qj1 t;have hsum:(t.kids.map ep).sum+2<=ep t:=by cases t;rw[zl];show(List.map ep _).sum+2<=_;simp only[Tree.kids];omega
  obtain⟨R,g1,g2⟩:=loop fu [] t.kids (i+1) rfl (by omega) (by omega)
  refine⟨R,g1,?_⟩;rw[qL,show i+((t.kids.flatMap fun k=>cy n k ((d:Int)+1)).length+1)=i+1+(t.kids.flatMap fun k=>cy n k ((d:Int)+1)).length by omega]
  exact g2
def qjf(n:Nat)(t:TP):Int×Int:=if 40<(cy n t 0).length then(2,-1) else if(cy n t 0).any (fun x=>decide (8<x.2))=true then(2,-2) else(ge (cy n t 0) 0).getD (0,0)
def zhu(fu:Nat)(hfu:90000000<=fu)(t:TP)(hs:gd t):qbm fu t=some (qjf fu t):=by
 have hz:=hs.1;unfold qbm w9;simp only[jh,qB];obtain⟨R,g1,g2⟩:=zd2 fu hfu (0,0) fu t 0 0 false (by omega) (by omega) (by omega)
 rw[show((0:Nat):Int)=0 from rfl,q5v _ _ _ (by omega),wO]at g2
 rw[show((0:Nat):Int)=0 from rfl]at g1
 have e1:qf6 fu t (0,0) false=R.elim (fun a2=>some (.inl (t,a2.2))) (fun b3=>some (.inr (t,b3.2))):=by
  unfold qf6 qyk;simp only[jh];rw[g1,qB];cases R<;>rfl
 rw[e1];unfold qjf;by_cases h4:40<(cy fu t 0).length
 ·rw[qX h4]at g2;obtain⟨a,b,rfl⟩:=g2;rw[qX h4];rfl
 rw[qW h4]at g2;simp only at g2;subst g2;rw[qW h4];simp only[Sum.elim_inr,qB,a7,Bool.false_or];cases hany:(cy fu t 0).any fun x=>decide (8<x.2)
 ·rw[bi rfl,qW (by simp)]
  obtain⟨R2,q1,q2⟩:=zd3 fu hfu (0,0) fu t 0 0 (by omega) (by omega) hs (by omega)
  rw[show((0:Nat):Int)=0 from rfl]at q1 q2
  have e2:qf9 fu t (0,0)=R2.elim (fun a2=>some (.inl (t,a2.2))) (fun b3=>some (.inr (t,b3.2))):=by
   unfold qf9 qyl;simp only[jh];rw[q1,qB];cases R2<;>rfl
  rw[e2]
  cases hr:ge (cy fu t 0) 0 with
  |some f=>
   rw[hr]at q2;obtain⟨a,rfl⟩:=q2;rfl
  |none=>rw[hr]at q2;simp only at q2;subst q2;rfl
 ·rw[bh rfl,qX rfl];rfl

abbrev emT:TP:=Tree.node ([],[]) []
section sec
variable(fu:Nat)(hfu:90000000<=fu)(path:List Int)(hp:path.length<=2000000)(z:Int×Int)
include hfu hp
end sec
def q5x:∀(L:List (TP×Int))(i:Nat)(f:Int×Int),ge L i=some f->f.1≠0/\∃x∈L,f.1=lu x.1 x.2
 |[],_,_,h=>by cases h
 |x::L,i,f,h=>by
  rw[ge]at h;by_cases hc:lu x.1 x.2≠0
  ·rw[qX hc]at h;cases h;exact⟨hc,x,qH,rfl⟩
  ·rw[qW hc]at h;obtain⟨h1,y,h2,h3⟩:=q5x L _ _ h;exact⟨h1,y,qE _ h2,h3⟩
def z3f:∀(L:List (TP×Int))(i:Nat),(∀x∈L,lu x.1 x.2=0)->ge L i=none
 |[],_,_=>rfl|x::L,i,h=>by
  rw[ge,qW (by simpa using h x qH)]
  exact z3f L (i+1) fun y hy=>h y (qE _ hy)
def q5y:∀(L:List (TP×Int))(i:Nat),ge L i=none->∀x∈L,lu x.1 x.2=0
 |[],_,_,x,hx=>by cases hx
 |y::L,i,h,x,hx=>by
  rw[ge]at h;split at h
  ·cases h
  ·rename_i hc;rcases List.mem_cons.1 hx with e|e
   ·rw[e];omega
   ·exact q5y L _ h x e
def zg7{fu:Nat}{t:TP}(h:(qjf fu t).1=0):(cy fu t 0).length<=40/\(∀x∈cy fu t 0,lu x.1 x.2=0)/\∀x∈cy fu t 0,x.2<=8:=by
 unfold qjf at h;split at h
 ·cases h
 ·rename_i h1;split at h
  ·cases h
  ·rename_i h2;have hn:ge (cy fu t 0) 0=none:=by
    cases hr:ge (cy fu t 0) 0 with|none=>rfl|some f=>rw[hr]at h;exact absurd h (q5x _ _ f hr).1
   refine⟨by omega,fun x hx=>q5y _ _ hn x hx,fun x hx => ?_⟩
   have:¬(8<x.2):=fun q=>h2 (List.any_eq_true.2 ⟨x,hx,by simpa using q⟩)
   omega
def zg4{t:TP}{d:Int}(h:lu t d=0):t.val.1.length<=60/\(∀x∈t.val.1,x.1.length<=60/\x.2.length<=4000)/\(t.kids.length=0->t.val.2.length<=12000):=by
 unfold lu at h;split at h
 ·rename_i q;exact absurd h q
 ·rename_i q;obtain⟨_,h1,h2⟩:=zed (l:=t.val.1) (by simpa using q)
  refine⟨h1,fun x hx=>⟨(q4f (h2 x hx)).1,(q4f (h2 x hx)).2.1⟩,fun h0 => ?_⟩
  rw[qW (by omega)]at h
  split at h
  ·cases h
  ·omega
end Go.Sym
namespace Go.Sym
def ta(l:List bm):eq:=match ji l with|some m=>m|none=>([116,101,120,116],([112,108,97,105,110],[]))
def zkc(l:List bm):q9 (ta l)/\(gm (ta l)).1=0:=by
 unfold ta
 cases h:ji l with
 |none=>exact⟨⟨by simp,by simp,by simp[pl]⟩,by decide +kernel⟩|some m=>
  unfold ji at h;split at h
  ·exact qsx h
  ·cases h
def q7d(fu:Nat)(hfu:90000000<=fu)(t:TP)(hl:t.val.1.length<=4000000)(hs:∀x∈t.val.1,x.1.length<=4000000/\x.2.length<=4000000):xg fu t=some (ta t.val.1):=by
 obtain⟨R,g1,g2⟩:=qt2 fu hfu t.val.1 hs hl;unfold xg ta;rw[g1,qB]
 cases h:ji t.val.1 with
 |none=>
  rw[h]at g2;obtain⟨k,rfl⟩:=g2;rfl
 |some m=>
  rw[h]at g2;obtain⟨ab,x,aa,_,_,_,_,_,rfl⟩:=g2;rfl
def Fv(t:TP):Prop:=t.val.1.length<=60/\∀x∈t.val.1,x.1.length<=60/\x.2.length<=4000
def q7c(fu:Nat)(hfu:90000000<=fu)(m:eq)(nm:Bs)(hn:nm.length<=4000000)(hs:q9 m)(h0:(gm m).1=0):nj fu m nm=some ((d7 m.2.2 nm).1,((d7 m.2.2 nm).2,(0,0))):=by
 rw[qsg fu hfu m nm hn hs,qW (by simpa using h0)]
def z8j:qxw 100000000=some true:=by kernel_rfl
end Go.Sym
namespace Go.Sym.Tr
def lo(c:UInt8):UInt8:=if 65<=c/\c<=90 then c+32 else c
def qr9(c:UInt8):(c+97)-65=c+32:=by
 rw[UInt8.sub_eq_add_neg,UInt8.add_assoc];rfl
def qdq(fu:Nat):∀(n:Nat)(ab aa:List UInt8),aa.length<n->ab.length+aa.length<=9223372036854775807 ->
  pf fu n ((ab.length+aa.length:Nat):Int) (ab.length:Int) (ab++aa)=some (ab++aa.map lo)
 |0,_,_,h,_=>absurd h (by omega)|n+1,ab,[],_,_=>by simp[pf,wl]|n+1,ab,c::aa,h,hb=>by
  simp only[qL]at h hb;have ih:=fun d=>qdq fu n (ab++[d]) aa (by omega) (by simp;omega)
  simp only[qM,qL,qZ,qS,wM,wO]at ih;have e:((ab.length+(c::aa).length:Nat):Int)=((ab.length+1+aa.length:Nat):Int):=by simp only[qL];omega
  have hl:0<=(ab.length:Int)/\(ab.length:Int).toNat<(ab++c::aa).length:=by simp
  rw[e];simp only[pf,wl];rw[am (by omega),am hl,qc9,qB,qtg,bj _ (by omega),dc,dc,ih,ih,am hl,qB]
  unfold lo;simp only[List.map_cons,qr9];by_cases h1:(65:UInt8)<=c
  ·by_cases h2:c<=90
   ·simp[h1,h2]
   ·simp[h1,h2]
  ·simp[h1]
def qdp(fu:Nat)(s:List UInt8)(h:s.length<fu)(hb:s.length<=maxLen):qo fu s=some (s.map lo):=by
 unfold qo;rw[am hb];have:=qdq fu fu [] s h (by simpa [maxLen] using hb)
 simpa using this
def qb8(x a b:Int):jp x a b=some (decide (a<=x/\x<=b)):=by
 unfold jp;by_cases h:a<=x<;>simp[h]
def qqm(a b:UInt8):((a.toNat:Int)<=(b.toNat:Int))↔a<=b:=by rw[UInt8.le_iff_toNat_le];omega
def qkw(fu:Nat):∀(n:Nat)(ab aa:List UInt8),aa.length<n->ab.length+aa.length<=9223372036854775807 ->
  qk3 fu n (ab.length:Int) (ab++aa)=some (ab++aa.map lo)
 |0,_,_,h,_=>absurd h (by omega)|n+1,ab,[],_,_=>by simp[qk3,qwo]|n+1,ab,c::aa,h,hb=>by
  simp only[qL]at h hb;have ih:=fun d=>qkw fu n (ab++[d]) aa (by omega) (by simp;omega)
  simp only[qM,qL,qZ,qS,wM,wO]at ih;have hl:0<=(ab.length:Int)/\(ab.length:Int).toNat<(ab++c::aa).length:=by simp
  simp only[qk3,qwo];rw[am (by simp;omega),am hl,qc9,qB,qb8,qB,bj _ (by omega),dc,am hl,qB,am hl,qB,qtg,ih,ih]
  unfold lo;simp only[List.map_cons];have e1:=qqm 65 c;have e2:=qqm c 90;have q1:((65:UInt8).toNat:Int)=65:=rfl;have q2:((90:UInt8).toNat:Int)=90:=rfl;rw[q1]at e1;rw[q2]at e2;by_cases h1:(65:UInt8)<=c/\c<=90
  ·rw[qX ⟨e1.2 h1.1,e2.2 h1.2⟩,qX h1]
  ·rw[qW (fun q=>h1 ⟨e1.1 q.1,e2.1 q.2⟩),qW h1]
def qdh(fu:Nat)(s:List UInt8)(h:s.length<fu)(hb:s.length<=maxLen):qak fu s=some (s.map lo):=by
 unfold qak;rw[am hb];have:=qkw fu fu [] s h (by simpa [maxLen] using hb)
 simpa using this
def ziu(fu:Nat)(a b:List UInt8)(ha:a.length<fu)(hb:b.length<fu)(ha':a.length<=maxLen)(hb':b.length<=maxLen):di fu a b=some (a.map lo==b.map lo):=by
 unfold di;rw[g7,qdp fu a ha ha',qdp fu b hb hb'];by_cases h:(a.length:Int)=b.length
 ·rw[qX h];rfl
 ·rw[qW h];have:(a.map lo==b.map lo)=false:=by
   rw[beq_eq_false_iff_ne];intro q;apply h;have:=congrArg List.length q;simp only[wC]at this;omega
  rw[this]
def q9s(fu:Nat)(a b:List UInt8)(ha:a.length<fu)(hb:b.length<fu)(ha':a.length<=maxLen)(hb':b.length<=maxLen):qn fu a b=some (a.map lo==b.map lo):=by
 unfold qn;rw[qdh fu a ha ha',qdh fu b hb hb'];rfl
abbrev n7:List UInt8:=[55,98,105,116]
abbrev n8:List UInt8:=[56,98,105,116]
abbrev n64:List UInt8:=[98,97,115,101,54,52]
abbrev nqp:List UInt8:=[113,117,111,116,101,100,45,112,114,105,110,116,97,98,108,101]
def g8(s:List UInt8):Int:=if n7.map lo=s.map lo then 0 else if n8.map lo=s.map lo then 1 else if n64.map lo=s.map lo then 2 else if nqp.map lo=s.map lo then 3 else -1
def zch{α:Type}{a b:List UInt8}{x y:α}:(bif a==b then x else y)=if a=b then x else y:=by
 by_cases h:a=b
 ·rw[bh (by simp[h]),qX h]
 ·rw[bi (by simp[h]),qW h]
def zeg(fu:Nat)(s:List UInt8)(hf:20<=fu)(h:s.length<fu)(hb:s.length<=maxLen):qgv fu s=some (if g8 s=0 then .inl (n7,(true,127)) else if g8 s=1 then .inl (n8,(true,255)) else if g8 s=2 then .inr (.inl (n64,true)) else if g8 s=3 then .inr (.inr (.inl (nqp,true))) else .inr (.inr (.inr ([],false)))):=by
 unfold qgv qgw;have A:∀a:List UInt8,a.length<=16->di fu a s=some (a.map lo==s.map lo):=fun a ha=>ziu fu a s (by omega) h (by simp only[maxLen];omega) hb
 simp only[qB];rw[A n7 (by decide),A n8 (by decide),A n64 (by decide),A nqp (by decide)]
 simp only[qB,zch];unfold g8;by_cases h0:n7.map lo=s.map lo
 ·simp only[qX h0];rfl
 ·by_cases h1:n8.map lo=s.map lo
  ·simp only[qW h0,qX h1];rfl
  ·by_cases h2:n64.map lo=s.map lo
   ·simp only[qW h0,qW h1,qX h2];rfl
   ·by_cases h3:nqp.map lo=s.map lo
    ·simp only[qW h0,qW h1,qW h2,qX h3];rfl
    ·simp only[qW h0,qW h1,qW h2,qW h3];rfl
end Go.Sym.Tr
namespace Go.Sym.Tr
def wr(m:UInt8)(col i:Nat):List UInt8->Int|[] => -1|c::r=>if(c==13&&r.head? == some 10)=true then wr m 0 (i+2) r.tail else if c=0\/c=13\/c=10\/m<c\/col=998 then(i:Int) else wr m (col+1) (i+1) r
termination_by l=>l.length
decreasing_by all_goals (simp only[qL,List.length_tail];omega)
end Go.Sym.Tr
namespace Go.Sym.Tr
def qhf:List UInt8:=[65,66,67,68,69,70,71,72,73,74,75,76,77,78,79,80,81,82,83,84,85,86,87,88,89,90,97,98,99,100,101,102,103,104,105,106,107,108,109,110,111,112,113,114,115,116,117,118,119,120,121,122,48,49,50,51,52,53,54,55,56,57,43,47]
def al(k:Nat):UInt8:=qhf.getD k 0
def c0(x:Nat):UInt8:=al (x/262144%64)
def c1(x:Nat):UInt8:=al (x/4096%64)
def c2(x:Nat):UInt8:=al (x/64%64)
def c3(x:Nat):UInt8:=al (x%64)
def qjb(x:Nat)(h:x<18446744073709551616):(BitVec.ofInt 64 (x:Int)).toNat=x:=by
 rw[BitVec.toNat_ofInt];omega
end Go.Sym.Tr
namespace Go.Sym.Tr
end Go.Sym.Tr
namespace Go.Sym.Tr
def zgg(c:UInt8):List Nat:=[c.toNat/128%2,c.toNat/64%2,c.toNat/32%2,c.toNat/16%2,c.toNat/8%2,c.toNat/4%2,c.toNat/2%2,c.toNat%2]
def bits(b:List UInt8):List Nat:=b.flatMap zgg
def c7(a:Nat):List Nat->Nat|[]=>a|x::l=>c7 (2*a+x) l
def qto:∀(l:List Nat)(a:Nat),(∀x∈l,x<=1)->c7 a l+1<=(a+1)*2 ^ l.length
 |[],a,_=>by simp[c7]|x::l,a,h=>by
  have:=qto l (2*a+x) (fun y hy=>h y (qE _ hy))
  have hx:=h x qH;unfold c7;refine Nat.le_trans this ?_;rw[qL,Nat.pow_succ,Nat.mul_comm (2 ^ l.length) 2,← Nat.mul_assoc];exact Nat.mul_le_mul_right _ (by omega)
def n6(a:Nat)(h:a<256):2*(2*(2*(2*(2*(2*0+a/128%2)+a/64%2)+a/32%2)+a/16%2)+a/8%2)+a/4%2=a/4:=by omega
def n2(a:Nat):2*(2*0+a/2%2)+a%2=a%4:=by omega
def n4(t b:Nat)(h:b<256):2*(2*(2*(2*t+b/128%2)+b/64%2)+b/32%2)+b/16%2=16*t+b/16:=by omega
def x0(a b c:Nat)(h:a<256)(hb:b<256)(hc:c<256):(a*65536+b*256+c)/262144%64=a/4:=by omega
def x1(a b c:Nat)(h:a<256)(hb:b<256)(hc:c<256):(a*65536+b*256+c)/4096%64=16*(a%4)+b/16:=by omega
def x2(a b c:Nat)(h:a<256)(hb:b<256)(hc:c<256):(a*65536+b*256+c)/64%64=4*(b%16)+c/64:=by omega
def x3(a b c:Nat)(h:a<256)(hb:b<256)(hc:c<256):(a*65536+b*256+c)%64=c%64:=by omega
end Go.Sym.Tr
namespace Go.Sym.Tr
def lf(P:UInt8->Prop)(h:∀n:_root_.Fin 256,P (UInt8.ofNat n.val))(c:UInt8):P c:=by
 have:=h ⟨c.toNat,c.toNat_lt⟩;simpa using this
def isL:List UInt8->Bool|a::b::_=>a==13&&b==10|_=>false
def od{α:Type}(ab:List α)(aa:List α):List.drop ((ab.length:Nat):Int).toNat (ab++aa)=aa:=by simp
def qcz{α:Type}(ab:List α)(c:α)(aa:List α):List.drop ((ab.length+1:Nat):Int).toNat (ab++c::aa)=aa:=by
 rw[show((ab.length+1:Nat):Int).toNat=(ab++[c]).length by simp,show ab++c::aa=(ab++[c])++aa by simp]
 simp
end Go.Sym.Tr
namespace Go.Sym.Tr
def two(c:UInt8):List UInt8:=(qe5 c).getD []
def q60:∀n:_root_.Fin 256,qe5 (UInt8.ofNat n.val)=some (two (UInt8.ofNat n.val))/\(two (UInt8.ofNat n.val)).length=2:=by decide +kernel
def q61(c:UInt8):(two c).length=2:=(lf (fun c=>qe5 c=some (two c)/\(two c).length=2) q60 c).2
def blB(c:UInt8):Bool:=bif c==32 then true else c==9
def z16(c:UInt8):qwk c=some (blB c):=by unfold qwk blB;cases c==32<;>rfl
end Go.Sym.Tr
namespace Go.Sym.Tr
def sp:List UInt8->List UInt8×List UInt8|[]=>([],[])|c::r=>if isL (c::r) then([],c::r) else(c::(sp r).1,(sp r).2)
end Go.Sym.Tr
namespace Go.Sym.Tr
def zda(s:List UInt8):g8 s=0\/g8 s=1\/g8 s=2\/g8 s=3\/g8 s = -1:=by
 unfold g8;split
 ·exact .inl rfl
 ·split
  ·exact .inr (.inl rfl)
  ·split
   ·exact .inr (.inr (.inl rfl))
   ·split
    ·exact .inr (.inr (.inr (.inl rfl)))
    ·exact .inr (.inr (.inr (.inr rfl)))
def q1e(b:List UInt8)(h:b.length<=12000):qgu b=some ((0,0),b):=by
 unfold qgu cq;rw[am (by simp only[bg];omega)];rfl
end Go.Sym.Tr
namespace Go.Sym.Tr
def jk(c:UInt8):Int:=Lib.indexByte qhf c
def zkj:∀n:_root_.Fin 256,jk (UInt8.ofNat n.val) = -1\/(0<=jk (UInt8.ofNat n.val)/\jk (UInt8.ofNat n.val)<64):=by decide +kernel
def zkk(c:UInt8):jk c = -1\/(0<=jk c/\jk c<64):=lf (fun c=>jk c = -1\/(0<=jk c/\jk c<64)) zkj c
def gv(v:Nat):List Nat:=[v/32%2,v/16%2,v/8%2,v/4%2,v/2%2,v%2]
def lg:List UInt8->List Nat|[]=>[]|c::r=>if c=61 then[] else if jk c<0 then lg r else gv (jk c).toNat++lg r
def px:List Nat->List UInt8|a::b::c::d::e::f::g::h::r=>du ((c7 0 [a,b,c,d,e,f,g,h]:Nat):Int)::px r|_=>[]
def qtn:∀(l:List Nat)(a:Nat),c7 a l=a*2 ^ l.length+c7 0 l
 |[],a=>by simp[c7]|x::l,a=>by
  rw[c7,c7,qtn l (2*a+x),qtn l (2*0+x),qL,Nat.pow_succ,Nat.add_mul,Nat.add_mul];have:2*a*2 ^ l.length=a*(2 ^ l.length*2):=by rw[Nat.mul_comm 2 a,Nat.mul_assoc,Nat.mul_comm 2]
  omega
def qtm:∀(l m:List Nat)(a:Nat),c7 a (l++m)=c7 (c7 a l) m|[],_,_=>rfl|x::l,m,a=>qtm l m (2*a+x)
def ziz(a v:Nat)(h:v<64):c7 a (gv v)=64*a+v:=by
 simp only[gv,c7];omega
def ziy(v:Nat):∀x∈gv v,x<=1:=by
 intro x hx;simp only[gv,wE,List.not_mem_nil,or_false]at hx;omega
def zc1(q r:List Nat)(h:8<=q.length):px (q++r)=du ((c7 0 (q.take 8):Nat):Int)::px (q.drop 8++r):=by
 match q,h with|a::b::c::d::e::f::g::i::t,_=>simp[px]
def q03(q:List Nat)(h:q.length<8):px q=[]:=by
 match q,h with|[],_=>rfl|[_],_=>rfl|[_,_],_=>rfl|[_,_,_],_=>rfl|[_,_,_,_],_=>rfl|[_,_,_,_,_],_=>rfl|[_,_,_,_,_,_],_=>rfl|[_,_,_,_,_,_,_],_=>rfl|_::_::_::_::_::_::_::_::_,h=>simp at h;omega
def or6(x v:Nat)(h:x<1099511627776)(hv:v<64):af (((BitVec.ofInt 64 (af ((x:Int)*2 ^ min (6:Int).toNat 64))|||BitVec.ofInt 64 (v:Int)).toNat:Int))=((64*x+v:Nat):Int):=by
 have e:af ((x:Int)*2 ^ min (6:Int).toNat 64)=((64*x:Nat):Int):=by
  rw[show(2:Int) ^ min (6:Int).toNat 64=64 by decide,ee (by omega) (by omega)];omega
 rw[e,BitVec.toNat_or,qjb _ (by omega),qjb _ (by omega)]
 have:=Nat.two_pow_add_eq_or_of_lt (i:=6) (b:=v) (by simpa using hv) x
 rw[← show 2 ^ 6*x+v=64*x|||v from this]
 rw[ee (by omega) (by omega)]
def zbj(x k:Nat)(h:x<1099511627776)(hk:k<=20):af (((BitVec.ofInt 64 (x:Int)&&&BitVec.ofInt 64 (af ((af ((1:Int)*2 ^ min (k:Int).toNat 64))-(1:Int)))).toNat:Int))=((x%2 ^ k:Nat):Int):=by
 have e1:min (k:Int).toNat 64=k:=by omega
 have hp:2 ^ k<=2 ^ 20:=Nat.pow_le_pow_right (by omega) hk
 have hp1:1<=2 ^ k:=Nat.one_le_two_pow;have e2:af ((1:Int)*2 ^ k)=((2 ^ k:Nat):Int):=by
  have:((2:Int) ^ k)=((2 ^ k:Nat):Int):=by simp
  rw[this,ee (by omega) (by omega)];omega
 have e3:af (((2 ^ k:Nat):Int)-1)=((2 ^ k-1:Nat):Int):=by rw[ee (by omega) (by omega)];omega
 have hm:x%2 ^ k<=x:=Nat.mod_le _ _;rw[e1,e2,e3,BitVec.toNat_and,qjb _ (by omega),qjb _ (by omega),Nat.and_two_pow_sub_one_eq_mod,ee (by omega) (by omega)]
end Go.Sym.Tr
namespace Go.Sym.Tr
def zjm(q:List Nat)(k:Nat)(h1:∀x∈q,x<=1):c7 0 (q.take k)=c7 0 q/2 ^ (q.length-k)/\c7 0 (q.drop k)=c7 0 q%2 ^ (q.length-k):=by
 have e:c7 0 q=c7 0 (q.take k)*2 ^ (q.drop k).length+c7 0 (q.drop k):=by
  rw[← qtn,← qtm,List.take_append_drop]
 have hd:=qto (q.drop k) 0 (fun x hx=>h1 x (List.mem_of_mem_drop hx))
 rw[List.length_drop]at e hd;have hlt:c7 0 (q.drop k)<2 ^ (q.length-k):=by omega
 rw[e,Nat.mul_comm,Nat.mul_add_div (by omega),Nat.mul_add_mod,Nat.div_eq_of_lt hlt,Nat.mod_eq_of_lt hlt]
 simp
def zfv(fu n:Nat)(m16:Int×Int):∀(ab aa:List UInt8)(p:List Nat)(out:List UInt8),aa.length<n->ab.length+aa.length<100000000->p.length<8->(∀x∈p,x<=1)->out.length+aa.length<=1000000000 ->
  tl fu n ((c7 0 p:Nat):Int) (p.length:Int) (ab++aa) ((ab.length+aa.length:Nat):Int) (ab.length:Int) m16 out=some ((0,0),out++px (p++lg aa)):=by
 induction n with
 |zero=>intro ab aa p out h;omega|succ n ih=>
  intro ab aa p out h hb hp h1 ho
  cases aa with
  |nil=>
   rw[tl,qe9,ay (by simp)]
   simp[cq,lg,q03 p hp]
  |cons c aa=>
   simp only[qL]at h hb ho;have nxt:∀(p:List Nat)(out:List UInt8),p.length<8->(∀x∈p,x<=1)->out.length+aa.length<=1000000000->tl fu n ((c7 0 p:Nat):Int) (p.length:Int) (ab++c::aa) ((ab.length+(aa.length+1):Nat):Int) ((ab.length+1:Nat):Int) m16 out=some ((0,0),out++px (p++lg aa)):=by
    intro p out h2 h3 h4;have:=ih (ab++[c]) aa p out (by omega) (by simp;omega) h2 h3 h4
    simp only[qM,qL,qZ,wO,qS,wK,List.nil_append]at this;rw[show ab.length+(aa.length+1)=ab.length+1+aa.length by omega]
    exact this
   rw[tl,qe9,am (by simp;omega),cz,qB,rl]
   simp only[qL];by_cases k:c=61
   ·rw[qX k];simp[cq,lg,k,q03 p hp]
   ·rw[qW k,am (by decide)]
    rw[show([65,66,67,68,69,70,71,72,73,74,75,76,77,78,79,80,81,82,83,84,85,86,87,88,89,90,97,98,99,100,101,102,103,104,105,106,107,108,109,110,111,112,113,114,115,116,117,118,119,120,121,122,48,49,50,51,52,53,54,55,56,57,43,47]:List UInt8)=qhf from rfl,show wn qhf c=some (jk c) from rfl,qB,bj _ (by omega),dc]
    rcases zkk c with hv|⟨hv,hv2⟩
    ·rw[hv,qX (by decide),nxt p out hp h1 (by omega)]
     simp[lg,k,hv]
    ·obtain⟨v,hvv⟩:∃v:Nat,jk c=(v:Int):=⟨(jk c).toNat,by omega⟩
     have hv64:v<64:=by omega
     have hd:lg (c::aa)=gv v++lg aa:=by
      rw[lg,qW k,qW (by omega),hvv];rfl
     have hq:c7 0 (p++gv v)=64*c7 0 p+v:=by rw[qtm,ziz _ _ hv64]
     have hpl:=qto p 0 h1;have hp2:2 ^ p.length<=2 ^ 7:=Nat.pow_le_pow_right (by omega) (by omega)
     have hql:(p++gv v).length=p.length+6:=by simp[gv]
     have hq1:∀x∈p++gv v,x<=1:=fun x hx=>by
      rcases List.mem_append.1 hx with hx|hx
      ·exact h1 x hx
      ·exact ziy v x hx
     rw[hvv,qW (by omega),or6 _ _ (by omega) hv64,← hq,hd,← qS]
     have e6:af ((p.length:Int)+6)=((p.length+6:Nat):Int):=by rw[ee (by omega) (by omega)];omega
     rw[e6,dc];by_cases h8:8<=p.length+6
     ·have e8:af (((p.length+6:Nat):Int)-8)=((p.length+6-8:Nat):Int):=by rw[ee (by omega) (by omega)];omega
      rw[qX (by omega),e8,am (by omega),am (by simp[bg];omega),am (by omega)]
      rw[zbj _ _ (by omega) (by omega)]
      obtain⟨s1,s2⟩:=zjm (p++gv v) 8 hq1;rw[hql]at s1 s2;rw[← s2,zc1 _ _ (by omega)]
      have e9:Int.fdiv ((c7 0 (p++gv v):Nat):Int) (2 ^ min (((p.length+6-8:Nat):Int)).toNat 64)=((c7 0 ((p++gv v).take 8):Nat):Int):=by
       rw[s1,show min (((p.length+6-8:Nat):Int)).toNat 64=p.length+6-8 by omega,Int.fdiv_eq_ediv_of_nonneg _ (by exact Int.le_of_lt (Int.pow_pos (by decide)))]
       simp
      rw[e9];have:=nxt ((p++gv v).drop 8) (out++[du ((c7 0 ((p++gv v).take 8):Nat):Int)]) (by simp[gv];omega) (fun x hx=>hq1 x (List.mem_of_mem_drop hx)) (by simp;omega)
      rw[List.length_drop,hql]at this;rw[this];simp
     ·rw[qW (by omega)]
      have:=nxt (p++gv v) out (by omega) hq1 (by omega)
      rw[hql]at this;exact this
end Go.Sym.Tr
namespace Go.Sym.Tr
end Go.Sym.Tr
namespace Go.Sym.Tr
end Go.Sym.Tr
namespace Go.Sym.Tr
end Go.Sym.Tr
namespace Go.Sym.Tr
def zfu(fu:Nat)(b:List UInt8)(hb:b.length<=24000)(hf:b.length<fu):qe8 fu b=some ((0,0),px (lg b)):=by
 unfold qe8;rw[ay (by omega)]
 have:=zfv fu fu (0,0) [] b [] [] hf (by simp;omega) (by simp) (fun _ h=>by cases h) (by simp;omega)
 simpa [c7] using this
end Go.Sym.Tr
namespace Go.Sym.Tr
end Go.Sym.Tr
namespace Go.Sym.Tr
def prt(x:UInt8):Prop:=x≠0/\x≠13/\x≠10/\¬(127:UInt8)<x
inductive OkL:Nat->List UInt8->Prop
 |nil (c:Nat):OkL c []
 |crlf (c:Nat) (r:List UInt8):OkL 0 r->OkL c (13::10::r)
 |chr (c:Nat) (x:UInt8) (r:List UInt8):prt x->c<998->OkL (c+1) r->OkL c (x::r)
end Go.Sym.Tr
namespace Go.Sym.Tr
def hv(c:UInt8):Option UInt8:=if 48<=c/\c<=57 then some (c-48) else if 65<=c/\c<=70 then some (c-65+10) else if 97<=c/\c<=102 then some (c-97+10) else none
def hx(a b:UInt8):Option UInt8:=(hv a).bind fun x=>(hv b).map fun y=>16*x+y
def dq:List UInt8->List UInt8|[]=>[]|[c]=>[c]|[c,d]=>[c,d]|c::a::b::r=>if c=61 then(match hx a b with|some x=>x::dq r|none=>c::dq (a::b::r)) else c::dq (a::b::r)
def q1w(c:UInt8)(r:List UInt8)(h:c≠61):dq (c::r)=c::dq r:=by
 match r with|[]=>rfl|[_]=>rfl|_::_::_=>rw[dq,qW h]
def bl(c:UInt8):Bool:=c==32||c==9
def dn(l:List UInt8):List UInt8:=(l.reverse.dropWhile bl).reverse
def lnE(t:List UInt8)(nl:Bool):List UInt8×List UInt8:=if nl then(if t.getLast? = some 13 then(t.dropLast,[13,10]) else(t,[10])) else(t,[])
def lnT(u e:List UInt8):List UInt8:=if u.getLast? = some 61 then dq u.dropLast else dq u++e
def om(t:List UInt8)(nl:Bool):List UInt8:=lnT (dn (lnE t nl).1) (lnE t nl).2
def qm(acc:List UInt8):List UInt8->List UInt8|[]=>om acc false|c::r=>if c=10 then om acc true++qm [] r else qm (acc++[c]) r
def q42(u:List UInt8):∀(acc r:List UInt8),(∀x∈u,x≠10)->qm acc (u++r)=qm (acc++u) r:=by
 induction u with
 |nil=>intro acc r _;simp|cons x u ih=>
  intro acc r h;rw[wK,qm,qW (h x qH),ih _ _ (fun y hy=>h y (qE _ hy))]
  simp
structure Un(acc out:List UInt8)(sp:Bool):Prop where
 dec:∀rest,dq (acc++rest)=out++dq rest
 no:acc.getLast? ≠ some 61
 nb:sp=false->∀c,acc.getLast? = some c->bl c=false
end Go.Sym.Tr
namespace Go.Sym.Tr
def qqs:∀n:_root_.Fin 256,pd (UInt8.ofNat n.val)=some ((hv (UInt8.ofNat n.val)).getD 0,(hv (UInt8.ofNat n.val)).isSome):=by decide +kernel
def qqt(c:UInt8):pd c=some ((hv c).getD 0,(hv c).isSome):=lf (fun c=>pd c=some ((hv c).getD 0,(hv c).isSome)) qqs c
def hvI(c:UInt8):Int:=match hv c with|some x=>(x.toNat:Int)|none => -1
def qad:List UInt8:=[48,49,50,51,52,53,54,55,56,57,65,66,67,68,69,70]
def qco(c:UInt8):Nat->Nat->Int|0,_ => -1|m+1,k=>if qad.getD k 0=c then(k:Int) else if(qad.map lo).getD k 0=c then(k:Int) else qco c m (k+1)
def zf6:∀n:_root_.Fin 256,qco (UInt8.ofNat n.val) 16 0=hvI (UInt8.ofNat n.val):=by decide +kernel
def zvk(fu:Nat)(hfu:16<fu)(c:UInt8):∀(m k n:Nat),m+k=16->m<n->qk2 fu n c (k:Int)=some (qco c m k):=by
 intro m
 induction m with
 |zero=>
  intro k n hk hn;obtain⟨n,rfl⟩:∃j,n=j+1:=⟨n-1,by omega⟩
  rw[qk2,qwn,ay (by omega)];rfl
 |succ m ih=>
  intro k n hk hn;obtain⟨n,rfl⟩:∃j,n=j+1:=⟨n-1,by omega⟩
  have h1:k<qad.length:=by show k<16;omega
  have h2:k<(qad.map lo).length:=by show k<16;omega
  have i1:ap qad (k:Int)=some (qad.getD k 0):=by rw[qdg _ _ h1];exact congrArg some (List.getElem_eq_getD 0)
  have i2:ap (qad.map lo) (k:Int)=some ((qad.map lo).getD k 0):=by rw[qdg _ _ h2];exact congrArg some (List.getElem_eq_getD 0)
  rw[qk2,qwn,am (by omega)]
  rw[show([48,49,50,51,52,53,54,55,56,57,65,66,67,68,69,70]:List UInt8)=qad from rfl]
  rw[i1,qB,rl,qco];by_cases q:qad.getD k 0=c
  ·rw[qX q,qX q]
  ·rw[qW q,qW q,qdh fu qad (by show 16<fu;omega) (by decide),qB,i2,qB,rl]
   by_cases q2:(qad.map lo).getD k 0=c
   ·rw[qX q2,qX q2]
   ·rw[qW q2,qW q2,bj _ (by omega),ih (k+1) n (by omega) (by omega)]
def qkx(fu:Nat)(hfu:17<fu)(c:UInt8):qaj fu c=some (hvI c):=by
 have:=zvk fu (by omega) c 16 0 fu rfl (by omega)
 unfold qaj;rw[show(0:Int)=((0:Nat):Int) from rfl,this,lf (fun c=>qco c 16 0=hvI c) zf6 c]
def qry:∀n:_root_.Fin 256,(hv (UInt8.ofNat n.val)).all (fun x=>decide (x.toNat<16))=true:=by decide +kernel
def qdb(c x:UInt8)(h:hv c=some x):x.toNat<16:=by
 have:=lf (fun c=>(hv c).all (fun x=>decide (x.toNat<16))=true) qry c
 rw[h]at this;simpa using this
def qt0:∀x y:_root_.Fin 16,(jj (UInt8.ofNat x.val) (min (4:Int).toNat 8))|||UInt8.ofNat y.val=16*UInt8.ofNat x.val+UInt8.ofNat y.val/\du (af ((af ((16:Int)*((UInt8.ofNat x.val).toNat:Int)))+((UInt8.ofNat y.val).toNat:Int)))=16*UInt8.ofNat x.val+UInt8.ofNat y.val:=by decide +kernel
def qtz(x y:UInt8)(hx1:x.toNat<16)(hy1:y.toNat<16):(jj x (min (4:Int).toNat 8))|||y=16*x+y/\du (af ((af ((16:Int)*(x.toNat:Int)))+(y.toNat:Int)))=16*x+y:=by
 have:=qt0 ⟨x.toNat,hx1⟩ ⟨y.toNat,hy1⟩;simpa using this
def ki:List UInt8->Option UInt8|a::b::_=>hx a b|_=>none
def q1v(r:List UInt8):dq (61::r)=match ki r with|some x=>x::dq (r.drop 2)|none=>61::dq r:=by
 match r with
 |[]=>rfl|[_]=>rfl|a::b::t=>
  rw[dq,qX rfl];show _=match hx a b with|some x=>x::dq t|none=>61::dq (a::b::t)
  cases hx a b<;>rfl
def qst(r:List UInt8):∃v,pg (r.take 2)=some (v,(ki r).isSome)/\∀x,ki r=some x->v=x:=by
 match r with
 |[]=>exact⟨0,rfl,fun x h=>by cases h⟩
 |[_]=>exact⟨0,rfl,fun x h=>by cases h⟩
 |a::b::t=>
  have e:pg ((a::b::t).take 2)=some ((jj ((hv a).getD 0) (min (4:Int).toNat 8))|||(hv b).getD 0,(hv a).isSome&&(hv b).isSome):=by
   unfold pg;rw[ay (by simp),show(a::b::t).take 2=[a,b] from rfl,show ap [a,b] 0=some a from rfl,show ap [a,b] 1=some b from rfl]
   simp only[qB,qqt];cases (hv a).isSome<;>rfl
  rw[e,show ki (a::b::t)=hx a b from rfl]
  unfold hx
  cases ha:hv a with
  |none=>exact⟨_,rfl,fun x h=>by cases h⟩
  |some x=>
   cases hb:hv b with
   |none=>exact⟨_,rfl,fun x h=>by cases h⟩
   |some y=>
    refine⟨_,rfl,fun z h => ?_⟩
    have hz:16*x+y=z:=by simpa using h
    rw[← hz];exact(qtz x y (qdb a x ha) (qdb b y hb)).1
def zjw(ab:List UInt8)(c:UInt8)(r:List UInt8)(hb:ab.length+r.length<1000000000) :
  List.take ((if(List.length (ab++c::r):Int)<af ((ab.length:Int)+(3:Int)) then(List.length (ab++c::r):Int) else af ((ab.length:Int)+(3:Int))).toNat-(((ab.length+1:Nat):Int)).toNat) (List.drop (((ab.length+1:Nat):Int)).toNat (ab++c::r))=r.take 2:=by
 rw[qcz,ee (by omega) (by omega)]
 have hl:((ab++c::r).length:Int)=(ab.length:Int)+1+(r.length:Int):=by simp;omega
 rw[hl];by_cases q:(ab.length:Int)+1+(r.length:Int)<(ab.length:Int)+3
 ·rw[qX q,List.take_of_length_le (by omega),List.take_of_length_le (by omega)]
 ·rw[qW q,show((ab.length:Int)+3).toNat-(((ab.length+1:Nat):Int)).toNat=2 by omega]
def zhb(fu n:Nat):∀(ab aa out:List UInt8),aa.length<n->ab.length+aa.length<1000000000->out.length+aa.length<=2000000000 ->
  ua fu n (ab++aa) (ab.length:Int) out=some (out++dq aa):=by
 induction n with
 |zero=>intro ab aa out h;omega|succ n ih=>
  intro ab aa out h hb ho
  cases aa with
  |nil=>rw[ua,qge,ay (by simp)];simp[dq]|cons c r=>
   simp only[qL]at h hb ho;have one:ua fu n (ab++c::r) ((ab.length+1:Nat):Int) (out++[c])=some (out++c::dq r):=by
    have:=ih (ab++[c]) r (out++[c]) (by omega) (by simp;omega) (by simp;omega)
    simpa using this
   rw[ua,qge,am (by simp;omega),cz]
   simp only[qB];rw[bj _ (by omega),rl]
   by_cases q:c=61
   ·subst q;have hl:((ab++61::r).length:Int)=(ab.length:Int)+1+(r.length:Int):=by simp;omega
    have e3:af ((ab.length:Int)+3)=(ab.length:Int)+3:=ee (by omega) (by omega)
    rw[qX rfl,zjw _ _ _ (by omega),am (by rw[hl,e3];split<;>omega)]
    obtain⟨v,h1,h2⟩:=qst r;rw[h1,qB,q1v,zci]
    cases hp:ki r with
    |none=>
     rw[qW (by simp),am (by simp[bg];omega)]
     exact one
    |some x=>
     have hv:=h2 x hp;subst hv
     match r,hp with
     |a::b::t,hp=>
      simp only[qL]at h hb ho;have e2:af (af ((ab.length:Int)+2)+1)=((ab.length+3:Nat):Int):=by rw[ee (x:=(ab.length:Int)+2) (by omega) (by omega),ee (by omega) (by omega)];omega
      rw[qX (show(v,(some v).isSome).snd=true from rfl),am (by simp[bg];omega),e2]
      have:=ih (ab++[61,a,b]) t (out++[v]) (by omega) (by simp;omega) (by simp;omega)
      simpa using this
   ·rw[qW q,am (by simp[bg];omega),one,q1w _ _ q]
def zha(fu:Nat)(s:List UInt8)(h:s.length<fu)(hb:s.length<1000000000):qoa fu s=some (dq s):=by
 have:=zhb fu fu [] s [] h (by simpa using hb) (by simp;omega)
 rw[List.nil_append,List.nil_append]at this;exact this
end Go.Sym.Tr
namespace Go.Sym.Tr
def ng(n:Nat)(h:n<1000000000):af (((n+1:Nat):Int)-1)=(n:Int):=by rw[ee (by omega) (by omega)];omega
def qdf{α:Type}(t:List α)(c:α):ap (t++[c]) (t.length:Int)=some c:=cz t c []
def vt{α:Type}(t:List α)(c:α):List.take ((t.length:Nat):Int).toNat (t++[c])=t:=by simp
def mt{α:Type}(t:List α)(c:α):((t++[c]).length:Int)=((t.length+1:Nat):Int):=by simp
def qta(t:List UInt8)(c:UInt8):dn (t++[c])=if bl c then dn t else t++[c]:=by
 unfold dn;rw[List.reverse_append,List.reverse_singleton,wM,List.dropWhile];cases bl c
 ·simp
 ·simp
def ut:List Bool:=((List.replicate 256 false).set 32 true).set 9 true
def zb3(n:Nat):qms (n+3) [32,9]=some (ut,true):=by kernel_rfl
def zdh:∀n:_root_.Fin 256,ut[(UInt8.ofNat n.val).toNat]? = some (bl (UInt8.ofNat n.val)):=by decide +kernel
def qcu(c:UInt8):qfi c ut=some (bl c,ut):=by
 unfold qfi;rw[lf (fun c=>ut[c.toNat]? = some (bl c)) zdh c,qB]
def qtv(fu n:Nat):∀(s:List UInt8),s.length<n->s.length<1000000000->qas fu n s ut=some (dn s,ut):=by
 induction n with
 |zero=>intro s h;omega|succ n ih=>
  intro s h hb;rw[qas,qmv];rcases List.eq_nil_or_concat s with rfl|⟨t,c,rfl⟩
  ·rw[ay (by simp)];rfl
  ·rw[List.concat_eq_append]at *;simp only[qM,qL,qZ]at h hb;rw[mt,am (by omega),ng _ (by omega),qdf,qB,qcu,qB,vt,am (by omega),ih t (by omega) (by omega),qta]
   cases bl c<;>rfl
def qtw(fu:Nat)(hfu:3<=fu)(s:List UInt8)(h:s.length<fu)(hb:s.length<1000000000):qff fu s [32,9]=some (dn s):=by
 unfold qff;rw[g7]
 cases s with
 |nil=>rfl|cons c s=>
  rw[qW (by simp;omega)]
  unfold qfg;rw[bi (by decide)]
  unfold qmo;rw[bi (by decide)]
  unfold qfh;rw[bi rfl];unfold qmp;obtain⟨n,rfl⟩:∃n,fu=n+3:=⟨fu-3,by omega⟩
  rw[zb3 n,qB,bh (by decide +kernel),bh rfl]
  unfold qmu;rw[qtv _ _ _ h hb];rfl
def q2x(s:List UInt8)(k:UInt8)(hb:s.length<1000000000):wm s [k]=some (decide (s.getLast? = some k)):=by
 unfold wm qfe;rcases List.eq_nil_or_concat s with rfl|⟨t,c,rfl⟩
 ·rw[ay (by simp)];rfl
 ·rw[List.concat_eq_append]at *;simp only[qM,qL,qZ]at hb;rw[mt,show(([k]:List UInt8).length:Int)=1 from rfl,ng _ (by omega),am (by omega),am (by omega),qB]
  have e:List.drop ((t.length:Nat):Int).toNat (t++[c])=[c]:=od t [c];rw[e,List.getLast?_concat];congr 1;rw[Bool.eq_iff_iff];simp
def qj0(s:List UInt8)(k:UInt8)(hb:s.length<1000000000):tr s [k]=some (if s.getLast? = some k then s.dropLast else s):=by
 unfold tr;rw[q2x s k hb,qB,dc];by_cases q:s.getLast? = some k
 ·rw[qX q,qX q];rcases List.eq_nil_or_concat s with rfl|⟨t,c,rfl⟩
  ·cases q
  ·rw[List.concat_eq_append]at *;simp only[qM,qL,qZ]at hb;rw[mt,show(([k]:List UInt8).length:Int)=1 from rfl,ng _ (by omega),am (by omega),vt,List.dropLast_concat]
 ·rw[qW q,qW q]
def qdc(t r:List UInt8)(h:∀x∈t,x≠10):Lib.indexByte (t++10::r) 10=(t.length:Int):=by
 induction t with
 |nil=>rfl|cons c t ih=>
  have hc:=h c qH;rw[wK,Lib.indexByte,ih (fun x hx=>h x (qE _ hx)),qW (by simpa using hc),qW (by simp<;>omega)]
  simp
def qdd(t:List UInt8)(h:∀x∈t,x≠10):Lib.indexByte t 10 = -1:=by
 induction t with
 |nil=>rfl|cons c t ih=>
  have hc:=h c qH;rw[Lib.indexByte,ih (fun x hx=>h x (qE _ hx)),qW (by simpa using hc),qX (by decide)]
def q6e:∀(s:List UInt8),(∃t r,s=t++10::r/\∀x∈t,x≠10)\/∀x∈s,x≠10
 |[] => .inr (fun _ h=>by cases h)
 |c::s=>by
  by_cases k:c=10
  ·exact .inl ⟨[],s,by rw[k];rfl,fun _ h=>by cases h⟩
  ·rcases q6e s with⟨t,r,rfl,h⟩|h
   ·exact .inl ⟨c::t,r,rfl,fun x hx=>by
     rcases List.mem_cons.1 hx with rfl|hx
     ·exact k
     ·exact h x hx⟩
   ·exact .inr (fun x hx=>by
     rcases List.mem_cons.1 hx with rfl|hx
     ·exact k
     ·exact h x hx)
def zhy(t r:List UInt8)(h:∀x∈t,x≠10):qm [] (t++10::r)=om t true++qm [] r:=by
 rw[q42 t [] _ h,List.nil_append,qm,qX rfl]
def zhx(t:List UInt8)(h:∀x∈t,x≠10):qm [] t=om t false:=by
 have:=q42 t [] [] h;rw[List.append_nil,List.nil_append]at this;rw[this];rfl
def qrc:∀(n:Nat)(s:List UInt8),s.length<=n->(dq s).length<=s.length:=by
 intro n
 induction n with
 |zero=>intro s h;have:s=[]:=List.eq_nil_of_length_eq_zero (by omega);subst this;exact wF _|succ n ih=>
  intro s h
  match s with
  |[]=>exact wF _|c::r=>
   simp only[qL]at h;have h1:=ih r (by omega)
   by_cases k:c=61
   ·subst k;rw[q1v]
    cases ki r with
    |none=>simp only[qL];omega|some x=>
     have h2:=ih (r.drop 2) (by simp;omega)
     simp only[qL,List.length_drop]at h2 ⊢;omega
   ·rw[q1w _ _ k];simp only[qL];omega
def qs9(s:List UInt8):(dn s).length<=s.length:=by
 unfold dn;rw[List.length_reverse];have:=(List.dropWhile_sublist bl (l:=s.reverse)).length_le;simpa using this
def qr8(fu:Nat)(hfu:3<=fu)(r0:List UInt8->(Int×Int)->List UInt8->Option ((Int×Int)×List UInt8))(u e r:List UInt8)(m16:Int×Int)(out:List UInt8)(h:u.length<fu)(hb:u.length+e.length+r.length<1000000000)(ho:out.length+u.length+e.length<=2000000000) :
  qbr fu r0 (u++e++r) ((u.length+e.length:Nat):Int) u m16 out=r0 r m16 (out++lnT (dn u) e):=by
 unfold qbr;have hl:=qs9 u;have p3:∀v e',v.length<=u.length->e'.length<=e.length->qbs fu r0 (u++e++r) ((u.length+e.length:Nat):Int) v e' m16 out=r0 r m16 (out++(dq v++e')):=by
  intro v e' hv he;have hd:=qrc _ v (wF _);unfold qbs;rw[zha fu v (by omega) (by omega),qB,am (by simp[bg];omega),am (by simp[bg];omega),am (by simp;omega)]
  have ed:List.drop ((u.length+e.length:Nat):Int).toNat (u++e++r)=r:=by
   have:=od (u++e) r;rw[qM]at this;exact this
  rw[ed,qS]
 rw[am (by simp;omega),qtw fu hfu u h (by omega),qB,am (by simp),q2x _ _ (by omega),qB,dc]
 unfold lnT;by_cases q:(dn u).getLast? = some 61
 ·rw[qX q,qX q];revert hl q;rcases List.eq_nil_or_concat (dn u) with e0|⟨t,c,e0⟩
  ·intro _ q;rw[e0]at q;cases q
  ·rw[e0,List.concat_eq_append];intro hl q;simp only[qM,qL,qZ]at hl;rw[mt,ng _ (by omega),am (by omega),vt,List.dropLast_concat,p3 t [] (by omega) (by simp),List.append_nil]
 ·rw[qW q,qW q];have et:List.take (((u.length+e.length:Nat):Int).toNat-(u.length:Int).toNat) (List.drop (u.length:Int).toNat (u++e++r))=e:=by
   rw[qS,od,show((u.length+e.length:Nat):Int).toNat-(u.length:Int).toNat=e.length by omega]
   simp
  rw[et,p3 (dn u) e hl (wF _)]
def zfz(fu:Nat)(hfu:3<=fu)(r0:List UInt8->(Int×Int)->List UInt8->Option ((Int×Int)×List UInt8))(t r:List UInt8)(m16:Int×Int)(out:List UInt8)(h:t.length<fu)(hb:t.length+r.length+2<1000000000)(ho:out.length+t.length+2<=2000000000) :
  t8 fu r0 (t++10::r) ((t.length+1:Nat):Int) m16 out=r0 r m16 (out++om t true):=by
 unfold t8;have et:List.take ((t.length+1:Nat):Int).toNat (t++10::r)=t++[10]:=by
  rw[show t++10::r=(t++[10])++r by simp,show((t.length+1:Nat):Int).toNat=(t++[10]).length by simp,List.take_left]
 rw[am (by simp;omega),am (by simp),et,qj0 _ _ (by simp;omega),qB,qX (by simp),List.dropLast_concat,am (by omega),am (by simp),qj0 _ _ (by omega),qB]
 unfold om lnE;rw[qX rfl];by_cases q:t.getLast? = some 13
 ·rw[qX q,qX q];revert q h hb ho;rcases List.eq_nil_or_concat t with rfl|⟨u,c,rfl⟩
  ·intro _ _ _ q;cases q
  ·rw[List.concat_eq_append];intro h hb ho q;have:c=13:=by simpa using q
   subst this;simp only[qM,qL,qZ]at h hb ho;rw[List.dropLast_concat];have:=qr8 fu hfu r0 u [13,10] r m16 out (by omega) (by simp;omega) (by simp;omega)
   have e1:(u++[(13:UInt8)]).length+1=u.length+([13,10]:List UInt8).length:=by simp
   have e2:u++[(13:UInt8)]++10::r=u++[13,10]++r:=by simp
   rw[e1,e2];exact this
 ·rw[qW q,qW q];have:=qr8 fu hfu r0 t [10] r m16 out (by omega) (by simp;omega) (by simp;omega)
  simpa using this
def zfy(fu:Nat)(hfu:3<=fu)(r0:List UInt8->(Int×Int)->List UInt8->Option ((Int×Int)×List UInt8))(t:List UInt8)(h10:∀x∈t,x≠10)(m16:Int×Int)(out:List UInt8)(h:t.length<fu)(hb:t.length<1000000000)(ho:out.length+t.length<=2000000000) :
  t8 fu r0 t (t.length:Int) m16 out=r0 [] m16 (out++om t false):=by
 unfold t8;have e1:List.take (t.length:Int).toNat t=t:=by simp
 have hn:t.getLast? ≠ some 10:=by
  intro q;exact h10 10 (List.mem_of_getLast? q) rfl
 rw[am (by omega),am (by simp),e1,qj0 _ _ hb,qB,qW hn,ay (by omega)]
 have:=qr8 fu hfu r0 t [] [] m16 out h (by simp;omega) (by simp;omega)
 simpa [om,lnE] using this
def q3h(t:List UInt8)(nl:Bool):(om t nl).length<=t.length+nl.toNat:=by
 unfold om lnT lnE;have key:∀u e:List UInt8,(if(dn u).getLast? = some 61 then dq (dn u).dropLast else dq (dn u)++e).length<=u.length+e.length:=by
  intro u e;have h1:=qs9 u;split
  ·have:=qrc _ (dn u).dropLast (wF _);rw[List.length_dropLast]at this;omega
  ·have:=qrc _ (dn u) (wF _);rw[qM];omega
 refine Nat.le_trans (key _ _) ?_
 cases nl with
 |false=>simp|true=>
  rw[qX rfl];by_cases q:t.getLast? = some 13
  ·rw[qX q];have:0<t.length:=by
    cases t with
    |nil=>cases q
    |cons _ _=>simp
   simp;omega
  ·rw[qW q];simp
def zhw(fu n:Nat)(hfu:3<=fu)(m16:Int×Int):∀(s out:List UInt8),s.length<n->s.length<fu->s.length<100000000->out.length+s.length<=1000000000 ->
  qbq fu n s m16 out=some ((0,0),out++qm [] s):=by
 induction n with
 |zero=>intro s out h;omega|succ n ih=>
  intro s out h hf hb ho;rw[qbq,qn9];rcases q6e s with⟨t,r,rfl,h10⟩|h10
  ·simp only[qM,qL]at h hf hb ho;have ac:=q3h t true;simp only[Bool.toNat_true]at ac;rw[am (by simp;omega),show wn (t++10::r) 10=some (Lib.indexByte (t++10::r) 10) from rfl,qB,qdc t r h10,bj _ (by omega),g7,qW (by omega)]
   rw[zfz fu hfu _ t r m16 out (by omega) (by omega) (by omega),ih r _ (by omega) (by omega) (by omega) (by rw[qM];omega),zhy t r h10,qS]
  ·cases s with
   |nil=>rw[ay (by simp)];simp[cq,show qm [] []=[] from rfl]|cons c s=>
    have ac:=q3h (c::s) false;simp only[Bool.toNat_false]at ac;rw[am (by simp<;>omega),show wn (c::s) 10=some (Lib.indexByte (c::s) 10) from rfl,qB,qdd _ h10,g7,qX (by decide)]
    rw[zfy fu hfu _ (c::s) h10 m16 out hf (by omega) (by omega)]
    have hn:0<n:=by simp only[qL]at h;omega
    rw[ih [] _ (by simpa using hn) (by simp;omega) (by simp) (by rw[qM];simp only[qZ];omega),zhx _ h10]
    have:qm [] []=[]:=rfl;rw[this,List.append_nil]
def zhv(fu:Nat)(s:List UInt8)(hf:s.length+3<fu)(hb:s.length<=48000):qgd fu s=some ((0,0),qm [] s):=by
 unfold qgd;rw[ay (by omega)]
 have:=zhw fu fu (by omega) (0,0) s [] (by omega) (by omega) (by omega) (by simp;omega)
 rw[List.nil_append]at this;exact this
end Go.Sym.Tr
namespace Go.Sym.Tr
end Go.Sym.Tr
namespace Go.Sym.Tr
def decR(b name:List UInt8):(Int×Int)×List UInt8:=
 if g8 name = -1 then((18,-3),[]) else if 12000<b.length then((1,-1),[]) else
 if g8 name=0 then((0,0),b) else if g8 name=1 then((0,0),b) else
 if g8 name=2 then((0,0),px (lg b)) else((0,0),qm [] b)
def decode_eq(fu:Nat)(b name:List UInt8)(hf:100000+name.length<fu)(hn:name.length<=maxLen):qb5 fu b name=some (decR b name):=by
 unfold qb5 qo2;rw[zeg fu name (by omega) (by omega) hn]
 simp only[qB,bt,cq,ef];unfold decR;rcases zda name with h|h|h|h|h<;>rw[h]
 ·by_cases hl:12000<b.length
  ·have hi:(12000:Int)<(b.length:Int):=by omega
   simp[a7,hl,hi]
  ·have hi:¬(12000:Int)<(b.length:Int):=by omega
   simp[a7,hl,hi,q1e b (by omega)]
 ·by_cases hl:12000<b.length
  ·have hi:(12000:Int)<(b.length:Int):=by omega
   simp[a7,hl,hi]
  ·have hi:¬(12000:Int)<(b.length:Int):=by omega
   simp[a7,hl,hi,q1e b (by omega)]
 ·by_cases hl:12000<b.length
  ·have hi:(12000:Int)<(b.length:Int):=by omega
   simp[a7,hl,hi]
  ·have hi:¬(12000:Int)<(b.length:Int):=by omega
   simp[a7,hl,hi,zfu fu b (by omega) (by omega)]
 ·by_cases hl:12000<b.length
  ·have hi:(12000:Int)<(b.length:Int):=by omega
   simp[a7,hl,hi]
  ·have hi:¬(12000:Int)<(b.length:Int):=by omega
   simp[a7,hl,hi,zhv fu b (by omega) (by omega)]
 ·simp[a7]
end Go.Sym.Tr
namespace Go.Sym
abbrev ceN:Bs:=[67,111,110,116,101,110,116,45,84,114,97,110,115,102,101,114,45,69,110,99,111,100,105,110,103]
abbrev q9w:Type:=Bs->Bs->(Int×Int)×Bs
def qhx(dec:q9w):List Bs->Bs->Bs|[],b=>(dec b [55,98,105,116]).2|v::vs,b=>if(dec b v).1.1≠18 then(dec b v).2 else qhx dec vs b
-- lengths
def zdj(fu n:Nat)(hfu:90000000<=fu)(t:TP):∀(ab aa:List bm),aa.length<n->ab.length+aa.length<100000000->(∀x∈aa,x.1.length<=4000000/\x.2.length<=4000000) ->
  qb6 fu n (ab++aa) ((ab.length+aa.length:Nat):Int) (ab.length:Int) t=some (qhx Tr.decR (dv aa ceN) t.val.2):=by
 induction n with
 |zero=>intro ab aa h;omega|succ n ih=>
  intro ab aa h hb hs;rw[qb6,qpk];simp only[jh]
  cases aa with
  |nil=>
   rw[ay (by simp),Tr.decode_eq fu t.val.2 _ (by simp;omega) (by simp[maxLen]),qB]
   rfl
  |cons y aa=>
   simp only[qL]at h hb;obtain⟨y1,y2⟩:=hs y qH;rw[am (by simp only[qL];omega),cz,qB,ig fu hfu _ _ y1 (by simp),qB,bj _ (by omega),tc]
   have ih:=ih (ab++[y]) aa (by omega) (by simp;omega) (fun x hx=>hs x (qE _ hx))
   simp only[qM,qL,qZ,qS,wM,wO]at ih;rw[show ab.length+(y::aa).length=ab.length+1+aa.length by simp only[qL];omega]
   cases e:lk y.1 ceN
   ·rw[fc,qW (by show ¬lk y.1 ceN=true;rw[e];simp)]
    exact ih
   ·rw[dm,qX (show(y.1.map lo==ceN.map lo)=true from e),Tr.decode_eq fu t.val.2 y.2 (by omega) (by simp only[maxLen];omega),qB,mf,qhx]
    by_cases h18:(Tr.decR t.val.2 y.2).1.1≠18
    ·rw[qX h18,qX h18]
    ·rw[qW h18,qW h18];exact ih
def zdi(fu:Nat)(hfu:90000000<=fu)(t:TP)(hl:t.val.1.length<=4000000)(hs:∀x∈t.val.1,x.1.length<=4000000/\x.2.length<=4000000):qgy fu t=some (qhx Tr.decR (dv t.val.1 ceN) t.val.2):=by
 unfold qgy;simp only[jh];have:=zdj fu fu hfu t [] t.val.1 (by omega) (by simp;omega) hs
 simpa using this
end Go.Sym
namespace Go.Sym
def qjs:∀l:List Int,(fh l).length<=4*l.length
 |[]=>by simp[fh]|x::l=>by
  have:=qjs l;have hx:(gy x).length<=4:=by
   unfold gy Utf8.encode;simp only[]
   repeat' split
   all_goals simp[ByteArray.size]
  have e:fh (x::l)=gy x++fh l:=by simp[fh]
  rw[e,qM,qL];omega
def zit(s:Bs):(ej s).length<=s.length:=qte s s.length 0
def zix(fu n:Nat)(m:Int):∀(ab aa:Bs)(out:List Int),aa.length<n->ab.length+aa.length<100000000->out.length+aa.length<=100000000 ->
  ∃r,qau fu n (ab++aa) ((ab.length+aa.length:Nat):Int) (ab.length:Int) m out=some (m,r)/\r.length<=out.length+aa.length:=by
 induction n with
 |zero=>intro ab aa out h;omega|succ n ih=>
  intro ab aa out h hb ho;rw[qau,qm0]
  cases aa with
  |nil=>rw[ay (by simp)];exact⟨out,rfl,by simp⟩|cons c aa=>
   simp only[qL]at h hb ho;have ih:=fun out=>ih (ab++[c]) aa out (by omega) (by simp;omega)
   simp only[qM,qL,qZ,qS,wM,wO]at ih;rw[am (by simp only[qL];omega),cz,qB,bj _ (by omega),show ab.length+(c::aa).length=ab.length+1+aa.length by simp only[qL];omega,dc]
   split
   ·rw[am (by simp only[bg,qM,qL,qZ];omega)]
    obtain⟨r,h1,h2⟩:=ih (out++[65533]) (by simp;omega)
    exact⟨r,h1,by simp only[qM,qL,qZ]at h2 ⊢;omega⟩
   ·rw[am (by simp only[bg,qM,qL,qZ];omega)]
    obtain⟨r,h1,h2⟩:=ih (out++[(c.toNat:Int)]) (by simp;omega)
    exact⟨r,h1,by simp only[qM,qL,qZ]at h2 ⊢;omega⟩
def q68(k:Nat)(b:Bs)(h:k+1<b.length)(hb:b.length<100000000):∃v,qav (k:Int) b=some (v,b):=by
 unfold qav;rw[qdg b k (by omega),qB,bj k (by omega),qdg b (k+1) h,qB]
 exact⟨_,rfl⟩
def qt8(k:Nat)(h:k<100000000):af ((k:Int)+2)=((k+2:Nat):Int):=by rw[ee (by omega) (by omega)];omega
def zkf(fu:Nat)(r0:Int->Bs->List Int->Option (List Int))(b:Bs)(hb:b.length<100000000)(j:Nat)(v:Int)(out:List Int)(hj:j+2<=b.length)(ho:out.length<=j)
  (h:∀out:List Int,out.length<=j+2->∃r,r0 ((j+2:Nat):Int) b out=some r/\r.length<=b.length):∃r,tv fu r0 (j:Int) v b out=some r/\r.length<=b.length:=by
 have g:∀x:Int,∃r,(bif decide (List.length (out++([x]:List Int))<=bg) then r0 (af ((j:Int)+2)) b (out++([x]:List Int)) else none)=some r/\r.length<=b.length:=fun x=>by
  rw[am (by simp only[bg,qM,qL,qZ];omega),qt8 j (by omega)]
  exact h _ (by simp only[qM,qL,qZ];omega)
 unfold tv;rw[dc];split
 ·rw[dc];split
  ·exact g 65533
  ·exact g v
 ·exact g v
def zkg(fu:Nat)(b:Bs)(hb:b.length<100000000)(n:Nat):∀(k:Nat)(out:List Int),k<=b.length->b.length-k<n->out.length<=k->∃r,qq fu n (k:Int) b out=some r/\r.length<=b.length:=by
 induction n with
 |zero=>intro k out _ h;omega|succ n ih=>
  intro k out hk h ho;rw[qq,qm2];by_cases h0:(k:Int)<(b.length:Int)
  ·rw[am h0,bj k (by omega),g7]
   by_cases h1:((k+1:Nat):Int)=(b.length:Int)
   ·rw[qX h1,am (by simp only[bg,qM,qL,qZ];omega)]
    exact⟨_,rfl,by simp only[qM,qL,qZ];omega⟩
   ·rw[qW h1];obtain⟨v,hv⟩:=q68 k b (by omega) hb
    rw[hv,qB];have p3:∀(j:Nat)(v:Int),k<=j->j+2<=b.length->∃r,tv fu (qq fu n) (j:Int) v b out=some r/\r.length<=b.length:=fun j v h1 h2=>
     zkf fu _ b hb j v out h2 (by omega) fun out ho=>ih (j+2) out (by omega) (by omega) (by omega)
    have p2:∀(v w:Int)(c:Bool),k+3<b.length->∃r,qaw fu (qq fu n) (k:Int) v w c b out=some r/\r.length<=b.length:=fun v w c h4=>by
     unfold qaw;cases c
     ·rw[bi rfl];exact p3 k v (wF _) (by omega)
     ·rw[bh rfl,qt8 k (by omega)];exact p3 (k+2) _ (by omega) (by omega)
    have p1:∀(v:Int)(c:Bool),(c=true->k+3<b.length)->∃r,wo fu (qq fu n) (k:Int) v c b out=some r/\r.length<=b.length:=fun v c hc=>by
     unfold wo;cases c
     ·rw[bi rfl];exact p3 k v (wF _) (by omega)
     ·have h4:=hc rfl;rw[bh rfl,qt8 k (by omega)]
      obtain⟨w,hw⟩:=q68 (k+2) b (by omega) hb
      rw[hw,qB];dsimp only;rw[dc];split
      ·exact p2 v w _ h4
      ·exact p2 v w _ h4
    have e3:af ((k:Int)+3)=((k+3:Nat):Int):=by rw[ee (by omega) (by omega)];omega
    dsimp only;rw[dc];split
    ·rw[dc];split
     ·rw[e3];exact p1 v _ fun q=>by have:=of_decide_eq_true q;omega
     ·exact p1 v false (by simp)
    ·exact p1 v false (by simp)
  ·rw[ay h0];exact⟨out,rfl,by omega⟩
def zef(fu:Nat)(hfu:90000000<=fu)(nm:Bs)(hn:nm.length<=4000000):(∃x:Bs,∃m:Int,tu fu nm=some (.inl (x,(true,m))))\/(∃x:Bs,tu fu nm=some (.inr (.inl (x,true))))\/(∃x:Bs,tu fu nm=some (.inr (.inr (.inl (x,true)))))\/tu fu nm=some (.inr (.inr (.inr ([],false)))):=by
 unfold tu qfj;simp only[qB];rw[ig fu hfu _ _ (by simp) hn,qB]
 cases lk [97,115,99,105,105] nm
 ·rw[bi rfl,ig fu hfu _ _ (by simp) hn,qB]
  cases lk [108,97,116,105,110,49] nm
  ·rw[bi rfl,ig fu hfu _ _ (by simp) hn,qB]
   cases lk [117,116,102,56] nm
   ·rw[bi rfl,ig fu hfu _ _ (by simp) hn,qB]
    cases lk [117,116,102,49,54,98,101] nm
    ·rw[bi rfl];exact .inr (.inr (.inr rfl))
    ·rw[bh rfl];exact .inr (.inr (.inl ⟨_,rfl⟩))
   ·rw[bh rfl];exact .inr (.inl ⟨_,rfl⟩)
  ·rw[bh rfl];exact .inl ⟨_,_,rfl⟩
 ·rw[bh rfl];exact .inl ⟨_,_,rfl⟩
def zc6(fu:Nat)(hfu:90000000<=fu)(nm b:Bs)(hn:nm.length<=4000000):∃s f,qat fu nm b=some (s,f)/\s.length<=48000:=by
 unfold qat;by_cases h12:(12000:Int)<(b.length:Int)
 ·rw[am h12];exact⟨[],_,rfl,by simp⟩
 ·rw[ay h12];rcases zef fu hfu nm hn with⟨x,m,e⟩|⟨x,e⟩|⟨x,e⟩|e<;>rw[e,qB]<;>simp only[a7]
  ·rw[dm];obtain⟨r,h1,h2⟩:=zix fu fu m [] b [] (by omega) (by simp;omega) (by simp;omega)
   have hr:=qjs r;simp only[List.nil_append,qZ,wO]at h1 h2;rw[show((0:Nat):Int)=0 from rfl]at h1
   unfold qmz;rw[h1];exact⟨_,_,rfl,by simp only;omega⟩
  ·rw[dm];have hr:=qjs (ej b);have hv:=zit b;unfold qmy;rw[am (by omega)]
   exact⟨_,_,rfl,by omega⟩
  ·rw[dm];obtain⟨r,h1,h2⟩:=zkg fu b (by omega) fu 0 [] (by omega) (by omega) (by simp)
   have hr:=qjs r;unfold qm1;rw[show(0:Int)=((0:Nat):Int) from rfl,h1]
   exact⟨_,_,rfl,by omega⟩
  ·exact⟨_,_,rfl,by simp⟩
open Go.Lib (indexByte)
def z5o:∀n:_root_.Fin 256,(io [47,32])[(UInt8.ofNat n.val).toNat]? = some (([47,32]:List UInt8).contains (UInt8.ofNat n.val)):=by decide +kernel
def q9q:AC [47,32]:=⟨by decide,by decide,by decide,fun n=>by kernel_rfl,fun c=>lf (fun c=>(io [47,32])[c.toNat]? = some (([47,32]:List UInt8).contains c)) z5o c,by decide +kernel⟩
def z78(fu n:Nat):∀(s:Bs),s.length<n->s.length<1000000000->∃r,qb4 fu n s (io [47,32])=some (r,io [47,32])/\r.length<=s.length:=by
 induction n with
 |zero=>intro s h;omega|succ n ih=>
  intro s h hb;rw[qb4,qoz];rcases List.eq_nil_or_concat s with rfl|⟨t,c,rfl⟩
  ·rw[ay (by simp)];exact⟨[],rfl,by simp⟩
  ·rw[List.concat_eq_append]at *;simp only[qM,qL,qZ]at h hb;obtain⟨r,h1,h2⟩:=ih t (by omega) (by omega)
   rw[mt,am (by omega),ng _ (by omega),qdf,qB,qcu q9q,qB,vt,am (by omega),h1]
   cases ([47,32]:List UInt8).contains c
   ·exact⟨t++[c],rfl,wF _⟩
   ·exact⟨r,rfl,by simp only[qM,qL,qZ];omega⟩
def z74(fu:Nat)(s:Bs)(hfu:100<=fu)(h:s.length<fu)(hb:s.length<1000000000):∃r,qb1 fu s [47,32]=some r/\r.length<=s.length:=by
 unfold qb1
 cases s with
 |nil=>exact⟨[],rfl,by simp⟩|cons c s=>
  rw[bi (by rfl)]
  unfold qgs;rw[bi (by rfl)]
  unfold qoq;rw[bi (by decide)]
  unfold qgt;rw[bi (by rfl)]
  unfold qor;obtain⟨n,rfl⟩:∃n,fu=n+100:=⟨fu-100,by omega⟩
  rw[q9q.set,qB];simp only[q9q.len];rw[bh (by rw[List.length_replicate];rfl),bh (by rfl)]
  unfold qoy;obtain⟨r,h1,h2⟩:=z78 (n+100) (n+100) (c::s) h hb;rw[h1];exact⟨r,rfl,h2⟩
def z7z(fu:Nat)(s:Bs)(hfu:100<=fu)(h:s.length<fu)(hb:s.length<1000000000):∃r,qzj fu s=some r/\r.length<=1:=by
 obtain⟨t,h1,h2⟩:=z74 fu s hfu h hb;unfold qzj;rw[h1,qB,qdp fu t (by omega) (by simp only[maxLen];omega),qB]
 have key:∀(b1 b2 b3 b4:Bool),∃r,(bif b1 then some ([10]:Bs) else bif b2 then some ([10]:Bs) else bif b3 then some ([10]:Bs) else bif b4 then some ([10]:Bs) else some ([]:Bs))=some r/\r.length<=1:=by
  intro b1 b2 b3 b4;cases b1<;>cases b2<;>cases b3<;>cases b4<;>exact⟨_,rfl,by simp⟩
 exact key _ _ _ _
def z5v(fu n:Nat):∀(ab aa:Bs),aa.length<n->ab.length+aa.length<100000000->∃r,qmj fu n (ab++aa) ((ab.length+aa.length:Nat):Int) (ab.length:Int)=some r/\(r=true->∀c∈aa,48<=c.toNat/\c.toNat<=57):=by
 induction n with
 |zero=>intro ab aa h;omega|succ n ih=>
  intro ab aa h hb;rw[qmj,qx1]
  cases aa with
  |nil=>rw[ay (by simp)];exact⟨_,rfl,fun _ c hc=>by cases hc⟩
  |cons c aa=>
   simp only[qL]at h hb;have ih:=ih (ab++[c]) aa (by omega) (by simp;omega)
   simp only[qM,qL,qZ,qS,wM,wO]at ih;rw[am (by simp only[qL];omega),cz,qB,bj _ (by omega),show ab.length+(c::aa).length=ab.length+1+aa.length by simp only[qL];omega,dc]
   split
   ·exact⟨false,rfl,by simp⟩
   ·rename_i h1;rw[qB,dc];split
    ·exact⟨false,rfl,by simp⟩
    ·rename_i h2;obtain⟨r,e,g⟩:=ih;refine⟨r,e,fun hr x hx => ?_⟩
     rcases List.mem_cons.1 hx with rfl|hx
     ·rw[UInt8.lt_iff_toNat_lt]at h1 h2;have e1:(48:UInt8).toNat=48:=rfl;have e2:(57:UInt8).toNat=57:=rfl;omega
     ·exact g hr x hx
def z15:∀(l:Bs)(k acc:Nat),(∀c∈l,48<=c.toNat/\c.toNat<=57)->l.length<=k->acc<10 ^ (15-k)->k<=15->∃u,Lib.parseUint10 acc l = .ok u/\u<10 ^ 15
 |[],k,acc,_,_,ha,hk=>⟨acc,rfl,Nat.lt_of_lt_of_le ha (Nat.pow_le_pow_right (by omega) (by omega))⟩|c::r,k,acc,h,hl,ha,hk=>by
  have hc:=h c qH;simp only[qL]at hl;have hp:10 ^ (15-(k-1))=10 ^ (15-k)*10:=by rw[show 15-(k-1)=15-k+1 by omega,Nat.pow_succ]
  have hle:10 ^ (15-k)<=10 ^ 15:=Nat.pow_le_pow_right (by omega) (by omega)
  have h15:(10:Nat) ^ 15=1000000000000000:=by decide
  rw[Lib.parseUint10,qX hc,qW (by omega),qW (by omega)]
  exact z15 r (k-1) _ (fun x hx=>h x (qE _ hx)) (by omega) (by rw[hp];omega) (by omega)
def z5q(l:Bs)(h:∀c∈l,48<=c.toNat/\c.toNat<=57)(h0:l≠[])(h6:l.length<=6):∃v,qbv l=some v:=by
 obtain⟨u,hu,hlt⟩:=z15 l 6 0 h h6 (by decide) (by omega)
 have h15:(10:Nat) ^ 15=1000000000000000:=by decide
 unfold qbv;rw[am (by omega)]
 cases l with
 |nil=>exact absurd rfl h0|cons c r=>
  have hc:=h c qH;have:Lib.atoiAll (c::r) = .ok (u:Int):=by
   unfold Lib.atoiAll Lib.parseMag;simp only;rw[qW (show ¬(c.toNat=43\/c.toNat=45) by omega),qW (show ¬(c::r=[]) by simp),hu]
   simp only;rw[qW (by omega),qW (by omega),qW (by omega)]
  rw[this];exact⟨_,rfl⟩
def z69(x:Int):(gy x).length<=4:=by
 unfold gy Utf8.encode;simp only[]
 repeat' split
 all_goals simp[ByteArray.size]
def zy5(fu:Nat)(s:Bs)(b:Bool)(h:b=false->∃v,qbv s=some v):∃r c,qg0 fu s b=some (r,c)/\r.length<=4:=by
 unfold qg0;cases b
 ·obtain⟨v,hv⟩:=h rfl;rw[bi rfl,hv,qB];exact⟨_,_,rfl,z69 _⟩
 ·rw[bh rfl];exact⟨[],false,rfl,by simp⟩
def z54(fu:Nat)(hfu:90000000<=fu)(s:Bs)(c:Bool)(hs:s.length<=1000000):∃r d,(bif !c then qg0 fu s true else(qx0 fu s).bind fun x2=>bif !x2 then qg0 fu s true else qg0 fu s (decide ((6:Int)<(List.length s:Int))))=some (r,d)/\r.length<=4:=by
 have t0:=zy5 fu s true (by simp)
 cases c
 ·rw[fc];exact t0
 ·rw[dm];obtain⟨r,h1,h2⟩:=z5v fu fu [] s (by omega) (by simp;omega)
  simp only[List.nil_append,qZ,wO]at h1;rw[show((0:Nat):Int)=0 from rfl]at h1
  unfold qx0;rw[h1,qB];cases hr:r
  ·rw[fc];exact t0
  ·rw[dm];refine zy5 fu s _ fun hd => ?_
   have h6:=of_decide_eq_false hd;refine z5q s (h2 hr) (fun q => ?_) (by omega)
   subst q;obtain⟨n,rfl⟩:∃n,fu=n+1:=⟨fu-1,by omega⟩
   rw[qmj,qx1,ay (by simp)]at h1
   rw[hr]at h1;exact absurd h1 (by decide)
def z5r(s:Bs)(hs:s.length<=1000000):∃r c,qyq s [35]=some (r,c)/\r.length<=s.length:=by
 have hp:∃b,qx9 s [35]=some b/\(b=true->1<=s.length):=by
  unfold qx9;by_cases h1:((List.length ([35]:Bs):Int)<=(List.length s:Int))
  ·rw[am h1,am ⟨by simp,h1⟩];exact⟨_,rfl,fun _=>by simp only[qL,qZ]at h1;omega⟩
  ·rw[ay h1];exact⟨false,rfl,by simp⟩
 obtain⟨b,h1,h2⟩:=hp;unfold qyq qx8;rw[h1,qB];cases b
 ·rw[fc];exact⟨s,false,rfl,wF _⟩
 ·have:=h2 rfl;rw[dm,am ⟨by simp,by simp only[qL,qZ];omega⟩]
  exact⟨_,true,rfl,by rw[List.length_drop];omega⟩
def z56(fu:Nat)(hfu:90000000<=fu)(s:Bs)(hs:s.length<=1000000):∃r c,qzf fu s=some (r,c)/\r.length<=4:=by
 unfold qzf
 iterate 5 (rw[q0m];split;exact⟨_,_,rfl,by simp⟩)
 obtain⟨t,c,h1,h2⟩:=z5r s hs;rw[h1,qB];exact z54 fu hfu t c (by omega)
def z6i(l:Bs)(c:UInt8) : -1<=indexByte l c/\indexByte l c<(l.length:Int):=by
 have h:=Lib.indexByte_ge l c;refine⟨h,?_⟩;by_cases h1:indexByte l c = -1
 ·omega
 ·obtain⟨h2,_⟩:=Lib.indexByte_some (l:=l) (c:=c) (o:=(indexByte l c).toNat) (by omega)
  have:=(List.getElem?_eq_some_iff.1 h2).1;omega
def z4w(c:UInt8)(out:Bs)(h:out.length<=1000000000):qbw c out=some (out++[c]):=by
 unfold qbw wq;rw[qB,am (by simp only[bg,qM,qL,qZ];omega)]
def z4x(t out:Bs)(h:out.length<=1000000000)(ht:t.length<=1000):qof t out=some ((List.length t:Int),out++t):=by
 unfold qof wq;rw[qB,am (by simp only[bg,qM];omega)]
def z7y(fu:Nat)(hfu:90000000<=fu)(s:Bs)(hs:s.length<=1000000)(n:Nat):∀(k:Nat)(out:Bs),k<=s.length->s.length-k<n->out.length<=4*k->∃r,qpn fu n s (k:Int) out=some r:=by
 induction n with
 |zero=>intro k out _ h;omega|succ n ih=>
  intro k out hk h ho;rw[qpn,qzi];by_cases h0:(k:Int)<(s.length:Int)
  ·have hkl:k<s.length:=by omega
   have hone:∃r,((ap s (k:Int)).bind fun c5=>(qbw c5 out).bind fun x6=>qpn fu n s (af ((k:Int)+(1:Int))) x6)=some r:=by
    rw[qdg s k hkl,qB,z4w _ _ (by omega),qB,bj k (by omega)]
    exact ih (k+1) _ (by omega) (by omega) (by simp only[qM,qL,qZ];omega)
   have hg:0<=(k:Int)/\(k:Int)<=(List.length s:Int):=by omega
   have hmore:∀(j:Int),0<j->(k:Int)+j<(s.length:Int)->∃m:Nat,af ((k:Int)+j)=(m:Int)/\k<m/\m<s.length/\af ((m:Int)+1)=((m+1:Nat):Int):=fun j h1 h2=>by
    refine⟨k+j.toNat,?_,by omega,by omega,bj _ (by omega)⟩
    rw[ee (by omega) (by omega)];omega
   have hx:∀c:UInt8,ud (List.drop (k:Int).toNat s) c=some (indexByte (List.drop (k:Int).toNat s) c):=fun c=>rfl
   have hr:∀c:UInt8,indexByte (List.drop (k:Int).toNat s) c<(s.length:Int)-k:=fun c=>by
    have:=(z6i (List.drop (k:Int).toNat s) c).2;rw[List.length_drop]at this;omega
   rw[am h0,qdg s k hkl,qB];have hone':=hone;rw[qdg s k hkl,qB]at hone';cases hc:(s[k]==(60:UInt8))
   ·rw[bi rfl];cases hd:(s[k]==(38:UInt8))
    ·rw[bi rfl];exact hone'
    ·rw[bh rfl,am hg,hx,qB,dc];split
     ·rename_i h1;obtain⟨m,m1,m2,m3,m4⟩:=hmore _ h1 (by have:=hr 59;omega)
      rw[m1,bj k (by omega),am (by omega)]
      obtain⟨r,c,e1,e2⟩:=z56 fu hfu (List.take ((m:Int).toNat-((k+1:Nat):Int).toNat) (List.drop ((k+1:Nat):Int).toNat s)) (by rw[List.length_take,List.length_drop];omega)
      rw[e1,qB];dsimp only;cases c
      ·rw[bi rfl,qB,z4w _ _ (by omega),qB]
       exact ih (k+1) _ (by omega) (by omega) (by simp only[qM,qL,qZ];omega)
      ·rw[bh rfl,z4x _ _ (by omega) (by omega),qB,m4]
       exact ih (m+1) _ (by omega) (by omega) (by simp only[qM];omega)
     ·exact hone'
   ·rw[bh rfl,am hg,hx,qB,dc];split
    ·rename_i h1;obtain⟨m,m1,m2,m3,m4⟩:=hmore _ h1 (by have:=hr 62;omega)
     rw[m1,bj k (by omega),am (by omega)]
     obtain⟨r,e1,e2⟩:=z7z fu (List.take ((m:Int).toNat-((k+1:Nat):Int).toNat) (List.drop ((k+1:Nat):Int).toNat s)) (by omega) (by rw[List.length_take,List.length_drop];omega) (by rw[List.length_take,List.length_drop];omega)
     rw[e1,qB,z4x _ _ (by omega) (by omega),qB,m4]
     exact ih (m+1) _ (by omega) (by omega) (by simp only[qM];omega)
    ·exact hone'
  ·rw[ay h0];exact⟨_,rfl⟩
def z7x(fu:Nat)(hfu:90000000<=fu)(s:Bs)(hs:s.length<=1000000):∃r,qzh fu s=some r:=z7y fu hfu s hs fu 0 [] (by omega) (by omega) (by simp)
def z2k:∀(k:Nat)(s old new:Bs),(Lib.replaceK old new k s).length<=s.length+k*new.length
 |0,s,old,new=>by rw[Lib.replaceK];omega|k+1,s,old,new=>by
  rw[Lib.replaceK];split
  ·omega
  ·have:=z2k k (s.drop ((Lib.index s old).toNat+old.length)) old new;rw[List.length_drop]at this;simp only[qM,List.length_take];rw[Nat.add_mul];omega
def z2e(s:Bs)(hs:s.length<=100000):∃r,xd s [13,10] [10]=some r/\r.length<=300000:=by
 unfold xd;rw[am ⟨by decide,by omega,by simp only[qL,qZ];omega⟩]
 refine⟨_,rfl,?_⟩;have hc:=Lib.count_le s [13,10];unfold Lib.replaceAll Lib.replace Lib.replaceNum;rw[qW (by decide),qX (by omega)]
 have:=z2k (Lib.count s [13,10]) s [13,10] [10];simp only[qL,qZ]at this;omega
def z4h(fu:Nat)(hfu:90000000<=fu)(t:TP)(ht:Fv t):∃s,qpo fu t=some s/\s.length<=300000:=by
 obtain⟨y1,y2⟩:=zkc t.val.1;have hsm:∀x∈t.val.1,x.1.length<=4000000/\x.2.length<=4000000:=fun x hx=>by have:=ht.2 x hx;omega
 have hp:(d7 (ta t.val.1).2.2 [99,104,97,114,115,101,116]).1.length<=4000000:=zgx _ _ _ fun x hx=>(y1.2.2.2 x hx).2
 unfold qpo;simp only[jh];rw[q7d fu hfu t (by have:=ht.1;omega) hsm,qB,q7c fu hfu _ _ (by simp) y1 y2,qB,zdi fu hfu t (by have:=ht.1;omega) hsm,qB]
 obtain⟨s,f,e1,e2⟩:=zc6 fu hfu _ (qhx Tr.decR (dv t.val.1 ceN) t.val.2) hp;rw[e1,qB,g7];split
 ·obtain⟨s',f',e1',e2'⟩:=zc6 fu hfu [117,116,102,56] (qhx Tr.decR (dv t.val.1 ceN) t.val.2) (by simp)
  obtain⟨r,g1,g2⟩:=z2e s' (by omega)
  rw[e1',qB,g1];exact⟨r,rfl,g2⟩
 ·obtain⟨r,g1,g2⟩:=z2e s (by omega)
  rw[g1];exact⟨r,rfl,g2⟩
end Go.Sym
