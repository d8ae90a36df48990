/- What the claim rests on, part 5: gathered texts. -/
import Derived.Sort.AssemblyPlain
import Derived.Test.YtbcijcbgdaggdaaGreatDoorSyT3
set_option maxRecDepth 100000
set_option linter.defProp false
set_option linter.unusedSimpArgs false
set_option linter.unusedVariables false
namespace Go.Sym
def cm{x:Int}(h1 : -9223372036854775808<=x:=by omega)(h2:x<9223372036854775808:=by omega):af x=x:=by
 unfold af IntKind.wrap;simp[IntKind.signed,IntKind.bits];omega
def a8{α:Type}{b:Bool}{x y:α}(h:b=true:=by first|rfl|simp;done):(bif b then x else y)=x:=by subst h;rfl
def a7{α:Type}{b:Bool}{x y:α}(h:b=false):(bif b then x else y)=y:=by subst h;rfl
def cd{α:Type}{p:Prop}[Decidable p]{x y:α}:(bif decide p then x else y)=if p then x else y:=by by_cases h:p<;>simp[h]
def ag{α:Type}{p:Prop}[Decidable p]{x y:α}(h:p:=by first|omega|simp;done|simp;omega):(bif decide p then x else y)=x:=a8 (decide_eq_true h)
def au{α:Type}{p:Prop}[Decidable p]{x y:α}(h:¬p:=by first|omega|simp;done|simp;omega):(bif decide p then x else y)=y:=a7 (decide_eq_false h)
def zjg{α:Type}{b:Bool}{x y:α}:(bif !b then x else y)=if b=false then x else y:=by cases b<;>rfl
def zjf{α:Type}{b:Bool}{x y:α}:(bif b then x else y)=if b=true then x else y:=by cases b<;>rfl
def dt{α:Type}{a b:Int}{x y:α}:(bif a != b then x else y)=if a≠b then x else y:=by
 by_cases h:a=b
 ·rw[a7 (by simp[h]),qW (by simp[h])]
 ·rw[a8 (by simp[h]),qX h]
def fe{α:Type}{a b:Int}{x y:α}:(bif a==b then x else y)=if a=b then x else y:=by
 by_cases h:a=b
 ·rw[a8 (by simp[h]),qX h]
 ·rw[a7 (by simp[h]),qW h]
def kg{α:Type}{a b:UInt8}{x y:α}:(bif a==b then x else y)=if a=b then x else y:=by
 by_cases h:a=b
 ·rw[a8 (by simp[h]),qX h]
 ·rw[a7 (by simp[h]),qW h]
def qmw{α:Type}{a b:UInt8}{x y:α}:(bif a != b then x else y)=if a≠b then x else y:=by
 by_cases h:a=b
 ·rw[a7 (by simp[h]),qW (by simp[h])]
 ·rw[a8 (by simp[h]),qX h]
def qo5{α β:Type}(l:List α)(i:Int)(f:α->Option β):(bif decide (0<=i/\i.toNat<List.length l) then(l[i.toNat]?).bind f else none)=(am l i).bind f:=by
 unfold am;by_cases h:0<=i
 ·by_cases h2:i.toNat<l.length
  ·simp[h,h2]
  ·simp[h,h2]
 ·simp[h]
def qcv{α:Type}(l:List α)(k:Nat)(h:k<l.length):am l (k:Int)=some l[k]:=by
 unfold am;rw[qX];simp[h]
def bt{α:Type}(ab:List α)(c:α)(aa:List α):am (ab++c::aa) (ab.length:Int)=some c:=by
 unfold am;rw[qX];simp
def nh{α:Type}(ab:List α)(c:α)(aa:List α):(ab++c::aa)[((ab.length:Nat):Int).toNat]? = some c:=by simp
def wo{α:Type}(ab:List α)(c d:α)(aa:List α):List.set (ab++c::aa) ((ab.length:Nat):Int).toNat d=ab++d::aa:=by simp
def ay(k:Nat)(h:k<9223372036854775807:=by omega):af ((k:Int)+1)=((k+1:Nat):Int):=by rw[cm];omega
def iv(P:UInt8->Prop)(h:∀n:_root_.Fin 256,P (UInt8.ofNat n.val))(c:UInt8):P c:=by
 have:=h ⟨c.toNat,c.toNat_lt⟩;simpa using this
def lo(c:UInt8):UInt8:=if 65<=c/\c<=90 then c+32 else c
def bl(c:UInt8):Bool:=c==32||c==9
def ch(l:List UInt8):List UInt8:=(l.reverse.dropWhile bl).reverse
def dy(l:List UInt8):List UInt8:=l.dropWhile bl
def ji(l:List UInt8):List UInt8:=ch (dy l)
def qc6(t:List UInt8)(c:UInt8):ch (t++[c])=if bl c then ch t else t++[c]:=by
 unfold ch;rw[List.reverse_append,List.reverse_singleton,wM,List.dropWhile];cases bl c
 ·simp
 ·simp
def lg(n:Nat)(h:n<1000000000):af (((n+1:Nat):Int)-1)=(n:Int):=by rw[cm];omega
def qcu{α:Type}(t:List α)(c:α):am (t++[c]) (t.length:Int)=some c:=bt t c []
def wu{α:Type}(t:List α)(c:α):List.take ((t.length:Nat):Int).toNat (t++[c])=t:=by simp
def kp{α:Type}(t:List α)(c:α):((t++[c]).length:Int)=((t.length+1:Nat):Int):=by simp
def pd{α:Type}(ab:List α)(aa:List α):List.drop ((ab.length:Nat):Int).toNat (ab++aa)=aa:=by simp
def wv{α:Type}(ab:List α)(aa:List α):List.take ((ab.length:Nat):Int).toNat (ab++aa)=ab:=by simp
def vg{α:Type}(ab:List α)(c:α)(aa:List α):List.drop ((ab.length+1:Nat):Int).toNat (ab++c::aa)=aa:=by
 rw[show((ab.length+1:Nat):Int).toNat=(ab++[c]).length by simp,show ab++c::aa=(ab++[c])++aa by simp]
 simp
def fg{α:Type}(ab:List α)(c:α)(aa:List α):((ab++c::aa).length:Int)=((ab.length+aa.length+1:Nat):Int):=by simp;omega
def q8t{α:Type}(ab:List α)(aa:List α):((ab++aa).length:Int)=((ab.length+aa.length:Nat):Int):=by simp
def zg(k:UInt8)(t r:List UInt8)(h:∀x∈t,x≠k):Lib.indexByte (t++k::r) k=(t.length:Int):=by
 induction t with
 |nil=>simp[Lib.indexByte]|cons c t ih=>
  have hc:=h c qH;rw[wK,Lib.indexByte,ih (fun x hx=>h x (qE _ hx)),qW (by simpa using hc),qW (by simp<;>omega)]
  simp
def zh(k:UInt8)(t:List UInt8)(h:∀x∈t,x≠k):Lib.indexByte t k = -1:=by
 induction t with
 |nil=>rfl|cons c t ih=>
  have hc:=h c qH;rw[Lib.indexByte,ih (fun x hx=>h x (qE _ hx)),qW (by simpa using hc),qX (by decide)]
def ud(k:UInt8):∀(s:List UInt8),(∃t r,s=t++k::r/\∀x∈t,x≠k)\/∀x∈s,x≠k
 |[] => .inr (fun _ h=>by cases h)
 |c::s=>by
  by_cases hc:c=k
  ·subst hc;exact .inl ⟨[],s,rfl,fun _ h=>by cases h⟩
  ·rcases ud k s with⟨t,r,rfl,h⟩|h
   ·exact .inl ⟨c::t,r,rfl,fun x hx=>(List.mem_cons.1 hx).elim (fun e=>e▸hc) (h x)⟩
   ·exact .inr fun x hx=>(List.mem_cons.1 hx).elim (fun e=>e▸hc) (h x)
def q8b(k:UInt8)(s:List UInt8):(0<=Lib.indexByte s k)↔k∈s:=by
 rcases ud k s with⟨t,r,rfl,h⟩|h
 ·rw[zg k t r h];simp
 ·rw[zh k s h];constructor
  ·intro h;omega
  ·intro hk;exact absurd rfl (h k hk)
def d5{α:Type}{x y:α}:(bif !false then x else y)=x:=rfl
def de{α:Type}{x y:α}:(bif !true then x else y)=y:=rfl
def qmv(a b:UInt8):(a==b)=(b==a):=by
 by_cases h:a=b
 ·rw[h]
 ·rw[beq_false_of_ne h,beq_false_of_ne (Ne.symm h)]
def q5i{a b:Nat}(h:a<b):Nat.blt a b=true:=Nat.ble_eq_true_of_le h
def q5h{a b:Nat}(h:¬a<b):Nat.blt a b=false:=by
 cases hq:Nat.blt a b
 ·rfl
 ·exact absurd (Nat.le_of_ble_eq_true hq) h
def qxi(l:List UInt8)(k:Nat)(c:UInt8)(h:l[k]? = some c):(⟨l.toArray⟩:ByteArray).get! k=c:=by
 obtain⟨hk,rfl⟩:=List.getElem?_eq_some_iff.1 h;show(l.toArray)[k]! = _;simp[hk]
def zse(l:List UInt8):(⟨l.toArray⟩:ByteArray).size=l.length:=by simp[ByteArray.size]
def zaq(s:List UInt8)(p:Nat)(c:UInt8)(h:s[p]? = some c)(hc:c.toNat<128):d9 s p=(c.toNat,1):=by
 unfold d9 Utf8.decode;simp only[Nat.add_zero,qxi s p c h,hc,if_true]
def zq0(s:List UInt8)(p:Nat)(c:UInt8)(h:s[p]? = some c)(hc:128<=c.toNat):128<=(d9 s p).1/\1<=(d9 s p).2/\∀j,j<(d9 s p).2->∃d,s[p+j]? = some d/\128<=d.toNat:=by
 have hn:¬c.toNat<128:=by omega
 have cont:∀k,(decide (p+k<(⟨s.toArray⟩:ByteArray).size)&&((⟨s.toArray⟩:ByteArray).get! (p+k)).toNat/64==2)=true->∃d,s[p+k]? = some d/\128<=d.toNat:=by
  intro k hk;simp only[qA,decide_eq_true_eq,beq_iff_eq,zse]at hk;obtain⟨h1,h2⟩:=hk;refine⟨s[p+k],by simp[h1],?_⟩
  rw[qxi s (p+k) s[p+k] (by simp[h1])]at h2
  omega
 have z:∀j,j<1->∃d,s[p+j]? = some d/\128<=d.toNat:=fun j hj=>by
  obtain rfl:j=0:=by omega
  exact⟨c,h,hc⟩
 unfold d9 Utf8.decode;simp only[Nat.add_zero,qxi s p c h,hn,if_false];split
 ·rename_i hk;simp only[qA]at hk;have c1:=cont 1 (by simpa using hk.2)
  split
  ·rename_i hge;refine⟨hge,by simp,fun j hj => ?_⟩
   match j,hj with|0,_=>exact⟨c,h,hc⟩|1,_=>exact c1
  ·exact⟨by simp[Utf8.runeError],wF _,z⟩
 ·split
  ·rename_i hk;simp only[qA]at hk;have c1:=cont 1 (by simpa using hk.1.2)
   have c2:=cont 2 (by simpa using hk.2)
   split
   ·rename_i hge;simp only[qA,decide_eq_true_eq]at hge;refine⟨by simp only;omega,by simp,fun j hj => ?_⟩
    match j,hj with|0,_=>exact⟨c,h,hc⟩|1,_=>exact c1|2,_=>exact c2
   ·exact⟨by simp[Utf8.runeError],wF _,z⟩
  ·split
   ·rename_i hk;simp only[qA]at hk;have c1:=cont 1 (by simpa using hk.1.1.2)
    have c2:=cont 2 (by simpa using hk.1.2)
    have c3:=cont 3 (by simpa using hk.2)
    split
    ·rename_i hge;simp only[qA,decide_eq_true_eq]at hge;refine⟨by simp only;omega,by simp,fun j hj => ?_⟩
     match j,hj with|0,_=>exact⟨c,h,hc⟩|1,_=>exact c1|2,_=>exact c2|3,_=>exact c3
    ·exact⟨by simp[Utf8.runeError],wF _,z⟩
   ·exact⟨by simp[Utf8.runeError],wF _,z⟩
def zq4(n:Int)(h:128<=n):∃t c,ou n=t++[c]/\128<=c.toNat/\t.length<=3:=by
 unfold ou Utf8.encode;have hc:∀c:Nat,(if Utf8.valid n=true then n.toNat else Utf8.runeError)=c->128<=c:=by
  intro c hc;split at hc
  ·omega
  ·subst hc;decide
 have last:∀m:Nat,128<=(UInt8.ofNat (0x80+m%64)).toNat:=fun m=>by
  simp only[UInt8.toNat_ofNat'];omega
 generalize hq:(if Utf8.valid n=true then n.toNat else Utf8.runeError)=c
 have hc:=hc c hq;simp only[];rw[qW (by omega)]
 split
 ·exact⟨[_],_,rfl,last _,by simp⟩
 ·split
  ·exact⟨[_,_],_,rfl,last _,by simp⟩
  ·exact⟨[_,_,_],_,rfl,last _,by simp⟩
def qx2(c:UInt8):(c+97)-65=c+32:=by
 rw[UInt8.sub_eq_add_neg,UInt8.add_assoc];rfl
def qhu(fu:Nat):∀(n:Nat)(ab aa:List UInt8),aa.length<n->ab.length+aa.length<=9223372036854775807 ->
  si fu n ((ab.length+aa.length:Nat):Int) (ab.length:Int) (ab++aa)=some (ab++aa.map lo)
 |0,_,_,h,_=>absurd h (by omega)|n+1,ab,[],_,_=>by simp[si,qaz]|n+1,ab,c::aa,h,hb=>by
  simp only[qL]at h hb;have ih:=fun d=>qhu fu n (ab++[d]) aa (by omega) (by simp;omega)
  simp only[qM,qL,qZ,qS,wM,wO]at ih;have e:((ab.length+(c::aa).length:Nat):Int)=((ab.length+1+aa.length:Nat):Int):=by simp only[qL];omega
  have hl:0<=(ab.length:Int)/\(ab.length:Int).toNat<(ab++c::aa).length:=by simp
  rw[e];simp only[si,qaz];rw[ag,ag hl,nh,qB,wo,ay _,cd,cd,ih,ih,ag hl,qB]
  unfold lo;simp only[List.map_cons,qx2];by_cases h1:(65:UInt8)<=c
  ·by_cases h2:c<=90
   ·simp[h1,h2]
   ·simp[h1,h2]
  ·simp[h1]
def qcz(fu:Nat)(s:List UInt8)(h:s.length<fu)(hb:s.length<=maxLen):um fu s=some (s.map lo):=by
 unfold um;rw[ag hb];have:=qhu fu fu [] s h (by simpa [maxLen] using hb)
 simpa using this
def zjx(fu:Nat)(a b:List UInt8)(ha:a.length<fu)(hb:b.length<fu)(ha':a.length<=maxLen)(hb':b.length<=maxLen):ei fu a b=some (a.map lo==b.map lo):=by
 unfold ei;rw[fe,qcz fu a ha ha',qcz fu b hb hb'];by_cases h:(a.length:Int)=b.length
 ·rw[qX h];rfl
 ·rw[qW h];have:(a.map lo==b.map lo)=false:=by
   rw[beq_eq_false_iff_ne];intro q;apply h;have:=congrArg List.length q;simp only[wC]at this;omega
  rw[this]
def ztm(c:UInt8):jy (c.toNat:Int)=c:=by
 unfold jy;have:=c.toNat_lt;rw[show((c.toNat:Int)%256).toNat=c.toNat by omega]
 simp
def zca(s:List UInt8)(c:UInt8):qfz s c=some (Lib.indexByte s c):=rfl
def zm5(fu:Nat)(cs:List UInt8)(c:UInt8)(h:c.toNat<128):u5 fu cs (c.toNat:Int)=some (Lib.indexByte cs c):=by
 unfold u5 qf0;rw[ag,ag,ztm,zca];rfl
def zm3(fu n:Nat):∀(cs:List UInt8)(p:Nat),(∀c∈cs,c.toNat<128)->cs.length-p<n->p<=cs.length->qf1 fu n cs p=some (-1):=by
 induction n with
 |zero=>intro cs p _ h;omega|succ n ih=>
  intro cs p hA h hp;rw[qf1,qtg];by_cases hlt:p<cs.length
  ·have e:cs[p]? = some cs[p]:=List.getElem?_eq_getElem hlt;have hc:=hA cs[p] (List.getElem_mem hlt);rw[a8 (q5i hlt),zaq cs p _ e hc,fe,qW (by simp only;omega)]
   exact ih cs (p+1) hA (by omega) (by omega)
  ·rw[a7 (q5h hlt)]
def zm4(fu:Nat)(cs:List UInt8)(r:Int)(hr:128<=r)(hA:∀c∈cs,c.toNat<128)(hfu:cs.length<fu)(hb:cs.length<1000):u5 fu cs r=some (-1):=by
 unfold u5 qf0;rw[ag,au,fe]
 by_cases h1:r=65533
 ·rw[qX h1];exact zm3 fu fu cs 0 hA (by omega) (by omega)
 rw[qW h1];have hv:∃b,ql5 r=some b:=by
  unfold ql5;simp only[cd]
  repeat' split
  all_goals exact⟨_,rfl⟩
 obtain⟨b,hv⟩:=hv;rw[hv,qB];cases b
 ·rfl
 rw[show(!true)=false from rfl,qF]
 obtain⟨t,c,e,hc,ht⟩:=zq4 r hr;rw[e,kp,lg _ (by omega)]
 obtain⟨n,rfl⟩:∃n,fu=n+1:=⟨fu-1,by omega⟩
 rw[qls,qth];by_cases hl:t.length<cs.length
 ·have hcs:=hA cs[t.length] (List.getElem_mem hl);have hne:cs[t.length]≠c:=fun e=>by rw[e]at hcs;omega
  rw[ag,qcv _ _ hl,qB,qcu,qB,qmw,qX hne,ay _,ag,qB,zca,qB,zh,ag (by decide)]
  intro x hx e;have:=hA x (List.mem_of_mem_drop hx);rw[e]at this;omega
 ·rw[au]
def lm(cs:List UInt8):List Bool:=cs.foldl (fun m c=>m.set c.toNat true) (List.replicate 256 false)
structure AC(cs:List UInt8):Prop where
 two:2<=cs.length
 few:cs.length<100
 low:∀c∈cs,c.toNat<128
 set:∀n,qbt (n+100) cs=some (lm cs,true)
 get:∀c:UInt8,(lm cs)[c.toNat]? = some (cs.contains c)
 len:(lm cs).length=256
def qg5{cs:List UInt8}(A:AC cs)(c:UInt8):qbs c (lm cs)=some (cs.contains c,lm cs):=by
 unfold qbs;rw[A.get];rfl
def zmu{cs:List UInt8}(A:AC cs)(fu n:Nat):∀(ab aa:List UInt8),aa.length<n->ab.length+aa.length<1000000000 ->
  ∃r,qfx fu n (ab++aa) (ab.length:Int) (lm cs)=some r/\decide (0<=r)=aa.any cs.contains:=by
 induction n with
 |zero=>intro ab aa h;omega|succ n ih=>
  intro ab aa h hb;rw[qfx,qtd]
  cases aa with
  |nil=>rw[au];exact⟨-1,rfl,rfl⟩|cons c aa=>
   simp only[qL]at h hb;rw[fg,ag,bt,qB,qg5 A,qB]
   cases hc:cs.contains c
   ·obtain⟨r,h1,h2⟩:=ih (ab++[c]) aa (by omega) (by simp;omega)
    refine⟨r,?_,by rw[h2,List.any_cons,hc,Bool.false_or]⟩
    rw[ay _]
    simpa using h1
   ·exact⟨_,rfl,by rw[List.any_cons,hc,Bool.true_or];exact decide_eq_true (by omega)⟩
def zmv{cs:List UInt8}(A:AC cs)(fu:Nat)(hfu:100<=fu)(s:List UInt8):∀(n p:Nat),s.length-p<n->p<=s.length ->
  ∃r,qfy fu n cs s p=some r/\decide (0<=r)=(s.drop p).any cs.contains:=by
 intro n
 induction n with
 |zero=>intro p h;omega|succ n ih=>
  intro p h hp;rw[qfy,qte];by_cases hlt:p<s.length
  ·have e:s[p]? = some s[p]:=List.getElem?_eq_getElem hlt;have hd:s.drop p=s[p]::s.drop (p+1):=List.drop_eq_getElem_cons hlt;rw[a8 (q5i hlt)];by_cases hc:s[p].toNat<128
   ·rw[zaq s p _ e hc];simp only;rw[zm5 fu cs _ hc,qB,cd,hd,List.any_cons];by_cases hm:s[p]∈cs
    ·rw[qX ((q8b _ _).2 hm)];exact⟨_,rfl,by rw[show cs.contains s[p]=true by simpa using hm,Bool.true_or];exact decide_eq_true (by omega)⟩
    ·rw[qW (fun h=>hm ((q8b _ _).1 h))]
     obtain⟨r,h1,h2⟩:=ih (p+1) (by omega) (by omega)
     exact⟨r,h1,by rw[h2,show cs.contains s[p]=false by simpa using hm,Bool.false_or]⟩
   ·obtain⟨q1,q2,q3⟩:=zq0 s p _ e (by omega)
    rw[zm4 fu cs _ (by omega) A.low (by have:=A.few;omega) (by have:=A.few;omega),qB,au (by decide)]
    have hle:p+(d9 s p).2<=s.length:=by
     obtain⟨d,hd,_⟩:=q3 ((d9 s p).2-1) (by omega)
     have:=(List.getElem?_eq_some_iff.1 hd).1;omega
    obtain⟨r,h1,h2⟩:=ih (p+(d9 s p).2) (by omega) hle
    refine⟨r,h1,?_⟩;rw[h2];have:∀w,(∀j,j<w->∃d,s[p+j]? = some d/\128<=d.toNat)->(s.drop (p+w)).any cs.contains=(s.drop p).any cs.contains:=by
     intro w
     induction w with
     |zero=>intro _;rfl|succ w ihw=>
      intro hw;rw[← ihw (fun j hj=>hw j (by omega))]
      obtain⟨d,hd,hd2⟩:=hw w (by omega)
      obtain⟨k1,k2⟩:=List.getElem?_eq_some_iff.1 hd;rw[List.drop_eq_getElem_cons k1,k2,List.any_cons,show cs.contains d=false by
       simp only[List.contains_eq_mem,decide_eq_false_iff_not];intro hm;have:=A.low d hm;omega,Bool.false_or]
      rfl
    exact this _ q3
  ·rw[a7 (q5h hlt)];exact⟨-1,rfl,by rw[List.drop_eq_nil_of_le (by omega)];rfl⟩
def zko{cs:List UInt8}(A:AC cs)(fu:Nat)(s:List UInt8)(hfu:100<=fu)(h:s.length<fu)(hb:s.length<1000000000):qlm fu s cs=some (s.any cs.contains):=by
 unfold qlm;have:∃r,qlq fu s cs=some r/\decide (0<=r)=s.any cs.contains:=by
  unfold qlq;have h2:=A.two;rw[a7 (by cases cs with
   |nil=>simp at h2| cons a b=>rfl),fe,qW (by omega)]
  unfold qtz;rw[qB,cd];split
  ·obtain⟨n,rfl⟩:∃n,fu=n+100:=⟨fu-100,by omega⟩
   rw[A.set,qB];simp only[A.len];rw[a8 (by rw[List.length_replicate];rfl),a8]
   have:=zmu A (n+100) (n+100) [] s (by omega) (by simpa using hb)
   simpa using this
  ·have:=zmv A fu hfu s fu 0 (by omega) (by omega)
   simpa [qlr] using this
 obtain⟨r,h1,h2⟩:=this;rw[h1,qB,h2]
def zhz:∀n:_root_.Fin 256,(lm [13,10,0])[(UInt8.ofNat n.val).toNat]? = some (([13,10,0]:List UInt8).contains (UInt8.ofNat n.val)):=by decide +kernel
def ac1:AC [13,10,0]:=⟨by decide,by decide,by decide,fun n=>by kernel_rfl,fun c=>iv (fun c=>(lm [13,10,0])[c.toNat]? = some (([13,10,0]:List UInt8).contains c)) zhz c,by decide +kernel⟩
def zh0:∀n:_root_.Fin 256,(lm [32,9])[(UInt8.ofNat n.val).toNat]? = some (([32,9]:List UInt8).contains (UInt8.ofNat n.val)):=by decide +kernel
def va:AC [32,9]:=⟨by decide,by decide,by decide,fun n=>by kernel_rfl,fun c=>iv (fun c=>(lm [32,9])[c.toNat]? = some (([32,9]:List UInt8).contains c)) zh0 c,by decide +kernel⟩
def q5g(c:UInt8):([32,9]:List UInt8).contains c=bl c:=by rw[Bool.eq_iff_iff];simp[bl]
def zbq(c:UInt8)(s:List UInt8):ch (c::s)=if ch s=[] then(if bl c then[] else[c]) else c::ch s:=by
 unfold ch;rw[List.reverse_cons];generalize s.reverse=r
 induction r with
 |nil=>simp[List.dropWhile];cases bl c<;>rfl
 |cons x r ih=>
  rw[wK,List.dropWhile,List.dropWhile];cases bl x
  ·simp
  ·simpa using ih
def rf(c:UInt8)(s:List UInt8):dy (c::s)=if bl c then dy s else c::s:=by
 unfold dy;rw[List.dropWhile];cases bl c<;>rfl
def qzt:∀s:List UInt8,dy (ch s)=ji s
 |[]=>rfl|c::s=>by
  unfold ji;have ih:=qzt s;unfold ji at ih;rw[zbq,rf];cases hc:bl c
  ·simp only[wJ,if_false];rw[zbq,hc];simp only[wJ,if_false];split
   ·rw[rf,hc];rfl
   ·rw[rf,hc];rfl
  ·simp only[if_true];rw[← ih];split
   ·rename_i h;rw[h]
   ·rw[rf,hc];rfl
def wm(s:List UInt8):(ch s).length<=s.length:=by
 unfold ch;rw[List.length_reverse];have:=(List.dropWhile_sublist bl (l:=s.reverse)).length_le;simpa using this
def tz(s:List UInt8):(dy s).length<=s.length:=(List.dropWhile_sublist bl).length_le
def ztt(s:List UInt8):(ji s).length<=s.length:=Nat.le_trans (wm _) (tz _)
def vh(s:List UInt8):Bool := !(s.head?.any bl) && !(s.getLast?.any bl)
def zts(s:List UInt8):decide (ji s=s)=vh s:=by
 unfold vh;cases hf:s.head?.any bl
 ·cases hl:s.getLast?.any bl
  ·rw[decide_eq_true];rfl;unfold ji;have h1:dy s=s:=by
    cases s with|nil=>rfl|cons c s=>rw[rf];simp at hf;rw[hf];rfl
   rw[h1];rcases List.eq_nil_or_concat s with rfl|⟨t,c,rfl⟩
   ·rfl
   ·rw[List.concat_eq_append]at *;rw[qc6];simp at hl;rw[hl];rfl
  ·rw[decide_eq_false];rfl;rw[← qzt];rcases List.eq_nil_or_concat s with rfl|⟨t,c,rfl⟩
   ·simp at hl
   ·rw[List.concat_eq_append]at *;simp at hl;rw[qc6,hl,qX rfl];intro e;have:=Nat.le_trans (tz (ch t)) (wm t);rw[e]at this;simp at this;omega
 ·rw[decide_eq_false];rfl
  cases s with
  |nil=>simp at hf|cons c s=>
   simp at hf;unfold ji;rw[rf,hf,qX rfl];intro e;have:=Nat.le_trans (wm (dy s)) (tz s);rw[e]at this;simp at this;omega
def qg0(c:UInt8):lj c=some (bl c):=by unfold lj bl;cases c==32<;>rfl
def qh9(c:UInt8):r9 c=some (bl c):=by unfold r9 bl;cases c==32<;>rfl
def ip(f:Int×Int):c7 f=some (f.1 != 0):=rfl
def t6(c:UInt8):Bool:=decide (33<=c)&&decide (c<=126)&&c != 58
def iz(s:List UInt8):Bool:=s != []&&decide (s.length<=60)&&s.all t6
def zom(c:UInt8):qkf c=some (t6 c):=by
 unfold qkf t6;cases decide (33<=c)<;>cases decide (c<=126)<;>rfl
def zia(fu n:Nat):∀(ab aa:List UInt8),aa.length<n->ab.length+aa.length<1000000000 ->
  qec fu n (ab++aa) ((ab.length+aa.length:Nat):Int) (ab.length:Int)=some (aa.all t6):=by
 induction n with
 |zero=>intro ab aa h;omega|succ n ih=>
  intro ab aa h hb;rw[qec,qq5]
  cases aa with
  |nil=>rw[au];rfl|cons c aa=>
   simp only[qL]at h hb ⊢;rw[ag,bt,qB,zom,qB,List.all_cons]
   cases hc:t6 c
   ·rfl
   ·have:=ih (ab++[c]) aa (by omega) (by simp;omega)
    rw[ay _]
    simp only[qS,wM,qM,qL,qZ]at this;rw[show ab.length+0+1+aa.length=ab.length+(aa.length+1) by omega]at this
    simpa using this
def zl3(fu:Nat)(s:List UInt8)(h:61<fu:=by omega):qke fu s=some (iz s):=by
 unfold qke iz
 cases s with
 |nil=>rfl|cons c s=>
  rw[show(!c::s==([]:List UInt8))=true from rfl,show(c::s != ([]:List UInt8))=true from rfl,qT,cd]
  split
  ·rename_i hl;simp only[qL]at hl;unfold qq4;have:=zia fu fu [] (c::s) (by simp only[qL];omega) (by simp only[qL,qZ];omega)
   simp only[List.nil_append,qZ,wO]at this;rw[show(0:Int)=((0:Nat):Int) from rfl,this,decide_eq_true (by simp only[qL];omega)]
   rfl
  ·rename_i hl;rw[decide_eq_false (by omega)]
   rfl
def zbi(a b c:Int):ul a b c=some (decide (b<=a)&&decide (a<=c)):=by
 unfold ul;rw[cd];split
 ·rename_i h;rw[decide_eq_true h];rfl
 ·rename_i h;rw[decide_eq_false h];rfl
def zoo:∀n:_root_.Fin 256,(decide ((33:Int)<=((UInt8.ofNat n.val).toNat:Int))&&decide (((UInt8.ofNat n.val).toNat:Int)<=126) && !((UInt8.ofNat n.val)==58))=t6 (UInt8.ofNat n.val):=by decide +kernel
def zon(c:UInt8):(decide ((33:Int)<=(c.toNat:Int))&&decide ((c.toNat:Int)<=126) && !(c==58))=t6 c:=iv (fun c=>(decide ((33:Int)<=(c.toNat:Int))&&decide ((c.toNat:Int)<=126) && !(c==58))=t6 c) zoo c
def zrq(fu n:Nat):∀(ab aa:List UInt8),aa.length<n->ab.length+aa.length<1000000000 ->
  qd2 fu n (ab++aa) (ab.length:Int)=some (aa.all t6&&(decide (1<=ab.length+aa.length)&&decide (ab.length+aa.length<=60))):=by
 induction n with
 |zero=>intro ab aa h;omega|succ n ih=>
  intro ab aa h hb;rw[qd2,qqm]
  cases aa with
  |nil=>
   rw[au,zbi,List.all_nil,Bool.true_and]
   simp only[List.append_nil,qZ,Nat.add_zero,qB];congr 2
   ·rw[Bool.eq_iff_iff];simp only[decide_eq_true_eq];omega
   ·rw[Bool.eq_iff_iff];simp only[decide_eq_true_eq];omega
  |cons c aa=>
   simp only[qL]at h hb ⊢;rw[fg,ag,bt,qB,zbi,qB,qB,List.all_cons,← zon]
   cases decide ((33:Int)<=(c.toNat:Int))&&decide ((c.toNat:Int)<=126)
   ·rfl
   ·cases c==58
    ·have:=ih (ab++[c]) aa (by omega) (by simp;omega)
     rw[ay _]
     simp only[qS,wM,qM,qL,qZ]at this;rw[show ab.length+(0+1)+aa.length=ab.length+(aa.length+1) by omega]at this
     simpa using this
    ·rfl
def zrp(fu:Nat)(s:List UInt8)(h:s.length<fu)(hb:s.length<1000000000):qjp fu s=some (iz s):=by
 unfold qjp iz;have:=zrq fu fu [] s h (by simpa using hb)
 rw[show(0:Int)=(([]:List UInt8).length:Int) from rfl,show s=[]++s from rfl,this]
 simp only[qZ,wO,List.nil_append];congr 1
 cases s with
 |nil=>rfl|cons c s=>
  rw[show(c::s != ([]:List UInt8))=true from rfl,decide_eq_true (show 1<=(c::s).length by simp)]
  simp only[Bool.true_and];exact Bool.and_comm _ _
def zf(s:List UInt8):Bool := !(s.any ([13,10,0]:List UInt8).contains)&&vh s
def q73(fu:Nat)(s:List UInt8)(hfu:100<=fu)(h:s.length<fu)(hb:s.length<1000000000):qki fu s=some (zf s):=by
 unfold qki qrx zf;rw[zko ac1 fu s hfu h hb,qB,qB];cases s.any ([13,10,0]:List UInt8).contains
 ·rw[d5];unfold vh
  cases s with
  |nil=>rfl|cons c t=>
   rw[a7 (by rfl),show am (c::t) (0:Int)=some c from rfl,qB,qg0,qB]
   rw[show(c::t).head?.any bl=bl c from rfl]
   cases bl c
   ·rw[d5];rcases List.eq_nil_or_concat (c::t) with e|⟨u,d,e⟩
    ·cases e
    ·rw[List.concat_eq_append]at e;rw[e]at hb ⊢;simp only[qM,qL,qZ]at hb;rw[kp,lg _ (by omega),qcu,qB,qg0,qB]
     simp
   ·rfl
 ·rfl
def zbp(fu:Nat)(_r0:Nat->List UInt8->Option (List UInt8))(n:Nat):∀(s:List UInt8),s.length<n->s.length<1000000000->qd9 fu n s=some (ch s):=by
 induction n with
 |zero=>intro s h;omega|succ n ih=>
  intro s h hb;rw[qd9,qqw];rcases List.eq_nil_or_concat s with rfl|⟨t,c,rfl⟩
  ·rw[au];rfl
  ·rw[List.concat_eq_append]at *;simp only[qM,qL,qZ]at h hb;rw[kp,ag,lg _ (by omega),qcu,qB,qh9,qB,wu,ag,ih t (by omega) (by omega),qc6]
   cases bl c<;>rfl
def zqs(fu n:Nat):∀(s:List UInt8),s.length<n->s.length<fu->s.length<1000000000->qd7 fu n s=some (ji s):=by
 induction n with
 |zero=>intro s h;omega|succ n ih=>
  intro s h hf hb;rw[qd7,qqv]
  cases s with
  |nil=>
   rw[au]
   unfold qd8;rw[a7 (by rfl),zbp fu (fun _ _=>none) fu [] hf hb];rfl
  |cons c s=>
   rw[ag,show am (c::s) (0:Int)=some c from rfl,qB,qh9,qB]
   unfold qd8 ji;rw[rf];simp only[qL]at h hf hb;cases bl c
   ·rw[a7 (by rfl),zbp fu (fun _ _=>none) fu (c::s) (by simp only[qL];omega) (by simp only[qL];omega)];rfl
   ·rw[a8]
    unfold qqx;rw[ag (by simp only[qL];omega)]
    exact ih s (by omega) (by omega) (by omega)
def zqr(fu:Nat)(s:List UInt8)(h:s.length<fu)(hb:s.length<1000000000):qqu fu s=some (ji s):=zqs fu fu s h h hb
def qpk(fu n:Nat):∀(s:List UInt8),s.length<n->s.length<1000000000->qgc fu n s (lm [32,9])=some (ch s,lm [32,9]):=by
 induction n with
 |zero=>intro s h;omega|succ n ih=>
  intro s h hb;rw[qgc,qt5];rcases List.eq_nil_or_concat s with rfl|⟨t,c,rfl⟩
  ·rw[au];rfl
  ·rw[List.concat_eq_append]at *;simp only[qM,qL,qZ]at h hb;rw[kp,ag,lg _ (by omega),qcu,qB,qg5 va,qB,wu,ag,ih t (by omega) (by omega),qc6,q5g]
   cases bl c<;>rfl
def qis(fu:Nat)(s:List UInt8)(hfu:100<=fu)(h:s.length<fu)(hb:s.length<1000000000):qf4 fu s [32,9]=some (ch s):=by
 unfold qf4
 cases s with
 |nil=>rfl|cons c s=>
  rw[a7 (by rfl)]
  unfold qlx;rw[a7 (by rfl)]
  unfold qts;rw[a7 (by decide)]
  unfold qly;rw[a7 (by rfl)]
  unfold qtt;obtain⟨n,rfl⟩:∃n,fu=n+100:=⟨fu-100,by omega⟩
  rw[va.set,qB];simp only[va.len];rw[a8 (by rw[List.length_replicate];rfl),a8]
  unfold qgb;rw[qpk _ _ _ h hb];rfl
def zo1(fu:Nat)(hfu:10<=fu)(c a b d:UInt8):qjx fu c [a,b,d]=some (([a,b,d]:List UInt8).contains c):=by
 obtain⟨n,rfl⟩:∃n,fu=n+10:=⟨fu-10,by omega⟩
 unfold qjx;simp only[qjy,qqt];rw[a8,show am [a,b,d] (0:Int)=some a from rfl,qB]
 simp only[List.contains_cons,List.contains_nil,Bool.or_false];rw[qmv a c,show(af (0+1))=(1:Int) from rfl]
 cases c==a
 ·rw[a7 (by rfl),a8,show am [a,b,d] (1:Int)=some b from rfl,qB,qmv b c,show(af (1+1))=(2:Int) from rfl]
  cases c==b
  ·rw[a7 (by rfl),a8,show am [a,b,d] (2:Int)=some d from rfl,qB,qmv d c,show(af (2+1))=(3:Int) from rfl]
   cases c==d
   ·rfl
   ·rfl
  ·rfl
 ·rfl
def zqy(fu n:Nat)(hfu:10<=fu):∀(ab aa:List UInt8),aa.length<n->ab.length+aa.length<1000000000->ab.length+aa.length<fu ->
  qaq fu n (ab++aa) (ab.length:Int)=some (if aa.any ([13,10,0]:List UInt8).contains || !vh (ab++aa) then 11 else 0):=by
 induction n with
 |zero=>intro ab aa h;omega|succ n ih=>
  intro ab aa h hb hf;rw[qaq,qql]
  cases aa with
  |nil=>
   rw[au,List.append_nil,zqr fu ab (by simpa using hf) (by simpa using hb),qB,← zts,List.any_nil,Bool.false_or]
   by_cases e:ji ab=ab
   ·rw[decide_eq_true e,e];simp
   ·rw[decide_eq_false e,a8 (by simpa using e)];rfl
  |cons c aa=>
   simp only[qL]at h hb hf;rw[fg,ag,bt,qB,zo1 fu hfu,qB,List.any_cons]
   cases hc:([13,10,0]:List UInt8).contains c
   ·have:=ih (ab++[c]) aa (by omega) (by simp;omega) (by simp;omega)
    rw[a7 (by rfl),ay _,Bool.false_or]
    simpa using this
   ·rfl
def oh(n v:List UInt8):Int:=if iz n then(if 4000<v.length then 1 else if zf v then 0 else 11) else 10
def zqx(fu:Nat)(n v:List UInt8)(hfu:10<=fu)(hn:n.length<fu)(hv:v.length<fu)(hnb:n.length<1000000000)(hvb:v.length<1000000000):qd1 fu n v=some (oh n v):=by
 unfold qd1 oh;rw[zrp fu n hn hnb,qB];cases iz n
 ·rfl
 ·rw[a7 (by rfl),qX rfl,cd]
  split
  ·rename_i h;rw[qX]
  ·rename_i h;rw[qW (by omega)]
   have:=zqy fu fu hfu [] v hv (by simpa using hvb) (by simpa using hv)
   simp only[List.nil_append,qZ]at this;have this:qaq fu fu v 0=some (if(v.any ([13,10,0]:List UInt8).contains || !vh v)=true then 11 else 0):=this
   rw[this];unfold zf;cases v.any ([13,10,0]:List UInt8).contains<;>cases vh v<;>rfl
def tk(c:UInt8):Bool:=decide (33<=c)&&decide (c<=126) && !([40,41,60,62,64,44,59,58,92,34,47,91,93,63,61,42,37,39]:Bs).contains c
def ztl:∀n:_root_.Fin 256,ox (UInt8.ofNat n.val)=some (tk (UInt8.ofNat n.val)):=by decide +kernel
def qiq(c:UInt8):ox c=some (tk c):=iv (fun c=>ox c=some (tk c)) ztl c
def yx(P:UInt8->Option Bool):Nat->Bs->Int->Int->Option Bool|0,_,_,_=>none|n+1,s0,s7,s8=>bif decide (s8<s7) then(am s0 s8).bind fun c1=>(P c1).bind fun x2=>bif !x2 then some false else yx P n s0 s7 (af (s8+(1:Int))) else some true
def zh9(P:UInt8->Option Bool)(p:UInt8->Bool)(hP:∀c,P c=some (p c))(n:Nat):∀(ab aa:Bs),aa.length<n->ab.length+aa.length<9223372036854775807 ->
  yx P n (ab++aa) ((ab.length+aa.length:Nat):Int) (ab.length:Int)=some (aa.all p):=by
 induction n with
 |zero=>intro ab aa h;omega|succ n ih=>
  intro ab aa h hb;rw[yx]
  cases aa with
  |nil=>rw[au];rfl|cons d aa=>
   simp only[qL]at h hb ⊢;rw[ag,bt,qB,hP,qB,ay _,List.all_cons]
   have:=ih (ab++[d]) aa (by omega) (by simp;omega)
   simp only[qM,qL,qZ,qS,wM]at this;cases p d
   ·rfl
   ·rw[a7 (by rfl),Bool.true_and,show((ab.length+(aa.length+1):Nat):Int)=((ab.length+1+aa.length:Nat):Int) by omega]
    exact this
def qvm(P:UInt8->Option Bool)(p:UInt8->Bool)(hP:∀c,P c=some (p c))(n:Nat)(s:Bs)(h:s.length<n)(hb:s.length<9223372036854775807):yx P n s (s.length:Int) 0=some (s.all p):=by
 have:=zh9 P p hP n [] s h (by simpa using hb)
 simpa using this
def zh6(fu:Nat)(s:Bs)(h:s.length<fu)(hb:s.length<9223372036854775807):qj5 fu s=some (s.all tk):=by
 have e:∀n,qed fu n=yx ox n:=by
  intro n;induction n with|zero=>rfl|succ n ih=>rw[qed,ih];funext a b c;rfl
 unfold qj5;rw[e];exact qvm _ _ qiq _ _ h hb
def ib(s:Bs):Bool := !s.isEmpty&&decide (s.length<=60)&&s.all tk
def qpj(fu:Nat)(s:Bs)(h:s.length<fu:=by omega)(hb:s.length<9223372036854775807:=by omega):xw fu s=some (ib s):=by
 unfold xw ib;rw[zh6 fu s h hb]
 cases s with
 |nil=>rfl|cons c s=>
  rw[a8]
  by_cases h1:(c::s).length<=60
  ·rw[ag,decide_eq_true h1];simp
  ·rw[au,decide_eq_false h1];simp
open Go.Lib (decodeL decodeN decodeL_N validD validD_step decodeL_le decodeL_width)
def qps(a b:Nat)(h:a+b<9223372036854775808:=by omega):af ((a:Int)+(b:Int))=((a+b:Nat):Int):=by rw[cm];omega
def zuc(n:Nat):∀(b:Bool)(l:Bs),(vu [239,191,189] n b l).length<=3*l.length:=by
 induction n with
 |zero=>intro b l;simp[vu]|succ n ih=>
  intro b l
  cases l with
  |nil=>simp[vu]|cons c t=>
   rw[vu];split
   ·have:=ih true t;rw[qM];simp only[qL];cases b<;>simp<;>omega
   ·have:=ih false ((c::t).drop (decodeL (c::t)).2);have hle:=decodeL_le (c::t) (by simp)
    rw[qM,List.length_take];rw[List.length_drop]at this;omega
def qix(rep:Bs):∀(n:Nat)(b:Bool)(l:Bs),l.length<=n->vu rep n b l=vu rep l.length b l:=by
 intro n
 induction n using Nat.strongRecOn with
 |ind n ih=>
  intro b l h
  cases l with
  |nil=>cases n<;>rfl
  |cons c t=>
   obtain⟨m,rfl⟩:∃m,n=m+1:=⟨n-1,by simp only[qL]at h;omega⟩
   simp only[qL]at h ⊢;have hw:=decodeL_width (c::t);rw[vu,vu];have hd:((c::t).drop (decodeL (c::t)).2).length<=t.length:=by rw[List.length_drop];simp only[qL];omega
   rw[ih m (by omega) true t (by omega),ih m (by omega) false _ (by omega)]
   by_cases hm:t.length<m+1
   ·rw[ih t.length (by omega) true t (wF _),ih t.length (by omega) false _ hd]
   ·omega
def ztn(s:Bs)(h:s.length<=1000000):yi s [239,191,189]=some (vu [239,191,189] s.length false s):=by
 unfold yi;rw[ag ⟨h,by simp⟩]
def zt4(s:Bs)(h:s.length<=1000000:=by omega):yj s=some (validD s):=by
 unfold yj;rw[ag]
end Go.Sym
namespace Go.Sym
open Go.Lib (validD)
abbrev cr:Type:=Bs×Bs
abbrev fb:Type:=Bs×Bs×List cr
def sw(l:List cr):Prop:=l.length<=4000000/\∀x∈l,x.1.length<=4000000/\x.2.length<=4000000
def SmD(m:fb):Prop:=m.1.length<=4000000/\m.2.1.length<=4000000/\sw m.2.2
def lk(a b:Bs):Bool:=a.map lo==b.map lo
def zn2(a:Bs):lk a a=true:=by unfold lk;simp
def l8(fu:Nat)(hfu:90000000<=fu)(a b:Bs)(ha:a.length<=4000000)(hb:b.length<=4000000):ei fu a b=some (lk a b):=
 zjx fu a b (by omega) (by omega) (by simp[maxLen];omega) (by simp[maxLen];omega)
def znf(fu n:Nat)(hfu:90000000<=fu)(p:cr)(hp:p.1.length<=4000000):∀(ab aa:List cr),aa.length<n->ab.length+aa.length<100000000->(∀x∈aa,x.1.length<=4000000) ->
  ∃i:Int,qfv fu n (ab++aa) ((ab.length+aa.length:Nat):Int) (ab.length:Int) p=some (i,p)/\decide (0<=i)=aa.any (fun x=>lk x.1 p.1):=by
 induction n with
 |zero=>intro ab aa h;omega|succ n ih=>
  intro ab aa h hb hs;rw[qfv,qs9]
  cases aa with
  |nil=>rw[au];exact⟨_,rfl,rfl⟩|cons d aa=>
   simp only[qL]at h hb;rw[ag (by simp only[qL];omega),bt,qB,qr6,l8 fu hfu _ _ (hs d qH) hp,qB,qB,ay _]
   obtain⟨i,h1,h2⟩:=ih (ab++[d]) aa (by omega) (by simp;omega) (fun x hx=>hs x (qE _ hx))
   simp only[qM,qL,qZ,qS,wM,wO]at h1;cases e:lk d.1 p.1
   ·simp only[qF,List.any_cons,e,Bool.false_or];rw[show(ab.length+(d::aa).length:Nat)=ab.length+1+aa.length by simp only[qL];omega]
    exact⟨i,h1,h2⟩
   ·simp only[qT,List.any_cons,e,Bool.true_or];exact⟨_,rfl,decide_eq_true (by omega)⟩
def zj7(fu:Nat)(hfu:90000000<=fu)(l:List cr)(p:cr)(hp:p.1.length<=4000000)(hs:sw l):qli fu l p=some (l.any (fun x=>lk x.1 p.1),p):=by
 obtain⟨i,h1,h2⟩:=znf fu fu hfu p hp [] l (by have:=hs.1;omega) (by have:=hs.1;simp;omega) (fun x hx=>(hs.2 x hx).1)
 simp only[List.nil_append,qZ,wO]at h1;unfold qli qs8;rw[← h2];exact(congrArg (fun q=>Option.bind q fun x1=>some (decide ((0:Int)<=x1.1),x1.2)) h1).trans rfl
def pw:List cr->List cr->Int×Int
 |_,[]=>(0,0)|ab,p::l=>if ib p.1=false\/20<p.1.length then(10,ab.length) else if ab.any (fun x=>lk x.1 p.1)=true then(7,ab.length) else if 500<p.2.length then(1,ab.length)
  else if validD p.2=false then(5,ab.length) else pw (ab++[p]) l
def ir(m:fb):Int×Int:=if ib m.1=false\/ib m.2.1=false then(10,-2) else if 60<m.2.2.length then(2,-3) else pw [] m.2.2
def sw.mono{l l':List cr}(h:sw l)(h1:l'.length<=l.length)(h2:∀x∈l',x∈l):sw l':=⟨Nat.le_trans h1 h.1,fun x hx=>h.2 x (h2 x hx)⟩
def oo(a b:Int):bn a b=some (a,b):=rfl
def zod:ci=some ((0:Int),(0:Int)):=rfl
def zoj(fu n:Nat)(hfu:90000000<=fu)(m:fb)(z:Int×Int):∀(ab aa:List cr),m.2.2=ab++aa->aa.length<n->sw (ab++aa) ->
  qba fu n (ab++aa) ((ab.length+aa.length:Nat):Int) (ab.length:Int) m z=some (pw ab aa):=by
 induction n with
 |zero=>intro ab aa _ h;omega|succ n ih=>
  intro ab aa hm h hs;rw[qba,qr7]
  cases aa with
  |nil=>rw[au];rfl|cons p aa=>
   have hp:=hs.2 p (by simp)
   have hl:=hs.1;simp only[qL,qM]at h hl;rw[ag (by simp only[qL];omega),bt,qB,qpj fu _,qB,pw]
   have hp3:xu fu (qba fu n) (ab.length:Int) (ab++p::aa) ((ab.length+(p::aa).length:Nat):Int) (ab.length:Int) false m z p =
     some (if ab.any (fun x=>lk x.1 p.1)=true then(7,(ab.length:Int)) else if 500<p.2.length then(1,(ab.length:Int)) else if validD p.2=false then(5,(ab.length:Int)) else pw (ab++[p]) aa):=by
    rw[xu,a7 rfl,ag (by rw[hm,fg];omega),hm,wv,zj7 fu hfu ab p hp.1 (hs.mono (by simp) (fun x hx=>by simp[hx])),qB]
    simp only[];by_cases h1:ab.any (fun x=>lk x.1 p.1)=true
    ·rw[qX h1,a8 h1,oo];rfl
    rw[qW h1,a7 (by simpa using h1)]
    by_cases h2:500<p.2.length
    ·rw[qX h2,ag,oo];rfl
    rw[qW h2,au,zt4 _,qB]
    cases h3:validD p.2
    ·rw[d5,qX rfl,oo];rfl
    ·rw[de,qW (by simp),ay _]
     have:=ih (ab++[p]) aa (by rw[hm];simp) (by omega) (by simpa using hs)
     simp only[qM,qL,qZ,qS,wM,wO]at this;rw[show(ab.length+(p::aa).length:Nat)=ab.length+1+aa.length by simp only[qL];omega]
     exact this
   cases h0:ib p.1
   ·rw[d5,qX (.inl rfl),xu,a8 rfl,oo];rfl
   rw[de];by_cases h20:20<p.1.length
   ·rw[decide_eq_true (by omega),qX (.inr h20),xu,a8 rfl,oo];rfl
   ·rw[decide_eq_false (p:=(20:Int)<(List.length p.1:Int)) (by omega),hp3,qW (c:=true=false\/20<p.1.length) (by simp;omega)]
def qx7(fu:Nat)(hfu:90000000<=fu)(m:fb)(hs:SmD m):sm fu m=some (ir m):=by
 obtain⟨h1,h2,h3⟩:=hs;unfold sm ir;rw[qpj fu m.1,qB,qpj fu m.2.1]
 cases g1:ib m.1
 ·rw[d5,qa9,a8 rfl,oo,qX (.inl rfl)];rfl
 rw[de,qB];cases g2:ib m.2.1
 ·rw[qa9,d5,oo,qX (.inr rfl)];rfl
 rw[qa9,de,qr8,qW (by simp)]
 by_cases g3:60<m.2.2.length
 ·rw[ag,qX g3,oo];rfl
 ·rw[au,qW g3]
  have:=zoj fu fu hfu m (0,0) [] m.2.2 rfl (by have:=h3.1;omega) h3
  simpa using this
def par(l:List cr)(nm:Bs):Option Bs:=(l.find? fun x=>lk x.1 nm).map (·.2)
def jd(l:List cr)(nm:Bs):Bs×Bool:=match par l nm with|some v=>(v,true)|none=>([],false)
def q95(p:cr)(l:List cr)(nm:Bs):jd (p::l) nm=if lk p.1 nm=true then(p.2,true) else jd l nm:=by
 unfold jd par;rw[List.find?_cons];cases lk p.1 nm<;>rfl
def zof(fu n:Nat)(hfu:90000000<=fu)(nm:Bs)(hn:nm.length<=4000000)(z:Int×Int):∀(ab aa:List cr),aa.length<n->sw (ab++aa) ->
  qey fu n nm (ab++aa) ((ab.length+aa.length:Nat):Int) (ab.length:Int) z=some ((jd aa nm).1,((jd aa nm).2,(0,0))):=by
 induction n with
 |zero=>intro ab aa h;omega|succ n ih=>
  intro ab aa h hs;rw[qey,qr4]
  cases aa with
  |nil=>rw[au];rfl|cons p aa=>
   have hl:=hs.1;simp only[qL,qM]at h hl;rw[ag (by simp only[qL];omega),bt,qB,l8 fu hfu _ _ (hs.2 p (by simp)).1 hn,qB,ay _,q95]
   have:=ih (ab++[p]) aa (by omega) (by simpa using hs)
   simp only[qM,qL,qZ,qS,wM,wO]at this;cases e:lk p.1 nm
   ·rw[a7 rfl,show(ab.length+(p::aa).length:Nat)=ab.length+1+aa.length by simp only[qL];omega]
    exact this
   ·rfl
def q9h(fu:Nat)(hfu:90000000<=fu)(m:fb)(nm:Bs)(hn:nm.length<=4000000)(hs:SmD m):qex fu m nm=some (if(ir m).1≠0 then([],(false,ir m)) else((jd m.2.2 nm).1,((jd m.2.2 nm).2,(0,0)))):=by
 unfold qex;rw[qx7 fu hfu m hs,qB,ip,qB,dt];by_cases h:(ir m).1≠0
 ·rw[qX h,qX h]
 ·rw[qW h,qW h];have:=zof fu fu hfu nm hn (0,0) [] m.2.2 (by have:=hs.2.2.1;omega) hs.2.2
  simpa using this
end Go.Sym
namespace Go.Sym
def zdb(fu n:Nat):∀(s:List UInt8),s.length<n->s.length<1000000000->qga fu n s (lm [32,9])=some (dy s,lm [32,9]):=by
 induction n with
 |zero=>intro s h;omega|succ n ih=>
  intro s h hb;rw[qga,qt0]
  cases s with
  |nil=>rw[au];rfl|cons c s=>
   simp only[qL]at h hb;rw[ag,show am (c::s) (0:Int)=some c from rfl,qB,qg5 va,qB,q5g,rf]
   cases bl c
   ·rfl
   ·rw[de,ag (by simp only[qL];omega)]
    exact ih s (by omega) (by omega)
def zb4(fu:Nat)(s:List UInt8)(hfu:100<=fu)(h:s.length<fu)(hb:s.length<1000000000):qf3 fu s [32,9]=some (ji s):=by
 unfold qf3
 cases s with
 |nil=>rfl|cons c s=>
  rw[a7 (by rfl)]
  unfold ql0;rw[a7 (by rfl)]
  unfold qtu;rw[a7 (by decide)]
  unfold ql1;rw[a7 (by rfl)]
  unfold qtv;obtain⟨n,rfl⟩:∃n,fu=n+100:=⟨fu-100,by omega⟩
  rw[va.set,qB];simp only[va.len];rw[a8 (by rw[List.length_replicate];rfl),a8]
  unfold qgb qf9;have:=wm (c::s);rw[qpk _ _ _ h hb,qB,zdb _ _ (ch (c::s)) (by omega) (by omega),qB,qzt]
def zn6(s:Bs):dy (dy s)=dy s:=by
 induction s with
 |nil=>rfl|cons c s ih=>
  rw[rf];by_cases h:bl c=true
  ·rw[qX h];exact ih
  ·rw[qW h,rf,qW h]
def q85(s:Bs):dy s <:+ s:=List.dropWhile_suffix _
def ztq(fu:Nat)(s:List UInt8)(hfu:100<=fu:=by omega)(h:s.length<fu:=by omega)(hb:s.length<1000000000:=by omega):qlu fu s [32,9]=some (dy s):=by
 unfold qlu
 cases s with
 |nil=>rfl|cons c s=>
  rw[a7 (by rfl)]
  unfold qlv;rw[a7 (by rfl)]
  unfold qtq;rw[a7 (by decide)]
  unfold qlw;rw[a7 (by rfl)]
  unfold qtr;obtain⟨n,rfl⟩:∃n,fu=n+100:=⟨fu-100,by omega⟩
  rw[va.set,qB];simp only[va.len];rw[a8 (by rw[List.length_replicate];rfl),a8]
  unfold qf9;rw[zdb _ _ _ h hb];rfl
def qca(fu:Nat)(hfu:90000000<=fu)(s:Bs)(h:s.length<=4000000):uv fu s=some (dy s):=by
 unfold uv;rw[ztq fu s];rfl
def dp(p:UInt8->Bool)(s:Bs):Bs×Bs:=((dy s).takeWhile p,(dy s).dropWhile p)
def ia(c:UInt8):Bool:=tk c||c==42
def tkV(c:UInt8):Bool:=tk c||(c==37||(c==39||c==42))
def wt(P:UInt8->Option Bool):Nat->Int->Bs->Option (Bs×Bs)
 |0,_,_=>none|n+1,s5,m0=>bif decide (s5<(List.length m0:Int)) then(am m0 s5).bind fun c1=>(P c1).bind fun x2=>(bif x2 then wt P n (af (s5+(1:Int))) m0 else bif decide (0<=s5/\s5<=(List.length m0:Int)) then bif decide (0<=s5/\s5<=(List.length m0:Int)) then some (List.take s5.toNat m0,List.drop s5.toNat m0) else none else none)
  else(bif false then wt P n (af (s5+(1:Int))) m0 else bif decide (0<=s5/\s5<=(List.length m0:Int)) then bif decide (0<=s5/\s5<=(List.length m0:Int)) then some (List.take s5.toNat m0,List.drop s5.toNat m0) else none else none)
def ztg(P:UInt8->Option Bool)(p:UInt8->Bool)(hP:∀c,P c=some (p c))(n:Nat):∀(ab aa:Bs),aa.length<n->ab.length+aa.length<9223372036854775807 ->
  wt P n (ab.length:Int) (ab++aa)=some (ab++aa.takeWhile p,aa.dropWhile p):=by
 induction n with
 |zero=>intro ab aa h;omega|succ n ih=>
  intro ab aa h hb;rw[wt]
  cases aa with
  |nil=>rw[au,a7 rfl,ag,ag,wv,pd];simp|cons d aa=>
   simp only[qL]at h hb;rw[ag (by rw[fg];omega),bt,qB,hP,qB,ay _,wv,pd,List.takeWhile_cons,List.dropWhile_cons]
   have:=ih (ab++[d]) aa (by omega) (by simp;omega)
   simp only[qM,qL,qZ,qS,wM,wO]at this;cases p d
   ·rw[a7 rfl,ag (by rw[fg];omega),ag (by rw[fg];omega)];simp
   ·rw[a8 rfl];simpa using this
def qzs(P:UInt8->Option Bool)(p:UInt8->Bool)(hP:∀c,P c=some (p c))(fu:Nat)(hfu:90000000<=fu)(s:Bs)(h:s.length<=4000000):wt P fu 0 (dy s)=some (dp p s):=by
 have hl:=tz s;have:=ztg P p hP fu [] (dy s) (by omega) (by simp;omega)
 simpa [dp] using this
def zcz(fu:Nat)(hfu:90000000<=fu)(s:Bs)(h:s.length<=4000000:=by omega):qfc fu s=some (dp tk s):=by
 have e:∀n,qfd fu n=wt ox n:=by
  intro n;induction n with|zero=>rfl|succ n ih=>rw[qfd,ih];funext a b;rfl
 unfold qfc;rw[qca fu hfu s h,qB,e];exact qzs _ tk qiq fu hfu s h
def ztj(c:UInt8):qfb c=some (ia c):=by
 unfold qfb ia;rw[qiq,qB];cases tk c<;>rfl
def ztk(c:UInt8):qfg c=some (tkV c):=by
 unfold qfg tkV;rw[qiq,qB];cases tk c
 ·cases c==37
  ·cases c==39<;>rfl
  ·rfl
 ·rfl
def ztd(fu:Nat)(hfu:90000000<=fu)(s:Bs)(h:s.length<=4000000):qkt fu s=some (dp ia s):=by
 have e:∀n,qfe fu n=wt qfb n:=by
  intro n;induction n with|zero=>rfl|succ n ih=>rw[qfe,ih];funext a b;rfl
 unfold qkt;rw[qca fu hfu s h,qB,e];exact qzs _ ia ztj fu hfu s h
def ztf(fu:Nat)(hfu:90000000<=fu)(s:Bs)(h:s.length<=4000000:=by omega):qku fu s=some (dp tkV s):=by
 have e:∀n,qff fu n=wt qfg n:=by
  intro n;induction n with|zero=>rfl|succ n ih=>rw[qff,ih];funext a b;rfl
 unfold qku;rw[qca fu hfu s h,qB,e];exact qzs _ tkV ztk fu hfu s h
def d7(c:UInt8)(s:Bs):Bool×Bs:=match dy s with|[]=>(false,[])|d::t=>if d=c then(true,t) else(false,d::t)
def qol(fu:Nat)(hfu:90000000<=fu)(c:UInt8)(s:Bs)(h:s.length<=4000000:=by omega):xv fu c s=some (d7 c s):=by
 unfold xv d7;rw[qca fu hfu s h,qB]
 cases dy s with
 |nil=>rfl|cons d t=>
  rw[a7 (by rfl),show am (d::t) (0:Int)=some d from rfl,qB,qmw]
  by_cases hd:d=c
  ·rw[qW (by simp[hd]),ag (by simp only[qL];omega)];simp[hd]
  ·rw[qX hd];simp[hd]
def qv:Bs->Bs->Option (Bs×Bs)
 |_,[]=>none| out,c::t=>if c=34 then some (out,t) else if c=92 then(match t with
  |[]=>none| d::t'=>qv (out++[d]) t') else qv (out++[c]) t
def qh8(out:Bs)(c:UInt8)(t:Bs):qv out (c::t)=if c=34 then some (out,t) else if c=92 then(match t with
  |[]=>none| d::t'=>qv (out++[d]) t') else qv (out++[c]) t:=by cases t<;>rfl
def l7:4000000000<=ax:=by decide
def zqp(fu n:Nat):∀(ab aa out:Bs),aa.length<n->ab.length+aa.length<100000000->out.length+aa.length<100000000 ->
  qfh fu n (ab.length:Int) (ab++aa) out=some (match qv out aa with|some (v,t)=>(v,(true,t))|none=>([],(false,ab++aa))):=by
 have hrm:=l7
 induction n using Nat.strongRecOn with
 |ind n ih=>
  intro ab aa out h hb ho;obtain⟨n,rfl⟩:∃m,n=m+1:=⟨n-1,by omega⟩
  rw[qfh,qsl]
  cases aa with
  |nil=>rw[au];rfl|cons c t=>
   simp only[qL]at h hb ho;rw[ag (by rw[fg];omega),bt,qB,ay _,kg]
   have ih1:=ih n (by omega) (ab++[c]) t (out++[c]) (by omega) (by simp;omega) (by simp;omega)
   simp only[qM,qL,qZ,qS,wM,wO]at ih1;by_cases h1:c=34
   ·rw[qX h1,ag (by rw[fg];omega),vg,qh8,qX h1]
   rw[qW h1,kg];by_cases h2:c=92
   ·rw[qX h2,fe,fg]
    cases t with
    |nil=>rw[qX,qh8,qW h1,qX h2]|cons d t=>
     simp only[qL]at h hb ho ⊢;rw[qW (by omega),show am (ab++c::d::t) ((ab.length+1:Nat):Int)=some d by have:=bt (ab++[c]) d t;simpa using this,qB,ag,ay _,qh8,qW h1,qX h2]
     have ih2:=ih n (by omega) (ab++[c,d]) t (out++[d]) (by omega) (by simp;omega) (by simp;omega)
     simp only[qM,qL,qZ,qS,wK,List.nil_append,wO]at ih2;exact ih2
   ·rw[qW h2,ag,qh8,qW h1,qW h2]
    exact ih1
def qaf(s:Bs):Option (Bs×Bs):=if(d7 34 s).1=true then qv [] (d7 34 s).2 else some (dp tkV (d7 34 s).2)
def qda(c:UInt8)(s:Bs):(d7 c s).2.length<=s.length:=by
 have:=tz s;unfold d7
 cases h:dy s with
 |nil=>simp|cons d t=>
  rw[h]at this;simp only[qL]at this;by_cases hd:d=c
  ·simp only[qX hd];omega
  ·simp only[qW hd,qL];omega
def zub(fu:Nat)(hfu:90000000<=fu)(s:Bs)(h:s.length<=4000000:=by omega):∃r,qkv fu s=some (match qaf s with|some (v,t)=>(v,(true,t))|none=>([],(false,r))):=by
 have hl:=qda 34 s;unfold qkv qaf;rw[qol fu hfu 34 s h,qB];cases hs:(d7 34 s).1
 ·rw[d5,ztf fu hfu _,qW (by simp)]
  exact⟨[],rfl⟩
 ·rw[de,qX rfl];have:=zqp fu fu [] (d7 34 s).2 [] (by omega) (by simp;omega) (by simp;omega)
  exact⟨(d7 34 s).2,by simpa using this⟩
def vt(s:Bs):Option ((Bs×Bs)×Bs):=if(d7 61 (dp ia s).2).1=true then(qaf (d7 61 (dp ia s).2).2).map fun x=>(((dp ia s).1,x.1),x.2) else none
def qaa(p:UInt8->Bool)(s:Bs):(dp p s).1.length+(dp p s).2.length<=s.length:=by
 have:=tz s;have h:=congrArg List.length (List.takeWhile_append_dropWhile (p:=p) (l:=dy s));rw[qM]at h;unfold dp;simp only;omega
def zqq:∀(out s v t:Bs),qv out s=some (v,t)->v.length+t.length<out.length+s.length/\t <:+ s:=by
 intro out s
 induction s using WellFounded.induction (r:=fun(a b:Bs)=>a.length<b.length) (hwf:=InvImage.wf List.length Nat.lt_wfRel.wf) generalizing out with
 |_ s ih=>
  intro v t h
  cases s with
  |nil=>cases h
  |cons c s=>
   rw[qh8]at h;by_cases h1:c=34
   ·rw[qX h1]at h;cases h;exact⟨by simp,List.suffix_cons _ _⟩
   rw[qW h1]at h;by_cases h2:c=92
   ·rw[qX h2]at h
    cases s with
    |nil=>cases h
    |cons d s=>
     obtain⟨g1,g2⟩:=ih s (by simp;omega) (out++[d]) v t h
     refine⟨by simp at g1 ⊢;omega,g2.trans ((List.suffix_cons _ _).trans (List.suffix_cons _ _))⟩
   ·rw[qW h2]at h;obtain⟨g1,g2⟩:=ih s (by simp) (out++[c]) v t h
    exact⟨by simp at g1 ⊢;omega,g2.trans (List.suffix_cons _ _)⟩
def zcb(c:UInt8)(s:Bs):(d7 c s).2 <:+ s:=by
 have:=q85 s;unfold d7
 cases h:dy s with
 |nil=>simp|cons d t=>
  rw[h]at this;by_cases hd:d=c
  ·simp only[qX hd];exact(List.suffix_cons _ _).trans this
  ·simp only[qW hd];exact this
def zc0(p:UInt8->Bool)(s:Bs):(dp p s).2 <:+ s:=(List.dropWhile_suffix _).trans (q85 s)
def zt7{s v t:Bs}(h:qaf s=some (v,t)):v.length+t.length<=s.length/\t <:+ s:=by
 have hl:=qda 34 s;have hx:=zcb 34 s;unfold qaf at h;by_cases hs:(d7 34 s).1=true
 ·rw[qX hs]at h;obtain⟨g1,g2⟩:=zqq [] _ _ _ h;exact⟨by simp at g1;omega,g2.trans hx⟩
 ·rw[qW hs]at h;have e:=qJ h;have g1:=qaa tkV (d7 34 s).2;have g2:=zc0 tkV (d7 34 s).2;rw[e]at g1 g2;simp only at g1 g2;exact⟨by omega,g2.trans hx⟩
def qxy{s n v t:Bs}(h:vt s=some ((n,v),t)):n.length+v.length+t.length<=s.length/\t <:+ s:=by
 have h1:=qaa ia s;have h1':=zc0 ia s;have h2:=qda 61 (dp ia s).2;have h2':=zcb 61 (dp ia s).2;unfold vt at h;by_cases hs:(d7 61 (dp ia s).2).1=true
 ·rw[qX hs]at h
  cases hv:qaf (d7 61 (dp ia s).2).2 with
  |none=>rw[hv]at h;cases h
  |some x=>
   rw[hv]at h;obtain⟨g1,g2⟩:=zt7 (v:=x.1) (t:=x.2) hv;have e:=qJ h;obtain⟨rfl,e2⟩:=Prod.mk.inj (Prod.mk.inj e).1;obtain rfl:=(Prod.mk.inj e).2;subst e2;exact⟨by omega,g2.trans (h2'.trans h1')⟩
 ·rw[qW hs]at h;cases h
def pos(s r:Bs):Int:=((s.length-r.length:Nat):Int)
def qys{s r:Bs}(h:r <:+ s):List.drop (pos s r).toNat s=r:=(List.suffix_iff_eq_drop.1 h).symm
def zp1{s:Bs}{c:UInt8}{t:Bs}(h:(c::t) <:+ s):pos s (c::t)<(s.length:Int):=by
 have:=h.length_le;simp only[qL]at this;unfold pos;simp only[qL];omega
def qyt(s:Bs):pos s []=(s.length:Int):=by unfold pos;simp
def zpz(s:Bs):pos s s=0:=by unfold pos;simp
def zaf(s r:Bs):0<=pos s r/\pos s r<=(s.length:Int):=by unfold pos;omega
open Go.Lib (decDigits nDigits itoa atoiAll parseUint10 parseMag NumEnd)
def zk5(u:Nat)(h:u<10):decDigits u=[UInt8.ofNat (48+u)]:=by rw[decDigits,dif_pos h]
def zk4(u:Nat)(h:¬u<10):decDigits u=decDigits (u/10)++[UInt8.ofNat (48+u%10)]:=by rw[decDigits,dif_neg h]
def q6p(k:Nat):∀u,u<10 ^ k->1<=k->(decDigits u).length<=k:=by
 induction k with
 |zero=>intro u _ h;omega|succ k ih=>
  intro u hu _;by_cases h:u<10
  ·rw[zk5 u h];simp
  ·rw[zk4 u h,qM,wD];have hk:1<=k:=by
    rcases Nat.eq_zero_or_pos k with h0|h0
    ·subst h0;simp at hu;omega
    ·exact h0
   have:=ih (u/10) (by rw[Nat.pow_succ]at hu;omega) hk
   omega
def qxr(u:Nat):itoa (u:Int)=decDigits u:=by unfold itoa;rw[qW (by omega)];simp
def zow{s:Bs}{most:Int}(h:(nn s most).2=true):∃u:Nat,s=decDigits u/\(u:Int)<=most/\nn s most=((u:Int),true):=by
 have h0:=h;unfold nn at h;split at h
 ·rename_i v hv;by_cases hc:itoa v=s/\0<=v/\v<=most
  ·obtain⟨u,rfl⟩:∃u:Nat,v=u:=⟨v.toNat,by omega⟩
   refine⟨u,by rw[← hc.1,qxr],hc.2.2,?_⟩
   unfold nn;rw[hv];simp only[];rw[qX hc]
  ·rw[qW hc]at h;cases h
 ·cases h
end Go.Sym
namespace Go.Sym
def hv(c:UInt8):Option UInt8:=if 48<=c/\c<=57 then some (c-48) else if 65<=c/\c<=70 then some (c-65+10) else if 97<=c/\c<=102 then some (c-97+10) else none
def hx(a b:UInt8):Option UInt8:=(hv a).bind fun x=>(hv b).map fun y=>16*x+y
def qv5:∀n:_root_.Fin 256,sh (UInt8.ofNat n.val)=some ((hv (UInt8.ofNat n.val)).getD 0,(hv (UInt8.ofNat n.val)).isSome):=by decide +kernel
def qv6(c:UInt8):sh c=some ((hv c).getD 0,(hv c).isSome):=iv (fun c=>sh c=some ((hv c).getD 0,(hv c).isSome)) qv5 c
def qxk:∀n:_root_.Fin 256,(hv (UInt8.ofNat n.val)).all (fun x=>decide (x.toNat<16))=true:=by decide +kernel
def qhm(c x:UInt8)(h:hv c=some x):x.toNat<16:=by
 have:=iv (fun c=>(hv c).all (fun x=>decide (x.toNat<16))=true) qxk c
 rw[h]at this;simpa using this
def qzv:∀x y:_root_.Fin 16,(me (UInt8.ofNat x.val) (min (4:Int).toNat 8))|||UInt8.ofNat y.val=16*UInt8.ofNat x.val+UInt8.ofNat y.val/\jy (af ((af ((16:Int)*((UInt8.ofNat x.val).toNat:Int)))+((UInt8.ofNat y.val).toNat:Int)))=16*UInt8.ofNat x.val+UInt8.ofNat y.val:=by decide +kernel
def qzu(x y:UInt8)(hx1:x.toNat<16)(hy1:y.toNat<16):(me x (min (4:Int).toNat 8))|||y=16*x+y/\jy (af ((af ((16:Int)*(x.toNat:Int)))+(y.toNat:Int)))=16*x+y:=by
 have:=qzv ⟨x.toNat,hx1⟩ ⟨y.toNat,hy1⟩;simpa using this
def np:Bs->Option UInt8|a::b::_=>hx a b|_=>none
def qym(r:Bs):∃v,sj r=some (v,(np r).isSome)/\∀x,np r=some x->v=x:=by
 match r with
 |[]=>exact⟨0,rfl,fun x h=>by cases h⟩
 |[_]=>exact⟨0,rfl,fun x h=>by cases h⟩
 |a::b::t=>
  have e:sj (a::b::t)=some ((me ((hv a).getD 0) (min (4:Int).toNat 8))|||(hv b).getD 0,(hv a).isSome&&(hv b).isSome):=by
   unfold sj;rw[au (by simp only[qL];omega),show am (a::b::t) 0=some a from rfl,show am (a::b::t) 1=some b from rfl]
   simp only[qB,qv6];cases (hv a).isSome<;>rfl
  rw[e,show np (a::b::t)=hx a b from rfl]
  unfold hx
  cases ha:hv a with
  |none=>exact⟨_,rfl,fun x h=>by cases h⟩
  |some x=>
   cases hb:hv b with
   |none=>exact⟨_,rfl,fun x h=>by cases h⟩
   |some y=>exact⟨_,rfl,fun z h=>by cases h;exact(qzu x y (qhm a x ha) (qhm b y hb)).1⟩
def g8:Bs->Bs|[]=>[]|[c]=>[c]|[c,d]=>[c,d]|c::a::b::r=>if c=37 then(match hx a b with|some x=>x::g8 r|none=>c::g8 (a::b::r)) else c::g8 (a::b::r)
def zab(c:UInt8)(r:Bs)(h:c≠37):g8 (c::r)=c::g8 r:=by
 match r with|[]=>rfl|[_]=>rfl|_::_::_=>rw[g8,qW h]
def zaa(r:Bs):g8 (37::r)=match np r with|some x=>x::g8 (r.drop 2)|none=>37::g8 r:=by
 match r with
 |[]=>rfl|[_]=>rfl|a::b::t=>
  rw[g8,qX rfl];show _=match hx a b with|some x=>x::g8 t|none=>37::g8 (a::b::t)
  cases hx a b<;>rfl
def zpp:∀(n:Nat)(s:Bs),s.length<=n->(g8 s).length<=s.length:=by
 intro n
 induction n with
 |zero=>intro s h;have:s=[]:=List.eq_nil_of_length_eq_zero (by omega);subst this;simp[g8]|succ n ih=>
  intro s h
  cases s with
  |nil=>simp[g8]|cons c r=>
   simp only[qL]at h;have h1:=ih r (by omega)
   by_cases hc:c=37
   ·subst hc;rw[zaa]
    cases hp:np r with
    |none=>simp only[qL];omega|some x=>
     have h2:=ih (r.drop 2) (by simp;omega)
     simp only[qL,List.length_drop]at h2 ⊢;omega
   ·rw[zab c r hc];simp only[qL];omega
def zti(fu n:Nat):∀(ab aa out:Bs),aa.length<n->ab.length+aa.length<100000000->out.length+aa.length<100000000 ->
  qe9 fu n (ab++aa) (ab.length:Int) out=some (out++g8 aa):=by
 have hrm:=l7
 induction n using Nat.strongRecOn with
 |ind n ih=>
  intro ab aa out h hb ho;obtain⟨n,rfl⟩:∃m,n=m+1:=⟨n-1,by omega⟩
  rw[qe9,qsg]
  cases aa with
  |nil=>rw[au];simp[g8]|cons c t=>
   simp only[qL]at h hb ho;have one:=ih n (by omega) (ab++[c]) t (out++[c]) (by omega) (by simp;omega) (by simp;omega)
   simp only[qM,qL,qZ,qS,wM,wO]at one;rw[ag (by rw[fg];omega),bt,qB,kg,ay _]
   by_cases hc:c=37
   ·rw[qX hc,ag (by rw[fg];omega),vg]
    obtain⟨v,h1,h2⟩:=qym t;rw[h1,qB];subst hc;rw[zaa]
    cases hp:np t with
    |none=>
     rw[Option.isSome_none,a7 rfl,qB,ag]
     exact one
    |some x=>
     obtain⟨a,b,r,rfl⟩:∃a b r,t=a::b::r:=by
      match t,hp with|a::b::r,_=>exact⟨a,b,r,rfl⟩
     simp only[qL]at h hb ho;rw[Option.isSome_some,a8 rfl,h2 x hp,ag,show(ab.length:Int)+2=((ab.length+2:Nat):Int) by omega,cm (x:=((ab.length+2:Nat):Int)) (by omega) (by omega),ay _]
     have two:=ih n (by omega) (ab++[37,a,b]) r (out++[x]) (by omega) (by simp;omega) (by simp;omega)
     simp only[qM,qL,qZ,qS,wK,List.nil_append,wO]at two;exact two
   ·rw[qW hc,qB,ag,zab c t hc]
    exact one
def qzj(k:Int)(v:Bs):Bs:=if k=0/\6<=v.length/\lk (v.take 6) [117,116,102,56,39,39]=true then v.drop 6 else v
def qab(p:Pc):Bs:=if p.2.2.1=true then g8 (qzj p.2.1 p.2.2.2) else p.2.2.2
def qph(fu:Nat)(hfu:90000000<=fu)(s:Bs)(h:s.length<=4000000):qbe fu s=some (g8 s):=by
 unfold qbe;have:=zti fu fu [] s [] (by omega) (by simp;omega) (by simp;omega)
 simpa using this
def zth(fu:Nat)(hfu:90000000<=fu)(p:Pc)(h:p.2.2.2.length<=4000000:=by omega):qkq fu p=some (qab p):=by
 unfold qkq qab qzj;cases hs:p.2.2.1
 ·rfl
 rw[de,qX rfl,fe];by_cases h0:p.2.1=0
 ·rw[qX h0];by_cases h6:6<=p.2.2.2.length
  ·rw[ag,ag,l8 fu hfu _ _ (by show(List.take 6 _).length<=_;rw[List.length_take];omega) (by simp),qB]
   show uu fu p.2.2.2 (lk (p.2.2.2.take 6) _)=_;rw[uu];cases hl:lk (p.2.2.2.take 6) [117,116,102,56,39,39]
   ·rw[a7 rfl,qph fu hfu _ h,qW (by simp)]
   ·rw[a8 rfl,ag]
    show qbe fu (p.2.2.2.drop 6)=_;rw[qph fu hfu _ (by simp;omega),qX ⟨h0,h6,rfl⟩]
  ·rw[au,uu,a7 rfl,qph fu hfu _ h,qW (by omega)]
 ·rw[qW h0,uu,a7 rfl,qph fu hfu _ h,qW (by omega)]
def zc4(p:Pc):(qab p).length<=p.2.2.2.length:=by
 unfold qab;split
 ·refine Nat.le_trans (zpp _ _ (wF _)) ?_;unfold qzj;split
  ·simp
  ·exact wF _
 ·exact wF _
def zsg(ab:Bs)(c:UInt8)(t:Bs):List.take (((ab.length+1:Nat):Int).toNat-((ab.length:Nat):Int).toNat) (List.drop ((ab.length:Nat):Int).toNat (ab++c::t))=[c]:=by
 rw[pd,show((ab.length+1:Nat):Int).toNat-((ab.length:Nat):Int).toNat=1 by omega];rfl
def pc(k:UInt8):Bs->Option (Bs×Bs)|[]=>none|c::t=>if c=k then some ([],t) else(pc k t).map fun x=>(c::x.1,x.2)
def q58(k:UInt8)(t r:Bs)(h:∀x∈t,x≠k):pc k (t++k::r)=some (t,r):=by
 induction t with
 |nil=>rw[List.nil_append,pc,qX rfl]|cons c t ih=>
  rw[wK,pc,qW (h c qH),ih (fun x hx=>h x (qE _ hx))];rfl
def q6a(k:UInt8)(t:Bs)(h:∀x∈t,x≠k):pc k t=none:=by
 induction t with|nil=>rfl|cons c t ih=>rw[pc,qW (h c qH),ih (fun x hx=>h x (qE _ hx))];rfl
def zsf(s:Bs)(k:UInt8):qa6 s [k]=some (Lib.indexByte s k):=by
 unfold qa6;rw[a7 (by rfl)]
 unfold qa7;by_cases h:[k]=s
 ·subst h;rw[a8];show some 0=some (Lib.indexByte ([]++[k]) k);rw[zg k [] [] (by simp)];rfl
 ·rw[a7 (by simpa using h),a8,show am [k] 0=some k from rfl];rfl
def zkv(s:Bs)(k:UInt8)(h:s.length<=4000000:=by omega):ss s [k]=some (match pc k s with|some x=>(x.1,(x.2,true))|none=>(s,([],false))):=by
 unfold ss qev;rw[zsf,qB];rcases ud k s with⟨t,r,rfl,ht⟩|hn
 ·rw[qM,qL]at h;rw[zg k t r ht,q58 k t r ht,ag,ag (by rw[fg];omega),show(([k]:Bs).length:Int)=1 from rfl,ay _,ag (by rw[fg];omega),vg,wv];rfl
 ·rw[zh k s hn,q6a k s hn,au];rfl
def tj(s:Bs):Bs×Bool:=if s.getLast? = some 42 then(s.dropLast,true) else(s,false)
def zks(t:Bs)(hb:t.length<=4000000:=by omega):qlo t [42]=some (tj t):=by
 unfold qlo qr2 xt tj;rw[show(([42]:List UInt8).length:Int)=1 from rfl]
 rcases List.eq_nil_or_concat t with rfl|⟨u,c,rfl⟩
 ·rfl
 ·rw[List.concat_eq_append]at *;simp only[qM,qL,qZ]at hb;rw[kp,lg _ (by omega),ag,ag,qB,List.getLast?_concat,List.dropLast_concat]
  have e:List.drop ((u.length:Nat):Int).toNat (u++[c])=[c]:=pd u [c];rw[e,wu];by_cases hc:c=42
  ·subst hc;rw[qX rfl,show([(42:UInt8)]==[42])=true from rfl,de,ag];rfl
  ·rw[qW (by simpa using hc),show([c]==[(42:UInt8)])=false by simpa using hc];rfl
def kw(nm v:Bs):Option Pc:=match pc 42 nm with|none=>if nm=[] then none else some (nm,-1,false,v)|some x=>if x.1≠[]/\(nn (tj x.2).1 1099511627776).2=true then some (x.1,(nn (tj x.2).1 1099511627776).1,(tj x.2).2,v) else none
def q59{k:UInt8}{s:Bs}{x:Bs×Bs}(h:pc k s=some x):x.1.length+x.2.length<s.length:=by
 rcases ud k s with⟨t,r,rfl,ht⟩|hn
 ·rw[q58 k t r ht]at h;cases h;simp only[qM,qL];omega
 ·rw[q6a k s hn]at h;cases h
def zlr(s:Bs):(tj s).1.length<=s.length:=by unfold tj;split<;>simp
def zad{nm v:Bs}{p:Pc}(h:kw nm v=some p):p.1.length<=nm.length/\p.2.2.2=v /\ -1<=p.2.1/\p.2.1<=1099511627776/\p.1≠[]:=by
 unfold kw at h
 cases hc:pc 42 nm with
 |none=>
  rw[hc]at h;simp only at h;by_cases hn:nm=[]
  ·rw[qX hn]at h;cases h
  ·rw[qW hn]at h;cases h;exact⟨wF _,rfl,by simp only;omega,by simp only;omega,hn⟩
 |some x=>
  rw[hc]at h;simp only at h;by_cases hn:x.1≠[]/\(nn (tj x.2).1 1099511627776).2=true
  ·rw[qX hn]at h;obtain⟨u,_,h1,h2⟩:=zow hn.2;have hl:=q59 hc;cases h
   rw[h2];exact⟨by simp only;omega,rfl,by simp only;omega,by simp only;omega,hn.1⟩
  ·rw[qW hn]at h;cases h
def zoy(s:Bs)(h:s.length<=4000000:=by omega):xj s 1099511627776=some (nn s 1099511627776):=by unfold xj;rw[ag]
def zoi(fu:Nat)(hfu:90000000<=fu)(s:Bs)(h:s.length<=4000000:=by omega):∃R,qks fu s=some R/\match vt s with
  |none=>R.2.1=false|some x=>match kw x.1.1 x.1.2 with
   |none=>R.2.1=false|some p=>R=(p,(true,x.2)):=by
 have l1:=qaa ia s;have l2:=qda 61 (dp ia s).2;unfold qks vt;rw[ztd fu hfu s h,qB,qol fu hfu 61 _,qB]
 cases hs:(d7 61 (dp ia s).2).1
 ·rw[d5,qW (by simp)];exact⟨_,rfl,rfl⟩
 rw[de,qX rfl];obtain⟨r,hv⟩:=zub fu hfu (d7 61 (dp ia s).2).2
 rw[hv,qB,zkv _ 42,qB]
 generalize hx:qaf (d7 61 (dp ia s).2).2=vs;generalize hn:(dp ia s).1=nm at *
 cases hc:pc 42 nm with
 |none=>
  simp only[qF]
  cases vs with
  |none=>exact⟨_,rfl,rfl⟩|some x=>
   refine⟨_,rfl,?_⟩;simp only[wQ];unfold kw;rw[hc]
   cases nm with|nil=>rfl|cons c nm=>rfl
 |some y=>
  have l3:=q59 hc;have l4:=zlr y.2;simp only[qT];rw[zks _,qB,zoy _,qB]
  cases vs with
  |none=>exact⟨_,rfl,rfl⟩|some x=>
   simp only[qT,wQ];unfold kw;rw[hc];simp only;cases hq:(nn (tj y.2).1 1099511627776).2
   ·rw[qW (by simp)];exact⟨_,rfl,rfl⟩
   ·by_cases hy:y.1=[]
    ·rw[qW (by simp[hy])];refine⟨_,rfl,?_⟩;simp[hy]
    ·rw[qX ⟨hy,rfl⟩];refine⟨_,rfl,?_⟩;simp only;congr 2
     cases hy1:y.1 with|nil=>exact absurd hy1 hy|cons=>rfl
def nr(f:Bs->Bs->Option Pc):Nat->List Pc->Bs->Option (List Pc)
 |0,_,_=>none|n+1,acc,s=>match dy s with
  |[]=>some acc| c::t=>if c=59 then(match vt t with
   |none=>none|some x=>match f x.1.1 x.1.2 with
    |none=>none| some p=>nr f n (acc++[p]) x.2) else none
def db(l:List Pc):Nat:=(l.map fun p=>p.1.length+p.2.2.2.length+1).sum
def zcv(l:List Pc)(p:Pc):db (l++[p])=db l+(p.1.length+p.2.2.2.length+1):=by unfold db;simp
def qin(l:List Pc):l.length<=db l:=by
 unfold db
 induction l with|nil=>simp|cons p l ih=>simp only[List.map_cons,List.sum_cons,qL];omega
def y9(R:qgk):Prop:=match R with | .inl x=>x.2.2=false | .inr x=>x.2.2.1=false
def nb(p:Pc):Prop := -1<=p.2.1/\p.2.1<=1099511627776
def zpv(fu:Nat)(hfu:90000000<=fu)(Qp:List Pc->Bool×List cr)(hQ:∀l,db l<=300000->(∀x∈l,nb x)->qbc fu l=some (Qp l))(a b T S:Bs):∀(n:Nat)(s:Bs)(acc:List Pc),db acc+s.length<=300000->s.length<n->(∀x∈acc,nb x) ->
  ∃R,qe8 fu n a b s T S acc=some R/\match nr kw n acc s with
   |none=>y9 R|some l=>if(Qp l).1=true then R = .inr (T,(S,(true,(Qp l).2))) else y9 R:=by
 have hrm:=l7;intro n
 induction n with
 |zero=>intro s acc _ h;omega|succ n ih=>
  intro s acc hz h hnb;have hl:=tz s;have hal:=qin acc;rw[qe8,qse,qol fu hfu 59 s,qB,nr]
  unfold d7
  cases ht:dy s with
  |nil=>
   simp only[qF];rw[qca fu hfu [] (by simp),qB,hQ acc (by omega) hnb,qB]
   cases hq:(Qp acc).1
   ·refine⟨_,rfl,?_⟩;rw[qW (by simp)];rfl
   ·refine⟨_,rfl,?_⟩;rw[qX rfl];rfl
  |cons c t=>
   rw[ht]at hl;simp only[qL]at hl;by_cases hc:c=59
   ·simp only[qX hc,qT];obtain⟨R,h1,h2⟩:=zoi fu hfu t
    rw[h1,qB]
    cases hx:vt t with
    |none=>
     rw[hx]at h2;simp only at h2;rw[h2,d5];exact⟨_,rfl,rfl⟩
    |some x=>
     rw[hx]at h2;simp only at h2 ⊢;have hxl:=(qxy (n:=x.1.1) (v:=x.1.2) (t:=x.2) hx).1
     cases hp:kw x.1.1 x.1.2 with
     |none=>
      rw[hp]at h2;simp only at h2;rw[h2,d5];exact⟨_,rfl,rfl⟩
     |some p=>
      rw[hp]at h2;simp only at h2 ⊢;obtain⟨g1,g2,g3,g4,_⟩:=zad hp;subst h2;have hz2:db (acc++[p])+x.2.length<=300000:=by rw[zcv,g2];omega
      rw[de,ag]
      exact ih x.2 (acc++[p]) hz2 (by omega) (fun y hy=>(List.mem_append.1 hy).elim (hnb y) (fun e=>by rw[List.mem_singleton.1 e];exact⟨g3,g4⟩))
   ·simp only[qW hc,qF];rw[qca fu hfu (c::t) (by simp only[qL];omega),qB,show dy (c::t)=c::t by rw[← ht,zn6],hQ acc (by omega) hnb,qB]
    cases hq:(Qp acc).1
    ·exact⟨_,rfl,rfl⟩
    ·exact⟨_,rfl,rfl⟩
def we(f:Bs->Bs->Option Pc)(s:Bs):Option (Bs×Bs×List Pc):=
 let a:=dp tk s;let b:=d7 47 a.2;let c:=dp tk b.2
 if a.1=[]\/b.1=false\/c.1=[] then none else(nr f (s.length+1) [] c.2).map fun l=>(a.1,c.1,l)
def zaj(f:Bs->Bs->Option Pc):∀(n:Nat)(acc:List Pc)(s:Bs),s.length<n->nr f n acc s=nr f (s.length+1) acc s:=by
 intro n
 induction n using Nat.strongRecOn with
 |ind n ih=>
  intro acc s h;obtain⟨n,rfl⟩:∃m,n=m+1:=⟨n-1,by omega⟩
  have hl:=tz s;rw[nr,nr]
  cases ht:dy s with
  |nil=>rfl|cons c t=>
   rw[ht]at hl;simp only[qL]at hl;simp only;by_cases hc:c=59
   ·rw[qX hc,qX hc]
    cases hx:vt t with
    |none=>rfl|some x=>
     have hxl:=(qxy (n:=x.1.1) (v:=x.1.2) (t:=x.2) hx).1;simp only
     cases f x.1.1 x.1.2 with
     |none=>rfl|some p=>
      simp only;rw[ih n (by omega) _ _ (by omega)]
      by_cases he:s.length=n
      ·rw[he];exact(ih n (by omega) _ _ (by omega)).symm
      ·rw[ih s.length (by omega) _ _ (by omega)]
   ·rw[qW hc,qW hc]
def zog(fu:Nat)(hfu:90000000<=fu)(Qp:List Pc->Bool×List cr)(hQ:∀l,db l<=300000->(∀x∈l,nb x)->qbc fu l=some (Qp l))(s:Bs)(h:s.length<=300000:=by omega) :
  ∃R,qkp fu s=some R/\match we kw s with
   |none=>y9 R|some m=>if(Qp m.2.2).1=true then R = .inr (m.1,(m.2.1,(true,(Qp m.2.2).2))) else y9 R:=by
 have l1:=qaa tk s;have l2:=qda 47 (dp tk s).2;have l3:=qaa tk (d7 47 (dp tk s).2).2;unfold qkp we;rw[zcz fu hfu s,qB,qol fu hfu 47 _,qB,zcz fu hfu _,qB]
 simp only[];generalize ha:dp tk s=A at *;generalize hb:d7 47 A.2=B at *;generalize hc:dp tk B.2=C at *
 cases h1:A.1 with
 |nil=>rw[a8,ut,a8 rfl,qX (.inl rfl)];exact⟨_,rfl,rfl⟩|cons x1 y1=>
  rw[a7 (by rfl)]
  cases h2:B.1 with
  |false=>rw[d5,ut,a8 rfl,qX (.inr (.inl rfl))];exact⟨_,rfl,rfl⟩|true=>
   rw[de]
   cases h3:C.1 with
   |nil=>rw[ut,a8,qX (.inr (.inr rfl))];exact⟨_,rfl,rfl⟩|cons x3 y3=>
    rw[ut,a7 (by rfl),qW (by simp),qsf]
    obtain⟨R,g1,g2⟩:=zpv fu hfu Qp hQ [] [] (x1::y1) (x3::y3) fu C.2 [] (by simp[db];omega) (by omega) (by simp)
    refine⟨R,g1,?_⟩;rw[zaj _ fu _ _ (by omega)]at g2
    rw[zaj _ (s.length+1) _ _ (by omega)]
    cases hp:nr kw (C.2.length+1) [] C.2 with|none=>rw[hp]at g2;exact g2|some l=>rw[hp]at g2;exact g2

open Go.Sort (SWO PermIn SortedIn pdq_sorts)
open Go.Proofs (ltOf)
def ltQ(x y:Pq):ltOf iw x y=decide (x.1.2.1<y.1.2.1):=by
 have:=x.2;have:=y.2;unfold ltOf iw;have h:af (x.1.2.1-y.1.2.1)=x.1.2.1-y.1.2.1:=by unfold af;simp[IntKind.wrap,IntKind.bits,IntKind.signed];omega
 rw[h];by_cases q:x.1.2.1<y.1.2.1<;>simp[q]<;>omega
def zs6:SWO (ltOf iw):=⟨fun x=>by rw[ltQ];simp,fun x y z h1 h2=>by rw[ltQ]at *;simp at *;omega,fun x y z h1 h2=>by rw[ltQ]at *;simp at *;omega⟩
def zcg(l:List Pq):(g9 l).Perm l/\(g9 l).Pairwise (fun x y=>x.1.2.1<=y.1.2.1):=by
 obtain⟨⟨h1,_,h2⟩,h3⟩:=pdq_sorts (ltOf iw) zs6 l.toArray 0 l.length (Lib.bitLen l.length) true true (Nat.zero_le _) (by simp) (.inl rfl)
 have hsort:g9 l=(Go.Sort.pdq (ltOf iw) l.toArray 0 l.length (Lib.bitLen l.length) true true).toList:=rfl;generalize Go.Sort.pdq (ltOf iw) l.toArray 0 l.length (Lib.bitLen l.length) true true=D at h1 h2 h3 hsort;have hs:D.size=l.length:=by rw[h1];simp
 rw[hsort];constructor
 ·have e:∀d:Array Pq,d.size=l.length->(d.extract 0 l.length).toList=d.toList:=fun d hd=>by rw[← hd];simp
  rw[e _ hs,e _ (by simp)]at h2
  simpa using h2
 ·rw[List.pairwise_iff_getElem];intro i j hi hj hij;rw[Array.length_toList]at hi hj;have:=h3 i j (Nat.zero_le _) hij (by omega)
  rw[ltQ,getElem!_pos D j hj,getElem!_pos D i hi]at this;have:=of_decide_eq_false this;simp only[Array.getElem_toList];omega
def zc6:∀l:List Pc,(∀p∈l,nb p)->∃q,p9 l=some q/\q.map (·.1)=l
 |[],_=>⟨[],rfl,rfl⟩|p::l,h=>by
  obtain⟨q,h1,h2⟩:=zc6 l (fun x hx=>h x (qE _ hx))
  have hp:=h p qH;unfold nb at hp;refine⟨⟨p,by omega⟩::q,?_,by simp[h2]⟩
  rw[p9,dif_pos (by omega),h1]
def nt(l:List Pc):List Pc:=match p9 l with|some q=>(g9 q).map (·.1)|none=>[]
def zsk(l:List Pc)(h:∀p∈l,nb p)(hl:l.length<=4000000:=by omega):yh l=some (nt l)/\(nt l).Perm l/\(nt l).Pairwise (fun x y=>x.2.1<=y.2.1):=by
 have hrm:=l7;obtain⟨q,h1,h2⟩:=zc6 l h;have h3:=zcg q;unfold yh nt;rw[h1,ag]
 refine⟨rfl,?_,?_⟩
 ·have:=h3.1.map (·.1);rw[h2]at this;exact this
 ·exact List.pairwise_map.2 h3.2
def om:List Pc->Int->Bs->Option Bs|[],_,out=>some out|p::q,k,out=>if p.2.1=k then om q (k+1) (out++qab p) else none
def qyf:List Pc->Int->Prop|[],_=>True|p::q,k=>p.2.1=k/\qyf q (k+1)
def q81:∀(q:List Pc)(k:Int)(out:Bs),qyf q k->om q k out=some (out++q.flatMap qab)|[],_,out,_=>by simp[om]|p::q,k,out,h=>by rw[om,qX h.1,q81 q _ _ h.2];simp
def q80:∀(q:List Pc)(k:Int)(out v:Bs),om q k out=some v->qyf q k
 |[],_,_,_,_=>trivial|p::q,k,out,v,h=>by
  rw[om]at h;by_cases hp:p.2.1=k
  ·rw[qX hp]at h;exact⟨hp,q80 q _ _ _ h⟩
  ·rw[qW hp]at h;cases h
def qhs:List Pc->Option Bs|[]=>none|p::l=>if p.2.1<0 then(if l=[] then some p.2.2.2 else none) else(om (nt (p::l)) 0 []).map fun v=>vu [239,191,189] v.length false v
def q8n(p:Pc)(l:List Pc):qhs (p::l)=if p.2.1<0 then(if l=[] then some p.2.2.2 else none) else(om (nt (p::l)) 0 []).map fun v=>vu [239,191,189] v.length false v:=rfl
def qim(p:Pc)(l:List Pc):db (p::l)=(p.1.length+p.2.2.2.length+1)+db l:=by unfold db;simp
def zcx{l l':List Pc}(h:l.Perm l'):db l=db l':=by unfold db;exact(h.map _).sum_nat
def qzn{l:List Pc}{p:Pc}(h:p∈l):p.1.length+p.2.2.2.length+1<=db l:=by
 obtain⟨a,b,rfl⟩:=List.append_of_mem h;unfold db;simp;omega
def znh(fu n:Nat)(hfu:90000000<=fu)(z:Bs×Bs)(nm:Bs):∀(ab aa:List Pc)(out:Bs),aa.length<n->ab.length+aa.length<100000000->out.length+db aa<=300000 ->
  ∃R,qe2 fu n ((ab.length+aa.length:Nat):Int) (ab.length:Int) z (nm,out) (ab++aa)=some R/\match om aa (ab.length:Int) out with
   |some v=>R=((nm,vu [239,191,189] v.length false v),true)|none=>R.2=false:=by
 induction n with
 |zero=>intro ab aa out h;omega|succ n ih=>
  intro ab aa out h hb hz;rw[qe2,qr9]
  cases aa with
  |nil=>
   rw[au,ztn out (by simp[db]at hz;omega)]
   exact⟨_,rfl,rfl⟩
  |cons p t=>
   rw[qim]at hz;simp only[qL]at h hb;have hl:0<=(ab.length:Int)/\(ab.length:Int).toNat<(ab++p::t).length:=by simp
   have htl:=zc4 p;rw[ag (by simp only[qL];omega),ag hl,nh,qB,dt,om]
   by_cases hp:p.2.1=(ab.length:Int)
   ·rw[qW (by simpa using hp),qX hp,zth fu hfu p,qB,ag (by simp[bc];omega),ay _]
    have:=ih (ab++[p]) t (out++qab p) (by omega) (by simp;omega) (by rw[qM];omega)
    simp only[qM,qL,qZ,qS,wM,wO]at this;rw[show(ab.length+(p::t).length:Nat)=ab.length+1+t.length by simp only[qL];omega,show(ab.length:Int)+1=((ab.length+1:Nat):Int) by omega]
    exact this
   ·rw[qX hp,qW hp];exact⟨_,rfl,rfl⟩
def zni(fu:Nat)(hfu:90000000<=fu)(p:Pc)(l:List Pc)(hz:db (p::l)<=300000)(hn:∀x∈p::l,nb x):∃R,qe1 fu (p::l)=some R/\match qhs (p::l) with
  |some v=>R=((p.1,v),true)|none=>R.2=false:=by
 have hl:decide (0<=(0:Int)/\(0:Int).toNat<List.length (p::l))=true:=by simp
 have ac:=qin (p::l);unfold qe1;rw[q8n,a8 hl,show(p::l)[(0:Int).toNat]? = some p from rfl,qB,a8 hl,qB,a8 hl,qB]
 by_cases h0:p.2.1<0
 ·rw[ag h0,qX h0];refine⟨_,rfl,?_⟩
  cases l with|nil=>rfl|cons y l=>rw[qW (by simp)];simp;omega
 ·rw[au h0,qW h0];obtain⟨h1,h2,h3⟩:=zsk (p::l) hn
  rw[h1,qB];obtain⟨R,g1,g2⟩:=znh fu fu hfu ([],[]) p.1 [] (nt (p::l)) [] (by rw[h2.length_eq];omega) (by rw[h2.length_eq];simp only[qZ];omega) (by rw[zcx h2];simpa using hz)
  simp only[List.nil_append,qZ,wO]at g1 g2;refine⟨R,g1,?_⟩;rw[show((0:Nat):Int)=0 from rfl]at g2
  cases hq:om (nt (p::l)) 0 [] with|none=>rw[hq]at g2;exact g2|some v=>rw[hq]at g2;exact g2
def nk(nm:Bs)(l:List Pc):List Pc:=l.filter fun x=>lk x.1 nm
def lz:List Pc->List Pc->List cr->Bool×List cr
 |_,[],out=>(true,out)|ab,p::aa,out=>if ab.any (fun x=>lk x.1 p.1)=true then lz (ab++[p]) aa out else match qhs (nk p.1 (ab++p::aa)) with|none=>(false,[])|some v=>lz (ab++[p]) aa (out++[(p.1,v)])
def zng(fu n:Nat)(hfu:90000000<=fu)(p:Pc)(hp:p.1.length<=4000000):∀(ab aa:List Pc),aa.length<n->ab.length+aa.length<100000000->(∀x∈aa,x.1.length<=4000000) ->
  ∃i:Int,qfw fu n (ab++aa) ((ab.length+aa.length:Nat):Int) (ab.length:Int) p=some (i,p)/\decide (0<=i)=aa.any (fun x=>lk x.1 p.1):=by
 induction n with
 |zero=>intro ab aa h;omega|succ n ih=>
  intro ab aa h hb hs;rw[qfw,qtc]
  cases aa with
  |nil=>rw[au];exact⟨_,rfl,rfl⟩|cons d aa=>
   simp only[qL]at h hb;rw[ag (by simp only[qL];omega),bt,qB,qe5,l8 fu hfu _ _ (hs d qH) hp,qB,qB,ay _]
   obtain⟨i,h1,h2⟩:=ih (ab++[d]) aa (by omega) (by simp;omega) (fun x hx=>hs x (qE _ hx))
   simp only[qM,qL,qZ,qS,wM,wO]at h1;cases e:lk d.1 p.1
   ·simp only[qF,List.any_cons,e,Bool.false_or];rw[show(ab.length+(d::aa).length:Nat)=ab.length+1+aa.length by simp only[qL];omega]
    exact⟨i,h1,h2⟩
   ·simp only[qT,List.any_cons,e,Bool.true_or];exact⟨_,rfl,decide_eq_true (by omega)⟩
def zj8(fu:Nat)(hfu:90000000<=fu)(l:List Pc)(p:Pc)(hp:p.1.length<=4000000)(hl:l.length<=4000000)(hs:∀x∈l,x.1.length<=4000000):qlj fu l p=some (l.any (fun x=>lk x.1 p.1),p):=by
 obtain⟨i,h1,h2⟩:=zng fu fu hfu p hp [] l (by omega) (by simp;omega) hs
 simp only[List.nil_append,qZ,wO]at h1;unfold qlj qtb;rw[← h2];exact(congrArg (fun q=>Option.bind q fun x1=>some (decide ((0:Int)<=x1.1),x1.2)) h1).trans rfl
def qwm(r0:((List (Bs×Int×Bool×Bs))->(List (Bs×Int×Bool×Bs))->Int->Int->(List (Bs×Bs))->Option yq))(s0 s13:List Pc)(s14 s15:Int)(p:Pc)(out:List cr)(x3:(Bs×Bs)×Bool):Option yq:=bif !x3.2 then some (false,[]) else bif decide (List.length (out++([(p.1,x3.1.2)]:List cr))<=ax) then r0 s0 s13 s14 (af (s15+(1:Int))) (out++([(p.1,x3.1.2)]:List cr)) else none
def zpq(fu:Nat)(hfu:90000000<=fu)(r0:((List (Bs×Int×Bool×Bs))->(List (Bs×Int×Bool×Bs))->Int->Int->(List (Bs×Bs))->Option yq))(s0 s13:List Pc)(s14 s15:Int)(p:Pc)(hp:p.1.length<=4000000)(out:List cr)(n:Nat):∀(ab aa acc:List Pc),aa.length<n->ab.length+aa.length<100000000->acc.length<=ab.length->(∀x∈aa,x.1.length<=4000000) ->
  qe6 fu r0 n s0 s13 s14 s15 (ab++aa) ((ab.length+aa.length:Nat):Int) (ab.length:Int) p out acc =
   (qe1 fu (acc++nk p.1 aa)).bind (qwm r0 s0 s13 s14 s15 p out):=by
 have hrm:=l7
 induction n with
 |zero=>intro ab aa acc h;omega|succ n ih=>
  intro ab aa acc h hb ha hs;rw[qe6,qsd]
  cases aa with
  |nil=>rw[au,show nk p.1 []=[] from rfl,List.append_nil];rfl|cons d aa=>
   simp only[qL]at h hb;rw[ag (by simp only[qL];omega),bt,qB,qe5,l8 fu hfu _ _ (hs d qH) hp,qB,qB]
   have h1:=fun acc'(ha':acc'.length<=ab.length+1)=>ih (ab++[d]) aa acc' (by omega) (by simp;omega) (by simpa using ha') (fun x hx=>hs x (qE _ hx))
   simp only[qM,qL,qZ,qS,wM,wO]at h1;rw[show nk p.1 (d::aa)=if lk d.1 p.1=true then d::nk p.1 aa else nk p.1 aa by unfold nk;rw[List.filter_cons]]
   cases e:lk d.1 p.1
   ·simp only[qF,wJ,if_false];rw[qe7,ay _,show(ab.length+(d::aa).length:Nat)=ab.length+1+aa.length by simp only[qL];omega]
    exact h1 acc (by omega)
   ·simp only[qT,if_true];rw[ag,qe7,ay _,show(ab.length+(d::aa).length:Nat)=ab.length+1+aa.length by simp only[qL];omega]
    refine(h1 (acc++[d]) (by simp;omega)).trans ?_
    rw[qS];rfl
def zcw(f:Pc->Bool)(l:List Pc):db (l.filter f)<=db l:=by
 induction l with
 |nil=>simp|cons p l ih=>
  rw[List.filter_cons];split
  ·rw[qim,qim];omega
  ·rw[qim];omega
def zph(fu:Nat)(hfu:90000000<=fu)(l:List Pc)(hz:db l<=300000)(hn:∀x∈l,nb x)(n:Nat):∀(ab aa:List Pc)(out:List cr),l=ab++aa->aa.length<n->out.length<=ab.length ->
  qbd fu n l (ab++aa) ((ab.length+aa.length:Nat):Int) (ab.length:Int) out=some (lz ab aa out):=by
 have hrm:=l7;have hll:=qin l;have hnm:∀x∈l,x.1.length<=4000000:=fun x hx=>by have:=qzn hx;omega
 induction n with
 |zero=>intro ab aa out _ h;omega|succ n ih=>
  intro ab aa out hl h ho;rw[qbd,qsc]
  cases aa with
  |nil=>rw[au];rfl|cons p aa=>
   simp only[qL]at h;have ac:l.length=ab.length+aa.length+1:=by rw[hl];simp;omega
   have hp:=hnm p (by rw[hl];simp)
   rw[ag (by simp only[qL];omega),bt,qB,ag]
   have e:List.take ((ab.length:Nat):Int).toNat l=ab:=by rw[hl];exact wv _ _
   rw[e,zj8 fu hfu ab p hp (by omega) (fun x hx=>hnm x (by rw[hl];simp[hx])),qB,lz]
   have step:=fun o(ho:List.length o<=ab.length+1)=>ih (ab++[p]) aa o (by rw[hl];simp) (by omega) (by simpa using ho)
   simp only[qM,qL,qZ,qS,wM,wO]at step;simp only;cases hany:ab.any (fun x=>lk x.1 p.1)
   ·rw[a7 rfl,qW (by simp)]
    have h1:=zpq fu hfu (qbd fu n) l (ab++p::aa) ((ab.length+(p::aa).length:Nat):Int) (ab.length:Int) p hp out fu [] l [] (by omega) (by simp;omega) (by simp) hnm
    simp only[List.nil_append,qZ,wO]at h1;rw[show((0:Nat):Int)=0 from rfl]at h1
    rw[h1];have hmem:p∈nk p.1 l:=by unfold nk;rw[List.mem_filter];exact⟨by rw[hl];simp,zn2 _⟩
    have hzz:=zcw (fun x=>lk x.1 p.1) l
    cases hN:nk p.1 l with
    |nil=>rw[hN]at hmem;cases hmem
    |cons y w=>
     obtain⟨R,g1,g2⟩:=zni fu hfu y w (by rw[← hN];unfold nk;omega) (fun x hx=>hn x (by rw[← hN]at hx;exact(List.mem_filter.1 hx).1))
     rw[g1,qB];rw[← hl,hN]
     cases hj:qhs (y::w) with
     |none=>rw[hj]at g2;simp only at g2;rw[qwm,g2];rfl|some v=>
      rw[hj]at g2;simp only at g2;subst g2;rw[qwm,de,ag,ay _]
      simp only;rw[show(ab.length+(p::aa).length:Nat)=ab.length+1+aa.length by simp only[qL];omega]
      have st:=step (out++[(p.1,v)]) (by simp;omega)
      rw[← hl]at st;exact st
   ·rw[a8 rfl,qX rfl,ay _,show(ab.length+(p::aa).length:Nat)=ab.length+1+aa.length by simp only[qL];omega]
    exact step out (by omega)
def zpg(fu:Nat)(hfu:90000000<=fu)(l:List Pc)(hz:db l<=300000)(hn:∀x∈l,nb x):qbc fu l=some (lz [] l []):=by
 have hll:=qin l;have:=zph fu hfu l hz hn fu [] l [] rfl (by omega) (by simp)
 simpa [qbc] using this
end Go.Sym
namespace Go.Sym
section ref
variable(fu:Nat)(hfu:90000000<=fu)(l ab aa:List Pc)(p:Pc)(hl:l=ab++p::aa)(hz:db l<=300000)(b0 b1 T S:Bs)(ps:List cr)
include hfu hl hz
end ref
def jv(s:List UInt8)(i:Nat):Bool:=bl (s.getD i 0) && !bl (s.getD (i-1) 0)
def cb(s:List UInt8):Nat->Nat->Nat->Nat|0,_,b=>b|m+1,i,b=>cb s m (i+1) (if jv s i && !(decide (0<b)&&decide (78<i)) then i else b)
def q5z(s:List UInt8):∀m i b,0<b->78<i->cb s m i b=b
 |0,_,_,_,_=>rfl|m+1,i,b,h1,h2=>by
  rw[cb,decide_eq_true h1,decide_eq_true h2];simp only[Bool.and_self,Bool.not_true,Bool.and_false,wJ,if_false];exact q5z s m (i+1) b h1 (by omega)
def qwd(s:List UInt8):∀m i b,cb s m i b=b\/(i<=cb s m i b/\cb s m i b<i+m/\jv s (cb s m i b)=true)
 |0,_,_ => .inl rfl|m+1,i,b=>by
  rw[cb];split
  ·rename_i h;simp only[qA]at h;rcases qwd s m (i+1) i with e|⟨h1,h2,h3⟩
   ·rw[e];exact .inr ⟨wF _,by omega,h.1⟩
   ·exact .inr ⟨by omega,by omega,h3⟩
  ·rcases qwd s m (i+1) b with e|⟨h1,h2,h3⟩
   ·exact .inl e
   ·exact .inr ⟨by omega,by omega,h3⟩
def qn0(s:List UInt8)(i:Nat)(h:i<s.length):s.getD i 0=s[i]:=by simp[List.getD_eq_getElem?_getD,h]
def zpy(fu n:Nat):∀(s:List UInt8)(m i b:Nat),i+m=s.length->1<=i->m<n->s.length<1000000000->qer fu n s (b:Int) (i:Int)=some ((cb s m i b:Nat):Int):=by
 induction n with
 |zero=>intro s m i b _ _ h;omega|succ n ih=>
  intro s m i b hi h1 hm hb;rw[qer,qry]
  cases m with
  |zero=>rw[au];rfl|succ m=>
   have hlt:i<s.length:=by omega
   have hlt':i-1<s.length:=by omega
   rw[ag,qcv _ _ hlt,qB,qg0,qB,cb]
   unfold jv;rw[qn0 _ _ hlt,qn0 _ _ hlt'];unfold qkh;cases bl s[i]
   ·rw[d5,a8,ay _]
    exact ih s m (i+1) b (by omega) (by omega) (by omega) hb
   ·rw[de,show af ((i:Int)-1)=((i-1:Nat):Int) by rw[cm];omega,qcv _ _ hlt',qB,qg0,qB]
    cases bl s[i-1]
    ·rw[a7 (by rfl),ay _,cd,cd]
     by_cases q1:0<b
     ·rw[qX,decide_eq_true q1]
      by_cases q2:78<i
      ·rw[qX,decide_eq_true q2]
       simp only[Bool.and_self,Bool.not_true,Bool.and_false,wJ,if_false];rw[q5z s m (i+1) b q1 (by omega)]
      ·rw[qW (by omega),decide_eq_false q2]
       exact ih s m (i+1) i (by omega) (by omega) (by omega) hb
     ·rw[qW (by omega),decide_eq_false q1]
      exact ih s m (i+1) i (by omega) (by omega) (by omega) hb
    ·rw[a8,ay _]
     exact ih s m (i+1) b (by omega) (by omega) (by omega) hb
def fq(s:List UInt8)(k:Nat):Nat:=cb s (s.length-k) k 0
def zpx(fu:Nat)(s:List UInt8)(k:Nat)(h:s.length<fu)(hb:s.length<1000000000)(hk:k<=s.length)(h0:1<=s.length):qkg fu s (k:Int)=some ((fq s (max k 1):Nat):Int):=by
 unfold qkg fq;have e:(if(1:Int)>(k:Int) then(1:Int) else(k:Int))=((max k 1:Nat):Int):=by
  split
  ·rename_i h;have:k=0:=by omega
   subst this;rfl
  ·rename_i h;rw[Nat.max_eq_left (by omega)]
 rw[e];exact zpy fu fu s (s.length-max k 1) (max k 1) 0 (by omega) (by omega) (by omega) hb
def fo:Nat->List UInt8->Nat->List (List UInt8)|0,s,_=>[s]|n+1,s,k=>if 78<s.length then(if fq s k=0 then[s] else s.take (fq s k)::fo n (s.drop (fq s k)) 1) else[s]
def qwa(s:List UInt8)(k:Nat)(_h1:1<=k)(h:fq s k≠0):k<=fq s k/\fq s k<s.length/\jv s (fq s k)=true:=by
 unfold fq at *;rcases qwd s (s.length-k) k 0 with e|⟨h2,h3,h4⟩
 ·exact absurd e h
 ·exact⟨h2,by omega,h4⟩
def q9:Nat->List (List UInt8)->Option Nat|_,[]=>none|i,l::ls=>if 998<l.length then some i else q9 (i+1) ls
def vv(ls:List (List UInt8)):(Int×Int)×List (List UInt8):=match q9 0 ls with|some i=>((1,(i:Int)),[])|none=>((0,0),ls)
def zkb(fu n:Nat)(m16:Int×Int):∀(ab aa:List (List UInt8)),aa.length<n->ab.length+aa.length<1000000000 ->
  qeq fu n ((ab.length+aa.length:Nat):Int) (ab.length:Int) m16 (ab++aa)=some (match q9 ab.length aa with|some i=>((1,(i:Int)),[])|none=>((0,0),ab++aa)):=by
 induction n with
 |zero=>intro ab aa h;omega|succ n ih=>
  intro ab aa h hb;rw[qeq,qrw]
  cases aa with
  |nil=>rw[au];rfl|cons c aa=>
   simp only[qL]at h hb ⊢;rw[ag,qo5,bt,qB,cd,q9]
   by_cases hc:998<c.length
   ·rw[qX,qX hc];rfl
   ·rw[qW (by omega),qW hc,ay _]
    have:=ih (ab++[c]) aa (by omega) (by simp;omega)
    simp only[qS,wM,qM,qL,qZ]at this;rw[show ab.length+(0+1)+aa.length=ab.length+(aa.length+1) by omega]at this
    exact this
def q7u(fu:Nat)(m16:Int×Int)(s:List UInt8)(out:List (List UInt8))(h:out.length+1<fu:=by omega)(hb:out.length<900000000:=by omega):qep fu s m16 out=some (vv (out++[s])):=by
 unfold qep;rw[ag (by simp[ax];omega)]
 have:=zkb fu fu m16 [] (out++[s]) (by simpa using h) (by simp;omega)
 simp only[List.nil_append,qZ,wO]at this;exact this
def zl6(fu n:Nat)(m16:Int×Int):∀(m:Nat)(s:List UInt8)(k k':Nat)(out:List (List UInt8)),s.length<=m->s.length<n->max k 1=k'->(78<s.length->k<=s.length)->s.length+out.length+1<fu->s.length+out.length<500000000 ->
  qeo fu n s (k:Int) m16 out=some (vv (out++fo m s k')):=by
 induction n with
 |zero=>intro m s k k' out _ h;omega|succ n ih=>
  intro m s k k' out hm h hk hk2 hf hb;rw[qeo,qrv,cd];by_cases hl:78<s.length
  ·obtain⟨m,rfl⟩:∃j,m=j+1:=⟨m-1,by omega⟩
   rw[qX,zpx fu s k (by omega) (by omega) (hk2 hl) (by omega),hk,qB,fe,fo,qX hl]
   by_cases h0:fq s k'=0
   ·rw[qX,qX h0]
    exact q7u fu m16 s out
   ·obtain⟨h1,h2,_⟩:=qwa s k' (by omega) h0
    rw[qW (by omega),qW h0,ag,ag (by simp[ax];omega),ag]
    have:=ih m (s.drop (fq s k')) 0 1 (out++[s.take (fq s k')]) (by rw[List.length_drop];omega) (by rw[List.length_drop];omega) rfl (by intro;omega) (by rw[List.length_drop,qM,wD];omega) (by rw[List.length_drop,qM,wD];omega)
    simpa using this
  ·rw[qW (by omega)]
   have e:fo m s k'=[s]:=by cases m with|zero=>rfl|succ m=>rw[fo,qW hl]
   rw[e];exact q7u fu m16 s out
def bq(n v:List UInt8):List UInt8:=n++[58,32]++v
def d6(n v:List UInt8):List (List UInt8):=fo (bq n v).length (bq n v) (n.length+2)
def ne(n v:List UInt8):(Int×Int)×List (List UInt8):=if oh n v=0 then vv (d6 n v) else((oh n v,-1),[])
def qnx{s:List UInt8}(h:iz s=true):s.length<=60:=by
 unfold iz at h;simp only[qA,decide_eq_true_eq]at h;exact h.1.2
def qw8{n v:List UInt8}(h:oh n v=0):iz n=true/\v.length<=4000/\zf v=true:=by
 unfold oh at h;split at h
 ·rename_i h1;split at h
  ·exact absurd h (by decide)
  ·rename_i h2;split at h
   ·rename_i h3;exact⟨h1,by omega,h3⟩
   ·exact absurd h (by decide)
 ·exact absurd h (by decide)
def qxe(fu:Nat)(n v:List UInt8)(hfu:10000<=fu:=by omega)(hv:v.length<fu:=by omega)(hvb:v.length<1000000000:=by omega):qa3 fu n v=some (ne n v):=by
 unfold qa3 ne;rw[zl3 fu n,qB]
 by_cases h0:oh n v=0
 ·obtain⟨h1,h2,h3⟩:=qw8 h0;have hn:=qnx h1;rw[qX h0,h1,de,au,q73 fu v (by omega) hv hvb,qB,h3,de,ag (by simp[bc];omega),ag (by simp[bc];omega)]
  have:=zl6 fu fu (0,0) (bq n v).length (bq n v) (n.length+2) (n.length+2) [] (wF _) (by simp[bq]<;>omega) (by omega) (by intro;simp[bq]<;>omega) (by simp[bq]<;>omega) (by simp[bq]<;>omega)
  rw[show af ((n.length:Int)+2)=((n.length+2:Nat):Int) by rw[cm];omega]
  exact this
 ·rw[qW h0];unfold oh at h0 ⊢;cases hn:iz n
  ·rfl
  ·rw[hn]at h0;simp only[if_true]at h0 ⊢;rw[de,cd];by_cases hl:4000<v.length
   ·rw[qX,qX hl];rfl
   ·rw[qW hl]at h0;rw[qW (by omega),qW hl,q73 fu v (by omega) hv hvb,qB]
    cases hv3:zf v
    ·rfl
    ·rw[hv3]at h0;exact absurd rfl h0
def pts(s:List UInt8)(i m:Nat):List Nat:=(List.range' i m).filter (jv s)
def qyy(s:List UInt8)(i m:Nat):pts s i (m+1)=(if jv s i then[i] else[])++pts s (i+1) m:=by
 unfold pts;rw[List.range'_succ,List.filter_cons];split<;>rfl
def zp7(s:List UInt8)(i m k:Nat):pts s i (m+k)=pts s i m++pts s (i+m) k:=by
 unfold pts;rw[← List.filter_append];congr 1;rw[List.range'_append_1]
def zp9(s:List UInt8)(i m:Nat):(pts s i m).length<=m:=by
 unfold pts;have:=List.length_filter_le (jv s) (List.range' i m);simpa using this
def gq(at_ b p:Nat):Nat:=if at_<p/\(p-at_<=78\/b=0) then p-at_ else b
def zm8(s:List UInt8)(a i:Nat)(h:a<i):jv (s.drop a) (i-a)=jv s i:=by
 unfold jv;simp only[List.getD_eq_getElem?_getD,List.getElem?_drop];rw[show a+(i-a)=i by omega,show a+(i-a-1)=i-1 by omega]
def qy7(s:List UInt8)(a:Nat):∀m i b,a<i->(pts s i m).foldl (gq a) b=cb (s.drop a) m (i-a) b
 |0,_,_,_=>rfl|m+1,i,b,h=>by
  rw[qyy,List.foldl_append,cb,zm8 s a i h,show i-a+1=i+1-a by omega,← qy7 s a m (i+1) _ (by omega)]
  congr 1;cases jv s i
  ·rfl
  ·simp only[if_true,List.foldl_cons,List.foldl_nil,gq,Bool.true_and];by_cases q1:0<b
   ·by_cases q2:78<i-a
    ·rw[qW (by omega),qW (by simp[q1,q2])]
    ·rw[qX,qX]
   ·rw[qX,qX]
def zbo(s:List UInt8)(a:Nat):∀m i b,i+m<=a+1->(pts s i m).foldl (gq a) b=b
 |0,_,_,_=>rfl|m+1,i,b,h=>by
  rw[qyy,List.foldl_append];have e:(if jv s i=true then[i] else[]).foldl (gq a) b=b:=by
   split
   ·simp only[List.foldl_cons,List.foldl_nil,gq];rw[qW (by omega)]
   ·rfl
  rw[e];exact zbo s a m (i+1) b (by omega)
def zrt(s:List UInt8)(a k0:Nat)(h1:1<=k0)(h:a=0\/k0<=a)(ha:a<s.length)(hk:k0<=s.length):(pts s k0 (s.length-k0)).foldl (gq a) 0=fq (s.drop a) (if a=0 then k0 else 1):=by
 unfold fq;by_cases h0:a=0
 ·subst h0;rw[qX rfl,qy7 s 0 _ k0 0 (by omega)]
  simp
 ·rw[qW h0,show s.length-k0=(a+1-k0)+(s.length-a-1) by omega,zp7,List.foldl_append,zbo s a (a+1-k0) k0 0 (by omega),show k0+(a+1-k0)=a+1 by omega,qy7 s a _ _ _ (by omega),List.length_drop]
  rw[show a+1-a=1 by omega]
def zx(a b:Nat):Int:=if b=0 then -1 else((a+b:Nat):Int)
def zmy(fu:Nat)(r2:List UInt8->Int->List Int->List (List UInt8)->Option (List (List UInt8)))(n:Nat):∀(s:List UInt8)(a b:Nat)(ab:List Int)(aa:List Nat)(out:List (List UInt8)),aa.length<n->ab.length+aa.length<1000000000->(∀p∈aa,p<s.length)->a<=s.length->s.length<1000000000->a+b<=s.length->out.length<1000000000 ->
  xf fu r2 n s (a:Int) (zx a b) (ab.length:Int) (ab++aa.map Nat.cast) out=(if aa.foldl (gq a) b=0 then some (out++[s.drop a]) else r2 s ((a+aa.foldl (gq a) b:Nat):Int) (ab++aa.map Nat.cast) (out++[(s.drop a).take (aa.foldl (gq a) b)])):=by
 induction n with
 |zero=>intro s a b ab aa out h;omega|succ n ih=>
  intro s a b ab aa out h hb hp ha hs hab ho;rw[xf,qqp]
  cases aa with
  |nil=>
   rw[au,List.foldl_nil,cd]
   unfold zx;by_cases h0:b=0
   ·rw[qX h0,qX,qX h0,ag,ag (by simp[ax];omega)]
    simp
   ·rw[qW h0,qW (by omega),qW h0,ag,ag (by simp[ax];omega)]
    rw[show((a+b:Nat):Int).toNat-(a:Int).toNat=b by omega]
    simp
  |cons p aa=>
   simp only[qL]at h hb;have hp0:=hp p qH;rw[List.map_cons];have hl:((ab++(p:Int)::aa.map Nat.cast).length:Int)=((ab.length+aa.length+1:Nat):Int):=by simp;omega
   rw[hl,ag]
   have hlt:(0<=(ab.length:Int)/\(ab.length:Int).toNat<(ab++(p:Int)::aa.map Nat.cast).length):=by simp
   rw[ag hlt,nh,qB,List.foldl_cons];have fin:∀b',a+b'<=s.length->xf fu r2 n s (a:Int) (zx a b') (af ((ab.length:Int)+1)) (ab++(p:Int)::aa.map Nat.cast) out=(if aa.foldl (gq a) b'=0 then some (out++[s.drop a]) else r2 s ((a+aa.foldl (gq a) b':Nat):Int) (ab++(p:Int)::aa.map Nat.cast) (out++[(s.drop a).take (aa.foldl (gq a) b')])):=by
    intro b' hb';have:=ih s a b' (ab++[(p:Int)]) aa out (by omega) (by simp;omega) (fun q hq=>hp q (qE _ hq)) ha hs hb' ho
    rw[ay _]
    simpa using this
   unfold qd6 qjw;rw[cd];by_cases q1:a<p
   ·have e1:af ((p:Int)-(a:Int))=((p-a:Nat):Int):=by rw[cm];omega
    have e2:(p:Int)=zx a (p-a):=by unfold zx;rw[qW (by omega)];omega
    rw[qX,e1,cd]
    by_cases q2:p-a<=78
    ·rw[qX,a8,show gq a b p=p-a by unfold gq;rw[qX ⟨q1,.inl q2⟩],← fin (p-a) (by omega),← e2]
    ·rw[qW (by omega)]
     by_cases q3:b=0
     ·rw[a8 (by unfold zx;rw[qX q3];rfl),show gq a b p=p-a by unfold gq;rw[qX ⟨q1,.inr q3⟩],← fin (p-a) (by omega),← e2]
     ·rw[a7 (by unfold zx;rw[qW q3];exact decide_eq_false (by omega)),show gq a b p=b by unfold gq;rw[qW (by omega)],fin b hab]
   ·rw[qW (by omega),a7 (by rfl),show gq a b p=b by unfold gq;rw[qW (by omega)],fin b hab]
def q93(fu n:Nat)(s:List UInt8)(k0:Nat)(hk1:1<=k0)(hk:k0<=s.length)(hs:s.length<500000000)(hfu:s.length<fu):∀(m a:Nat)(out:List (List UInt8)),s.length-a<=m->s.length-a<n->(a=0\/k0<=a)->a<s.length->out.length+(s.length-a)<500000000 ->
  sc fu n s (a:Int) ((pts s k0 (s.length-k0)).map Nat.cast) out=some (out++fo m (s.drop a) (if a=0 then k0 else 1)):=by
 induction n with
 |zero=>intro m a out _ h;omega|succ n ih=>
  intro m a out hm h hz ha ho;rw[sc,qjt,show af ((s.length:Int)-(a:Int))=((s.length-a:Nat):Int) by rw[cm];omega,cd]
  have ac:(s.drop a).length=s.length-a:=List.length_drop;by_cases hl:78<s.length-a
  ·obtain⟨m,rfl⟩:∃j,m=j+1:=⟨m-1,by omega⟩
   have hpl:=zp9 s k0 (s.length-k0);have hin:=zmy fu (sc fu n) fu s a 0 [] (pts s k0 (s.length-k0)) out (by omega) (by simp;omega) (fun p hp=>by
    unfold pts at hp;rw[List.mem_filter,List.mem_range'_1]at hp;omega) (by omega) (by omega) (by omega) (by omega)
   rw[zrt s a k0 hk1 hz ha hk]at hin;simp only[List.nil_append,qZ]at hin;rw[qX,fo,ac,qX hl]
   have hin:xf fu (sc fu n) fu s (a:Int) (-1) 0 ((pts s k0 (s.length-k0)).map Nat.cast) out=_:=hin;rw[hin];by_cases h0:fq (s.drop a) (if a=0 then k0 else 1)=0
   ·rw[qX h0,qX h0]
   ·obtain⟨h1,h2,_⟩:=qwa (s.drop a) (if a=0 then k0 else 1) (by split<;>omega) h0
    rw[qW h0,qW h0];generalize hB:fq (s.drop a) (if a=0 then k0 else 1)=B at *
    have:=ih m (a+B) (out++[(s.drop a).take B]) (by omega) (by omega) (.inr (by
     split at h1
     ·omega
     ·rcases hz with hz|hz<;>omega)) (by omega) (by rw[qM,wD];split at h1<;>omega)
    rw[qW (by split at h1<;>omega)]at this
    rw[this];simp[List.drop_drop]
  ·rw[qW (by omega),ag,ag (by simp[ax];omega)]
   have e:fo m (s.drop a) (if a=0 then k0 else 1)=[s.drop a]:=by cases m with|zero=>rfl|succ m=>rw[fo,ac,qW hl]
   rw[e];simp
def zp8(fu n:Nat):∀(s:List UInt8)(m i:Nat)(acc:List Int),i+m=s.length->1<=i->m<n->s.length<1000000000->acc.length+m<1000000000 ->
  qar fu n s (i:Int) acc=sc fu fu s 0 (acc++(pts s i m).map Nat.cast) []:=by
 induction n with
 |zero=>intro s m i acc _ _ h;omega|succ n ih=>
  intro s m i acc hi h1 hm hb ha;rw[qar,qjs]
  cases m with
  |zero=>rw[au];simp[pts]|succ m=>
   have hlt:i<s.length:=by omega
   have hlt':i-1<s.length:=by omega
   rw[ag,qcv _ _ hlt,qB,qh9,qB,qyy]
   unfold qju qjv;rw[show jv s i=(bl s[i] && !bl s[i-1]) by unfold jv;rw[qn0 _ _ hlt,qn0 _ _ hlt']]
   cases bl s[i]
   ·rw[a7 (by rfl),a7 (by rfl),ay _]
    exact ih s m (i+1) acc (by omega) (by omega) (by omega) hb (by omega)
   ·rw[a8,show af ((i:Int)-1)=((i-1:Nat):Int) by rw[cm];omega,qcv _ _ hlt',qB,qh9,qB]
    cases bl s[i-1]
    ·rw[d5,ag (by simp[ax];omega),ay _]
     have:=ih s m (i+1) (acc++[(i:Int)]) (by omega) (by omega) (by omega) hb (by simp;omega)
     simpa using this
    ·rw[de,ay _]
     exact ih s m (i+1) acc (by omega) (by omega) (by omega) hb (by omega)
def zju(n v:List UInt8):fq (bq n v) (n.length+2)=fq (bq n v) (n.length+3):=by
 unfold fq
 cases v with
 |nil=>rw[show(bq n []).length=n.length+2 by simp[bq]];simp[cb]|cons c v=>
  have hl:(bq n (c::v)).length=n.length+3+v.length:=by simp[bq];omega
  rw[hl,show n.length+3+v.length-(n.length+2)=v.length+1 by omega,show n.length+3+v.length-(n.length+3)=v.length by omega,cb]
  have:jv (bq n (c::v)) (n.length+2)=false:=by
   unfold jv;have e:(bq n (c::v)).getD (n.length+2-1) 0=32:=by
    rw[show bq n (c::v)=(n++[58])++32::c::v by simp[bq],show n.length+2-1=(n++[58]).length by simp]
    simp[List.getD_eq_getElem?_getD]
   rw[e];cases bl ((bq n (c::v)).getD (n.length+2) 0)<;>rfl
  rw[this];rfl
def zl2(n v:List UInt8):fo (bq n v).length (bq n v) (n.length+3)=d6 n v:=by
 unfold d6
 cases h:(bq n v).length with|zero=>rfl|succ m=>rw[fo,fo,zju]
def q7t(fu:Nat)(n v:List UInt8)(h:n.length+v.length+3<fu:=by omega)(hb:n.length+v.length<400000000:=by omega):qd5 fu n v=some (d6 n v):=by
 unfold qd5;have hl:(bq n v).length=n.length+2+v.length:=by simp[bq];omega
 rw[ag (by simp[bc];omega),ag (by simp[bc];omega)]
 rw[show n++([58,32]:List UInt8)++v=bq n v from rfl,show af ((n.length:Int)+3)=((n.length+3:Nat):Int) by rw[cm];omega]
 cases v with
 |nil=>
  obtain⟨k,rfl⟩:∃k,fu=k+1:=⟨fu-1,by omega⟩
  simp only[qZ]at h hl;rw[qar,qjs,au]
  -- too short for points
  by_cases hn:78<n.length+2
  ·have:=q93 (k+1) (k+1) (bq n []) (n.length+2) (by omega) (by omega) (by omega) (by omega) (bq n []).length 0 [] (by omega) (by omega) (.inl rfl) (by omega) (by simp;omega)
   rw[show(bq n []).length-(n.length+2)=0 by omega]at this
   exact this
  ·rw[sc,qjt,show af (((bq n []).length:Int)-0)=((bq n []).length:Int) by rw[cm];omega,au,ag,ag (by simp[ax])]
   unfold d6;rw[show fo (bq n []).length (bq n []) (n.length+2)=[bq n []] by
    rw[hl,show n.length+2+0=n.length+1+1 by omega,fo,qW (by omega)]]
   rfl
 |cons c v=>
  simp only[qL]at h hb hl;have:=zp8 fu fu (bq n (c::v)) v.length (n.length+3) [] (by omega) (by omega) (by omega) (by omega) (by simp;omega)
  rw[this,List.nil_append,← zl2];have:=q93 fu fu (bq n (c::v)) (n.length+3) (by omega) (by omega) (by omega) (by omega) (bq n (c::v)).length 0 [] (by omega) (by omega) (.inl rfl) (by omega) (by simp;omega)
  rw[show(bq n (c::v)).length-(n.length+3)=v.length by omega]at this
  exact this
def zqw(fu n:Nat)(m16:Int×Int):∀(ab aa:List (List UInt8)),aa.length<n->ab.length+aa.length<1000000000 ->
  qd4 fu n (ab.length:Int) m16 (ab++aa)=some (match q9 ab.length aa with|some i=>(1,(i:Int))|none=>(0,0)):=by
 induction n with
 |zero=>intro ab aa h;omega|succ n ih=>
  intro ab aa h hb;rw[qd4,qqo]
  cases aa with
  |nil=>rw[au];rfl|cons c aa=>
   simp only[qL]at h hb;rw[fg,ag,qo5,bt,qB,cd,q9]
   by_cases hc:998<c.length
   ·rw[qX,qX hc];rfl
   ·rw[qW (by omega),qW hc,ay _]
    have:=ih (ab++[c]) aa (by omega) (by simp;omega)
    simpa using this
def qxd:∀(m:Nat)(s:List UInt8)(k:Nat),s.length<=m->1<=k->(fo m s k).length<=s.length+1
 |0,s,_,_,_=>by simp[fo]|m+1,s,k,h,hk=>by
  rw[fo];split
  ·split
   ·simp
   ·rename_i h0;obtain⟨h1,h2,_⟩:=qwa s k hk h0;have:=qxd m (s.drop (fq s k)) 1 (by rw[List.length_drop];omega) (by omega)
    rw[List.length_drop]at this;rw[qL];omega
  ·simp
def zn1(ls:List (List UInt8)):(vv ls).1=(match q9 0 ls with|some i=>(1,(i:Int))|none=>(0,0)):=by
 unfold vv;split<;>simp_all
def zl4(fu:Nat)(n v:List UInt8)(hfu:10000<=fu:=by omega)(hn:n.length<fu:=by omega)(hv:v.length<fu:=by omega)(hnb:n.length<1000000000:=by omega)(hvb:v.length<1000000000:=by omega):qjr fu n v=some (ne n v).1:=by
 unfold qjr ne;rw[zqx fu n v (by omega) hn hv hnb hvb,qB,dt]
 by_cases h0:oh n v=0
 ·obtain⟨h1,h2,_⟩:=qw8 h0;have hl:=qnx h1;rw[qW (by omega),qX h0,q7t fu n v,qB,zn1]
  have:=qxd (bq n v).length (bq n v) (n.length+2) (wF _) (by omega)
  have hle:(bq n v).length=n.length+2+v.length:=by simp[bq];omega
  have:=zqw fu fu (0,0) [] (d6 n v) (by unfold d6;omega) (by unfold d6;simp;omega)
  exact this
 ·rw[qX h0,qW h0];rfl
def q8c{α:Type}(ab:List α)(c d:α)(aa:List α):am (ab++c::d::aa) ((ab.length+1:Nat):Int)=some d:=by
 have:=bt (ab++[c]) d aa;simpa using this
def jb(c:UInt8)(r:List UInt8):Bool:=c==13&&r.head? == some 10
def qxm{c:UInt8}{r:List UInt8}(h:jb c r=true):c=13/\∃r',r=10::r':=by
 unfold jb at h;simp only[qA,beq_iff_eq]at h;refine⟨h.1,?_⟩
 cases r with|nil=>simp at h|cons d r=>simp at h;exact⟨r,by rw[h.2]⟩
def eo:List UInt8->List UInt8|[]=>[]|c::r=>if jb c r then 13::10::eo r.tail else if c=13\/c=10 then 13::10::eo r else c::eo r
termination_by l=>l.length
decreasing_by all_goals (simp only[qL,List.length_tail];omega)
def zqz(ab:List UInt8)(c:UInt8)(r:List UInt8)(hb:ab.length<100000000:=by omega):qjo (ab++c::r) (ab.length:Int)=some (jb c r):=by
 unfold qjo jb;rw[ay _]
 cases r with
 |nil=>rw[au];cases c==13<;>rfl
 |cons d r=>
  rw[ag (by simp<;>omega),bt,qB]
  cases c==13
  ·rfl
  ·rw[a8,q8c,qB]
   cases h:d==10<;>simp_all
def bs(col:Nat):List UInt8->Int|[]=>0|c::r=>if jb c r then bs 0 r.tail else if c=13\/c=10 then 11 else if 998<=col then 1 else bs (col+1) r
termination_by l=>l.length
decreasing_by all_goals (simp only[qL,List.length_tail];omega)
def qmy(col:Nat):bs col []=0:=by rw[bs]
def qwb(col:Nat)(c:UInt8)(r:List UInt8):bs col (c::r)=if jb c r then bs 0 r.tail else if c=13\/c=10 then 11 else if 998<=col then 1 else bs (col+1) r:=by rw[bs]
def qg1(x:Int):Int×Int:=if x=11 then(11,-5) else if x=1 then(1,-6) else(0,0)
def q5l(fu n:Nat):∀(ab aa:List UInt8)(col:Nat),aa.length<n->ab.length+aa.length<100000000->col<=2000 ->
  xi fu n (ab++aa) (col:Int) (ab.length:Int)=some (bs col aa):=by
 induction n with
 |zero=>intro ab aa col h;omega|succ n ih=>
  intro ab aa col h hb hcol;rw[xi,qq6]
  cases aa with
  |nil=>rw[au,qmy]|cons c r=>
   simp only[qL]at h hb;have fin:∀f,f=jb c r->qay fu (xi fu n) (ab++c::r) (col:Int) (ab.length:Int) c f=some (bs col (c::r)):=by
    intro f hf;unfold qay;rw[qwb,hf];cases hc:jb c r
    ·rw[a7 (by rfl),qW (by decide)]
     unfold qq7;rw[kg,kg];by_cases h13:c=13
     ·rw[qX h13,qX (.inl h13)]
     ·rw[qW h13];by_cases h10:c=10
      ·rw[qX h10,qX (.inr h10)]
      ·rw[qW h10,qW (by simp[h13,h10]),ay _,cd]
       by_cases hq:998<=col
       ·rw[qX,qX hq]
       ·rw[qW (by omega),qW hq,ay _]
        have:=ih (ab++[c]) r (col+1) (by omega) (by simp;omega) (by omega)
        simpa using this
    ·obtain⟨rfl,r',rfl⟩:=qxm hc;simp only[qL]at h hb;rw[a8,qX rfl,ay _,ay _,show ab.length+1+1=ab.length+2 from rfl]
     have:=ih (ab++[13,10]) r' 0 (by omega) (by simp;omega) (by omega)
     simpa using this
   rw[fg,ag,bt,qB,kg]
   by_cases h13:c=13
   ·subst h13;rw[qX rfl,ay _]
    cases r with
    |nil=>rw[au];exact fin false rfl|cons d r=>
     rw[ag (by simp only[qL];omega),q8c,qB]
     exact fin _ (by unfold jb;cases h:d==10<;>simp_all)
   ·rw[qW h13];exact fin false (by unfold jb;rw[beq_false_of_ne h13];rfl)
def zjo(fu:Nat)(s:List UInt8)(h:s.length<fu:=by omega)(hb:s.length<100000000:=by omega):qkx fu s=some (qg1 (bs 0 s)):=by
 unfold qkx qax qg1;have:=q5l fu fu [] s 0 h (by simpa using hb) (by omega)
 have this:xi fu fu s 0 0=some (bs 0 s):=this;rw[this,qB,fe,fe];split
 ·rfl
 ·split<;>rfl
def zjw(n:Nat):∀(s:List UInt8)(col:Nat),s.length<=n->bs col s=0\/bs col s=1\/bs col s=11:=by
 induction n with
 |zero=>intro s col h;have:=List.length_eq_zero_iff.1 (Nat.le_zero.1 h);subst this;rw[qmy];exact .inl rfl|succ n ih=>
  intro s col h
  cases s with
  |nil=>rw[qmy];exact .inl rfl|cons c r=>
   simp only[qL]at h;rw[qwb];split
   ·exact ih _ _ (by rw[List.length_tail];omega)
   ·split
    ·exact .inr (.inr rfl)
    ·split
     ·exact .inr (.inl rfl)
     ·exact ih _ _ (by omega)
def zqv(fu n:Nat)(m16:Int×Int):∀(ab aa:List UInt8)(col b:Nat),aa.length<n->ab.length+aa.length<100000000->b+col=ab.length ->
  qea fu n (ab++aa) (b:Int) (ab.length:Int) m16=some (qg1 (bs col aa)):=by
 induction n with
 |zero=>intro ab aa col b h;omega|succ n ih=>
  intro ab aa col b h hb hcol;rw[qea,qqz]
  cases aa with
  |nil=>rw[au,qmy];rfl|cons c r=>
   simp only[qL]at h hb;rw[fg,ag,zqz ab c r,qB,qwb]
   cases hc:jb c r
   ·rw[a7 (by rfl),qW (by decide),bt,qB,qB,kg]
    unfold qjz;by_cases h13:c=13
    ·rw[qX h13,qX (.inl h13)];rfl
    ·rw[qW h13,kg];by_cases h10:c=10
     ·rw[qX h10,qX (.inr h10)];rfl
     ·rw[qW h10,qW (by simp[h13,h10]),show af ((ab.length:Int)-(b:Int))=(col:Int) by rw[cm];omega,cd]
      by_cases hq:998<=col
      ·rw[qX,qX hq];rfl
      ·rw[qW (by omega),qW hq,ay _]
       have:=ih (ab++[c]) r (col+1) b (by omega) (by simp;omega) (by simp;omega)
       simpa using this
   ·obtain⟨rfl,r',rfl⟩:=qxm hc;simp only[qL]at h hb;rw[a8,qX rfl,ay _,ay _,show ab.length+1+1=ab.length+2 from rfl]
    have:=ih (ab++[13,10]) r' 0 (ab.length+2) (by omega) (by simp;omega) (by simp)
    simpa using this
def zqu(fu:Nat)(s:List UInt8)(h:s.length<fu:=by omega)(hb:s.length<100000000:=by omega):qqy fu s=some (qg1 (bs 0 s)):=by
 have:=zqv fu fu (0,0) [] s 0 0 h (by simpa using hb) rfl
 exact this
abbrev aq:Type:=List UInt8×List UInt8
def sv(l:List aq):Prop:=l.length<=10000000/\∀x∈l,x.1.length<=10000000/\x.2.length<=10000000
def sv.tail{x:aq}{l:List aq}(h:sv (x::l)):sv l:=⟨by have:=h.1;simp only[qL]at this;omega,fun y hy=>h.2 y (qE _ hy)⟩
def ff:Nat->List aq->Int×Int|_,[]=>(0,0)|i,x::l=>if(ne x.1 x.2).1.1≠0 then((ne x.1 x.2).1.1,(i:Int)) else ff (i+1) l
def gz(l:List aq):Int×Int:=if 60<l.length then(2,-1) else ff 0 l
def zmt(fu n:Nat)(hfu:90000000<=fu)(m16:Int×Int):∀(ab aa:List aq),aa.length<n->ab.length+aa.length<100000000->sv aa ->
  qeu fu n (ab++aa) ((ab.length+aa.length:Nat):Int) (ab.length:Int) m16=some (ff ab.length aa):=by
 induction n with
 |zero=>intro ab aa h;omega|succ n ih=>
  intro ab aa h hb hs;rw[qeu,qr1]
  cases aa with
  |nil=>rw[au];rfl|cons x aa=>
   simp only[qL]at h hb ⊢;obtain⟨q1,q2⟩:=hs.2 x qH;rw[ag,bt,qB,qxe fu x.1 x.2,qB,ip,qB,dt,ff]
   split
   ·rfl
   ·rw[ay _]
    have:=ih (ab++[x]) aa (by omega) (by simp;omega) hs.tail
    simp only[qS,wM,qM,qL,qZ]at this;rw[show ab.length+(0+1)+aa.length=ab.length+(aa.length+1) by omega]at this
    exact this
def q8a(fu:Nat)(hfu:90000000<=fu)(l:List aq)(hs:sv l):qa5 fu l=some (gz l):=by
 unfold qa5 gz;rw[cd];split
 ·rw[qX];rfl
 ·rw[qW (by omega)]
  have:=zmt fu fu hfu (0,0) [] l (by have:=hs.1;omega) (by have:=hs.1;simp;omega) hs
  simp only[List.nil_append,qZ,wO]at this;exact this
def zro(fu n:Nat)(hfu:90000000<=fu)(m16:Int×Int):∀(ab aa:List aq),aa.length<n->ab.length+aa.length<100000000->sv aa ->
  qd3 fu n (ab++aa) (ab.length:Int) m16=some (ff ab.length aa):=by
 induction n with
 |zero=>intro ab aa h;omega|succ n ih=>
  intro ab aa h hb hs;rw[qd3,qqn]
  cases aa with
  |nil=>rw[au];rfl|cons x aa=>
   simp only[qL]at h hb ⊢;obtain⟨q1,q2⟩:=hs.2 x qH;rw[q8t,qL,ag,bt,qB,qB,zl4 fu x.1 x.2,qB,dt,ff]
   split
   ·rfl
   ·rw[ay _]
    have:=ih (ab++[x]) aa (by omega) (by simp;omega) hs.tail
    simpa using this
def zrn(fu:Nat)(hfu:90000000<=fu)(l:List aq)(hs:sv l):qjq fu l=some (gz l):=by
 unfold qjq gz;rw[cd];split
 ·rw[qX];rfl
 ·rw[qW (by omega)]
  have:=zro fu fu hfu (0,0) [] l (by have:=hs.1;omega) (by have:=hs.1;simp;omega) hs
  exact this
def ly(x:aq):Prop:=oh x.1 x.2=0/\q9 0 (d6 x.1 x.2)=none
def q9x{x:aq}(h:ly x):ne x.1 x.2=((0,0),d6 x.1 x.2):=by
 unfold ne vv;rw[qX h.1,h.2]
def zl7{x:aq}(h:(ne x.1 x.2).1.1=0:=by omega):ly x:=by
 unfold ne vv at h;by_cases h0:oh x.1 x.2=0
 ·refine⟨h0,?_⟩;rw[qX h0]at h;split at h
  ·exact absurd h (by simp)
  ·rename_i h1;exact h1
 ·rw[qW h0]at h;exact absurd h h0
def q67:∀(i:Nat)(l:List aq),(ff i l).1=0->∀x∈l,ly x
 |_,[],_,_,h=>by cases h
 |i,y::l,h,x,hx=>by
  rw[ff]at h;split at h
  ·rename_i h1;exact absurd h h1
  ·rename_i h1;rcases List.mem_cons.1 hx with rfl|hx
   ·exact zl7
   ·exact q67 (i+1) l h x hx
def qor:∀(i:Nat)(l:List aq),(∀x∈l,ly x)->ff i l=(0,0)
 |_,[],_=>rfl|i,y::l,h=>by
  rw[ff,q9x (h y qH),qW (by simp)]
  exact qor (i+1) l fun x hx=>h x (qE _ hx)
def qhe{l:List aq}(h:(gz l).1=0):gz l=(0,0)/\l.length<=60/\∀x∈l,ly x:=by
 unfold gz at h ⊢;split at h
 ·exact absurd h (by decide)
 ·rename_i hl;have:=q67 0 l h;rw[qW hl];exact⟨qor 0 l this,by omega,this⟩
def gl(ls:List (List UInt8)):List UInt8:=ls.flatMap fun s=>s++[13,10]
def za(l:List aq):List UInt8:=l.flatMap fun x=>gl (d6 x.1 x.2)
def hbytes(l:List aq):List UInt8:=za l++[13,10]
def q7r:∀(m:Nat)(s:List UInt8)(k:Nat),(fo m s k).flatten=s
 |0,s,_=>by simp[fo]|m+1,s,k=>by
  rw[fo];split
  ·split
   ·simp
   ·rw[List.flatten_cons,q7r m,List.take_append_drop]
  ·simp
def q8s:∀ls:List (List UInt8),(gl ls).length=ls.flatten.length+2*ls.length
 |[]=>rfl|s::ls=>by
  have:=q8s ls;unfold gl at this ⊢;rw[List.flatMap_cons,List.flatten_cons,qM,qM,this];simp only[qM,qL,qZ];omega
def qc2{x:aq}(h:ly x):x.1.length<=60/\x.2.length<=4000/\(d6 x.1 x.2).length<=5000/\(gl (d6 x.1 x.2)).length<=20000:=by
 obtain⟨h1,h2,_⟩:=qw8 h.1;have hl:=qnx h1;have hle:(bq x.1 x.2).length=x.1.length+2+x.2.length:=by simp[bq];omega
 have h3:=qxd (bq x.1 x.2).length (bq x.1 x.2) (x.1.length+2) (wF _) (by omega)
 have h4:(d6 x.1 x.2).flatten.length=(bq x.1 x.2).length:=by unfold d6;rw[q7r]
 have h5:(d6 x.1 x.2).length<=5000:=by unfold d6;omega
 exact⟨hl,h2,h5,by rw[q8s];omega⟩
def q66:∀l:List aq,(∀x∈l,ly x)->(za l).length<=20000*l.length
 |[],_=>wF _|x::l,h=>by
  have:=q66 l fun y hy=>h y (qE _ hy)
  obtain⟨_,_,_,h4⟩:=qc2 (h x qH);unfold za at this ⊢;rw[List.flatMap_cons,qM,qL];omega
def zuk(fu:Nat)(r0:List aq->Int->Int->(List aq×List UInt8)->List UInt8->Option (List UInt8))(s11:List aq)(s12 s13:Int)(m16:List aq×List UInt8)(n:Nat):∀(ab aa:List (List UInt8))(out:List UInt8),aa.length<n->ab.length+aa.length<100000000->out.length+(gl aa).length<1000000000 ->
  qbg fu r0 n s11 s12 s13 ((ab.length+aa.length:Nat):Int) (ab.length:Int) m16 (ab++aa) out=r0 s11 s12 (af (s13+1)) m16 (out++gl aa):=by
 induction n with
 |zero=>intro ab aa out h;omega|succ n ih=>
  intro ab aa out h hb ho;rw[qbg,qso]
  cases aa with
  |nil=>rw[au];simp[gl]|cons x aa=>
   have hc:gl (x::aa)=x++[13,10]++gl aa:=by simp[gl]
   rw[hc]at ho ⊢;simp only[qL,qM,qZ]at h hb ho;rw[show(x::aa).length=aa.length+1 from rfl,ag,qo5,bt,qB,ag (by simp[ax];omega),ag (by simp[ax];omega),ay _]
   have:=ih (ab++[x]) aa (out++x++[13,10]) (by omega) (by simp;omega) (by simp;omega)
   simp only[qS,wM,qM,qL,qZ]at this;rw[show ab.length+(0+1)+aa.length=ab.length+(aa.length+1) by omega]at this
   simpa using this
def zuq(fu n:Nat)(hfu:90000000<=fu)(m16:List aq×List UInt8)(hm:m16.2.length<=100000000):∀(ab aa:List aq)(out:List UInt8),aa.length<n->ab.length+aa.length<1000->(∀x∈aa,ly x)->out.length<=20000*ab.length ->
  xx fu n (ab++aa) ((ab.length+aa.length:Nat):Int) (ab.length:Int) m16 out=some (out++hbytes aa++m16.2):=by
 induction n with
 |zero=>intro ab aa out h;omega|succ n ih=>
  intro ab aa out h hb hok ho;rw[xx,qsn]
  cases aa with
  |nil=>
   rw[au,ag (by simp[ax];omega),ag (by simp[ax];omega)];simp[hbytes,za]
  |cons x aa=>
   have hx:=hok x qH;obtain⟨l1,l2,l3,l4⟩:=qc2 hx;have hc:hbytes (x::aa)=gl (d6 x.1 x.2)++hbytes aa:=by simp[hbytes,za]
   rw[hc];simp only[qL]at h hb ⊢;rw[ag,bt,qB,qxe fu x.1 x.2,qB,q9x hx]
   have:=zuk fu (xx fu n) (ab++x::aa) ((ab.length+(aa.length+1):Nat):Int) (ab.length:Int) m16 fu [] (d6 x.1 x.2) out (by omega) (by simp;omega) (by omega)
   simp only[List.nil_append,qZ,wO]at this;have this:qbg fu (xx fu n) fu (ab++x::aa) ((ab.length+(aa.length+1):Nat):Int) (ab.length:Int) ((d6 x.1 x.2).length:Int) 0 m16 (d6 x.1 x.2) out=_:=this;rw[this,ay _]
   have:=ih (ab++[x]) aa (out++gl (d6 x.1 x.2)) (by omega) (by simp;omega) (fun y hy=>hok y (qE _ hy)) (by simp;omega)
   simp only[qS,wM,qM,qL,qZ]at this;rw[show ab.length+(0+1)+aa.length=ab.length+(aa.length+1) by omega]at this
   simpa using this
def zup(fu:Nat)(hfu:90000000<=fu)(l:List aq)(b:List UInt8)(hl:l.length<=60)(hok:∀x∈l,ly x)(hb:b.length<=100000000:=by omega):qsm fu (l,b)=some (hbytes l++b):=by
 have:=zuq fu fu hfu (l,b) hb [] l [] (by omega) (by simp;omega) hok (by simp)
 simp only[List.nil_append,qZ,wO]at this;exact this
def zmq(fu:Nat)(r0:List aq->List UInt8->Int->Option (List UInt8))(s0:List aq)(s4:Int)(n:Nat):∀(ab aa:List (List UInt8))(out:List UInt8),aa.length<n->ab.length+aa.length<100000000->out.length+(gl aa).length<1000000000 ->
  qas fu r0 n s0 out s4 (ab.length:Int) (ab++aa)=r0 s0 (out++gl aa) (af (s4+1)):=by
 induction n with
 |zero=>intro ab aa out h;omega|succ n ih=>
  intro ab aa out h hb ho;rw[qas,qqs]
  cases aa with
  |nil=>rw[au];simp[gl]|cons x aa=>
   have hc:gl (x::aa)=x++[13,10]++gl aa:=by simp[gl]
   rw[hc]at ho ⊢;simp only[qL,qM,qZ]at h hb ho;rw[fg,ag,qo5,bt,qB,ag (by simp[bc];omega),ag (by simp[bc];omega),ay _]
   have:=ih (ab++[x]) aa (out++x++[13,10]) (by omega) (by simp;omega) (by simp;omega)
   simpa using this
def zmm(fu n:Nat)(hfu:90000000<=fu):∀(ab aa:List aq)(out:List UInt8),aa.length<n->ab.length+aa.length<1000->(∀x∈aa,ly x)->out.length<=20000*ab.length ->
  xg fu n (ab++aa) out (ab.length:Int)=some (out++hbytes aa):=by
 induction n with
 |zero=>intro ab aa out h;omega|succ n ih=>
  intro ab aa out h hb hok ho;rw[xg,qqr]
  cases aa with
  |nil=>
   rw[au,ag (by simp[bc];omega),ag (by simp[maxLen];omega)];simp[hbytes,za]
  |cons x aa=>
   have hx:=hok x qH;obtain⟨l1,l2,l3,l4⟩:=qc2 hx;have hc:hbytes (x::aa)=gl (d6 x.1 x.2)++hbytes aa:=by simp[hbytes,za]
   rw[hc];simp only[qL]at h hb ⊢;rw[q8t,qL,ag,bt,qB,qB,q7t fu x.1 x.2,qB]
   have:=zmq fu (xg fu n) (ab++x::aa) (ab.length:Int) fu [] (d6 x.1 x.2) out (by omega) (by simp;omega) (by omega)
   have this:qas fu (xg fu n) fu (ab++x::aa) out (ab.length:Int) 0 (d6 x.1 x.2)=_:=this;rw[this,ay _]
   have:=ih (ab++[x]) aa (out++gl (d6 x.1 x.2)) (by omega) (by simp;omega) (fun y hy=>hok y (qE _ hy)) (by simp;omega)
   simpa using this
def zml(fu:Nat)(hfu:90000000<=fu)(l:List aq)(hl:l.length<=60)(hok:∀x∈l,ly x):qqq fu l=some (hbytes l):=by
 have:=zmm fu fu hfu [] l [] (by omega) (by simp;omega) hok (by simp)
 exact this
def zmn{l:List aq}(hl:l.length<=60)(hok:∀x∈l,ly x):(hbytes l).length<=2000000:=by
 have:=q66 l hok;unfold hbytes;rw[qM];simp only[qL,qZ];omega
def ft(m:List aq×List UInt8):Int×Int:=if(gz m.1).1≠0 then gz m.1 else if 12000<(hbytes m.1).length+m.2.length then(1,-4) else qg1 (bs 0 m.2)
def ml(m:List aq×List UInt8):Prop:=sv m.1/\m.2.length<=80000000
def zt9(fu:Nat)(hfu:90000000<=fu)(m:List aq×List UInt8)(hs:ml m):qkw fu m=some (ft m):=by
 obtain⟨l,b⟩:=m;obtain⟨h1,h2⟩:=hs;simp only at h1 h2;unfold qkw ft;rw[q8a fu hfu l h1,qB,ip,qB,dt];simp only;split
 ·rfl
 ·rename_i h0;obtain⟨_,k1,k2⟩:=qhe (l:=l) (by omega)
  rw[zup fu hfu l b k1 k2,qB,cd,qM]
  split
  ·rw[qX];rfl
  ·rw[qW (by omega),zjo fu b];rfl
def qno(fu:Nat)(hfu:90000000<=fu)(m:List aq×List UInt8)(hs:ml m):se fu m=some (ft m):=by
 obtain⟨l,b⟩:=m;obtain⟨h1,h2⟩:=hs;simp only at h1 h2;unfold se ft;rw[zrn fu hfu l h1,qB,dt];simp only;split
 ·rfl
 ·rename_i h0;obtain⟨_,k1,k2⟩:=qhe (l:=l) (by omega)
  have hl:=zmn k1 k2;rw[cd];split
  ·rw[qX];rfl
  ·rw[zml fu hfu l k1 k2,qB,cm,cd]
   split
   ·rw[qX];rfl
   ·rw[qW (by omega),zqu fu b];rfl
def qh0{m:List aq×List UInt8}(h:(ft m).1=0):ft m=(0,0)/\m.1.length<=60/\(∀x∈m.1,ly x)/\(hbytes m.1).length+m.2.length<=12000/\bs 0 m.2=0:=by
 unfold ft at h ⊢;split at h
 ·rename_i h1;exact absurd h h1
 ·rename_i h1;obtain⟨_,k1,k2⟩:=qhe (l:=m.1) (by omega)
  split at h
  ·exact absurd h (by decide)
  ·rename_i h2;have h3:bs 0 m.2=0:=by
    rcases zjw m.2.length m.2 0 (wF _) with e|e|e
    ·exact e
    ·rw[e]at h;exact absurd h (by decide)
    ·rw[e]at h;exact absurd h (by decide)
   rw[qW h1,qW h2,h3];exact⟨rfl,k1,k2,by omega,rfl⟩
def qcg(t:List UInt8):List UInt8:=if t.getLast? = some 13 then t.dropLast else t
def zkc(t:List UInt8):(qcg t).length<=t.length:=by unfold qcg;split<;>simp
def ln(r:List UInt8):List UInt8×Nat:=if(10:UInt8)∈r then(qcg (r.takeWhile (· != 10)),(r.takeWhile (· != 10)).length+1) else(r,r.length)
def zc1(k:UInt8)(t r:List UInt8)(h:∀x∈t,x≠k):(t++k::r).takeWhile (· != k)=t:=by
 induction t with
 |nil=>simp|cons c t ih=>
  rw[wK,List.takeWhile_cons,show(c != k)=true by simpa using h c qH,qX rfl,ih fun x hx=>h x (qE _ hx)]
def zlj(k:UInt8)(t r:List UInt8)(h:∀x∈t,x≠k):(t++k::r).dropWhile (· != k)=k::r:=by
 induction t with
 |nil=>simp|cons c t ih=>
  rw[wK,List.dropWhile_cons,show(c != k)=true by simpa using h c qH,qX rfl,ih fun x hx=>h x (qE _ hx)]
def qxz(t r:List UInt8)(h:∀x∈t,x≠10):ln (t++10::r)=(qcg t,t.length+1):=by
 unfold ln;rw[qX,zc1 10 t r h]
def qx0(r:List UInt8)(h:∀x∈r,x≠10):ln r=(r,r.length):=by
 unfold ln;rw[qW (fun hm=>h 10 hm rfl)]
def q8x(r:List UInt8):(ln r).2<=r.length/\(ln r).1.length<=(ln r).2:=by
 rcases ud 10 r with⟨t,q,rfl,h⟩|h
 ·rw[qxz t q h];have:=zkc t;simp only[qM,qL];omega
 ·rw[qx0 r h];exact⟨wF _,wF _⟩
def q8y(r:List UInt8)(h0:r≠[]):1<=(ln r).2:=by
 rcases ud 10 r with⟨t,q,rfl,h⟩|h
 ·rw[qxz t q h];simp
 ·rw[qx0 r h];cases r with|nil=>exact absurd rfl h0|cons c r=>simp
def qit(t:List UInt8)(hb:t.length<1000000000):up t [13]=some (qcg t):=by
 unfold up qa0 qeg qcg;rcases List.eq_nil_or_concat t with rfl|⟨u,c,rfl⟩
 ·rfl
 ·rw[List.concat_eq_append]at *;simp only[qM,qL,qZ]at hb;rw[kp,show(([13]:List UInt8).length:Int)=1 from rfl,lg _ (by omega),ag,ag,qB,qB]
  have e:List.drop ((u.length:Nat):Int).toNat (u++[c])=[c]:=pd u [c];rw[e,List.getLast?_concat,List.dropLast_concat,wu];by_cases h:c=13
  ·subst h;rw[a8,ag,qX rfl]
  ·rw[a7 (by simpa using h),qW (by simpa using h)]
def qht(r:List UInt8)(hb:r.length<1000000000):qkm r=some ((ln r).1,((ln r).2:Int)):=by
 unfold qkm;rcases ud 10 r with⟨t,q,rfl,h⟩|h
 ·rw[show sk (t++10::q) 10=some (Lib.indexByte (t++10::q) 10) from rfl,zg 10 t q h,qB,qxz t q h]
  simp only[qM,qL]at hb;rw[au,ag (by rw[fg];omega),ag (by decide),wv,qit t (by omega),qB,ay _]
 ·rw[show sk r 10=some (Lib.indexByte r 10) from rfl,zh 10 r h,qB,qx0 r h]
  rfl
def pi(s:List UInt8):Option aq:=if(58:UInt8)∈s/\iz (ch (s.takeWhile (· != 58)))=true then some (ch (s.takeWhile (· != 58)),(s.dropWhile (· != 58)).tail) else none
def q7n(t r:List UInt8)(h:∀x∈t,x≠58):pi (t++58::r)=if iz (ch t)=true then some (ch t,r) else none:=by
 unfold pi;rw[zc1 58 t r h,zlj 58 t r h];simp
def q7p(s:List UInt8)(h:∀x∈s,x≠58):pi s=none:=by
 unfold pi;rw[qW (fun hm=>h 58 hm.1 rfl)]
def zkt(t r:List UInt8)(h:∀x∈t,x≠58)(hb:t.length+r.length<100000000:=by omega):ss (t++58::r) [58]=some (t,r,true):=by
 unfold ss qev qa6;rw[a7 (by rfl)]
 unfold qa7;have hl:=fg t 58 r;by_cases he:([58]:List UInt8)=t++58::r
 ·have ht:t=[]:=by
   cases t with|nil=>rfl|cons c t=>injection he with h1 h2;exact absurd h1.symm (h c qH)
  subst ht;have hr:r=[]:=by injection he with _ h2;exact h2.symm
  subst hr;rfl
 ·rw[a7 (by simpa using he),a8,show am [(58:UInt8)] (0:Int)=some 58 from rfl,qB,show qew (t++58::r) 58=some (Lib.indexByte (t++58::r) 58) from rfl,zg 58 t r h,qB,qB]
  rw[ag,ag,show(([58]:List UInt8).length:Int)=1 from rfl,ay _,ag,wv,vg]
  rfl
def zku(s:List UInt8)(h:∀x∈s,x≠58):ss s [58]=some (s,[],false):=by
 unfold ss qev qa6;rw[a7 (by rfl)]
 unfold qa7;by_cases he:([58]:List UInt8)=s
 ·subst he;exact absurd rfl (h 58 (by simp))
 ·rw[a7 (by simpa using he),a8,show am [(58:UInt8)] (0:Int)=some 58 from rfl,qB,show qew s 58=some (Lib.indexByte s 58) from rfl,zh 58 s h,qB]
  rfl
def zl5(n:List UInt8):((ne n []).1.1=0)↔iz n=true:=by
 unfold ne oh;cases h:iz n
 ·simp
 ·have hl:=qnx h;have e:d6 n []=[bq n []]:=by
   unfold d6;have h2:(bq n []).length=n.length+2:=by simp[bq]
   rw[h2,fo,qW (by omega)]
  rw[e];unfold vv q9;have h2:(bq n []).length=n.length+2:=by simp[bq]
  rw[qW (show ¬998<(bq n []).length by omega)]
  simp[q9,zf,vh]
def zmr(fu:Nat)(hfu:10000<=fu)(n:List UInt8):qkn fu n=some (iz n):=by
 unfold qkn;rw[qxe fu n [] hfu (by simp;omega) (by simp),qB,ip,qB]
 congr 1;have:=zl5 n;cases h:iz n
 ·rw[h]at this;have:(ne n []).1.1≠0:=fun e=>by simpa using this.1 e
  simp[this]
 ·rw[this.2 h];rfl
def zja(fu:Nat)(hfu:10000<=fu)(s:List UInt8)(h:s.length<fu:=by omega)(hb:s.length<100000000:=by omega) :
  ∃x ok,qkl fu s=some (x,ok)/\pi s=if ok then some x else none:=by
 unfold qkl;rcases ud 58 s with⟨t,q,rfl,hn⟩|hn
 ·simp only[qM,qL]at h hb;rw[zkt t q hn,qB]
  simp only;rw[qis fu t (by omega) (by omega) (by omega),qB,a8,zmr fu hfu,qB,q7n t q hn]
  exact⟨_,_,rfl,rfl⟩
 ·rw[zku s hn,qB];simp only;rw[qis fu s (by omega) h (by omega),qB,a7 (by rfl),q7p s hn]
  exact⟨_,_,rfl,rfl⟩
def dw(c:UInt8):UInt8:=if c=0\/c=13 then 32 else c
def l5:List UInt8:=(List.range 256).map fun i=>dw (UInt8.ofNat i)
def zta:∀n:_root_.Fin 256,l5[(UInt8.ofNat n.val).toNat]? = some (dw (UInt8.ofNat n.val)):=by decide +kernel
def qpg(c:UInt8):l5[c.toNat]? = some (dw c):=iv (fun c=>l5[c.toNat]? = some (dw c)) zta c
def zor:qf2 [[0],[32],[13],[32]]=some (0,0,0,[[0],[32],[13],[32]]):=by rfl
def zjy(n:Nat):qlt (n+300) 0 1 0 [[0],[32],[13],[32]]=some (0,1,0,l5,[]):=by kernel_rfl
def zra(fu n:Nat):∀(ab aa:List UInt8),aa.length<n->ab.length+aa.length<1000000000->0<ab.length+aa.length ->
  qf8 fu n (ab++aa) (ab.length:Int) l5 (ab.map dw++aa)=some ((ab++aa).map dw,l5):=by
 induction n with
 |zero=>intro ab aa h;omega|succ n ih=>
  intro ab aa h hb h0;rw[qf8,qtx]
  cases aa with
  |nil=>rw[au,ag (by simpa using h0)];simp|cons c aa=>
   simp only[qL]at h hb;rw[fg,ag,bt,qB,qpg,qB,qmw]
   have next:=ih (ab++[c]) aa (by omega) (by simp;omega) (by simp;omega)
   by_cases hc:dw c≠c
   ·rw[qX hc,ag (by simp<;>omega)]
    unfold qf7;have g:=nh (ab.map dw) c aa;have s:=wo (ab.map dw) c (dw c) aa;rw[wC]at g s;have hg:(0<=(ab.length:Int)/\(ab.length:Int).toNat<(ab.map dw++c::aa).length):=by simp
    rw[qpg,qB,ag hg,g,qB,s,ay _]
    simpa using next
   ·rw[qW hc,ay _]
    have hc:dw c=c:=Decidable.not_not.1 hc;simp only[List.map_append,List.map_cons,List.map_nil,hc,qS,wM,qM,qL,qZ]at next
    simpa [hc] using next
def zq9(fu n:Nat):∀(ab aa:List UInt8),aa.length<n->ab.length+aa.length<fu->ab.length+aa.length<1000000000->(∀x∈ab,dw x=x) ->
  qf6 fu n (ab++aa) (ab.length:Int) l5=some ((ab++aa).map dw,l5):=by
 induction n with
 |zero=>intro ab aa h;omega|succ n ih=>
  intro ab aa h hf hb hp;have hpm:ab.map dw=ab:=by
   have:ab.map dw=ab.map id:=List.map_congr_left fun x hx=>hp x hx
   rw[this,List.map_id]
  rw[qf6,qtw]
  cases aa with
  |nil=>rw[au];simp[hpm]|cons c aa=>
   simp only[qL]at h hf hb;rw[fg,ag,bt,qB,qpg,qB,qmw]
   by_cases hc:dw c≠c
   ·rw[qX hc,ag (by simp[maxLen];omega)]
    unfold qf7;have hg:(0<=(ab.length:Int)/\(ab.length:Int).toNat<(ab++c::aa).length):=by simp
    rw[qpg,qB,ag hg,nh,qB,wo,ay _]
    have:=zra fu fu (ab++[c]) aa (by omega) (by simp;omega) (by simp;omega)
    simpa [hpm] using this
   ·rw[qW hc,ay _]
    have hc:dw c=c:=Decidable.not_not.1 hc;have:=ih (ab++[c]) aa (by omega) (by simp;omega) (by simp;omega) (fun x hx=>by
     rcases List.mem_append.1 hx with hx|hx
     ·exact hp x hx
     ·rw[List.mem_singleton.1 hx,hc])
    simpa using this
def za3(fu:Nat)(s:List UInt8)(h:s.length<fu)(hb:s.length<1000000000):qf5 fu s l5=some (s.map dw,l5):=by
 have:=zq9 fu fu [] s h (by simpa using h) (by simpa using hb) (fun x hx=>by cases hx)
 exact this
def zl0(fu:Nat)(hfu:300<=fu)(s:List UInt8)(h:s.length<fu)(hb:s.length<1000000000):yf fu s 0 0 0 [[0],[32],[13],[32]]=some (s.map dw,1,0,0,l5):=by
 obtain⟨n,rfl⟩:∃n,fu=n+300:=⟨fu-300,by omega⟩
 unfold yf;rw[a8,zjy,qB,a8,za3 _ s h hb];rfl
def znp(fu:Nat)(s:List UInt8)(h:s.length<fu)(hb:s.length<1000000000):yg fu s 1 0 0 l5=some (s.map dw,1,0,0,l5):=by
 unfold yg;rw[a8,za3 _ s h hb];rfl
def oe(v:List UInt8):List UInt8:=ji (v.map dw)
def qwf(x:aq):aq:=(x.1,oe x.2)
def q6g(v:List UInt8):(oe v).length<=v.length:=by unfold oe;have:=ztt (v.map dw);simpa using this
def qag:Nat->List aq->Option Nat|_,[]=>none|i,x::l=>if 4000<(oe x.2).length then some i else qag (i+1) l
def tp(a:Nat)(ab aa:List aq):Int×(Int×Int)×List aq:=match qag ab.length aa with|some i=>(0,(1,(i:Int)),[])|none=>((a:Int),(0,0),ab++aa.map qwf)
def qu(a:Nat)(out:List aq):Int×(Int×Int)×List aq:=if 60<out.length then(0,(2,-2),[]) else tp a [] out
def tf(out:List aq)(s:List UInt8):List aq:=match out.getLast? with|some x=>out.dropLast++[(x.1,x.2++s)]|none=>out
def q4x(out:List aq)(x:aq)(s:List UInt8):tf (out++[x]) s=out++[(x.1,x.2++s)]:=by
 unfold tf;rw[List.getLast?_concat,List.dropLast_concat]
def hd:Nat->List UInt8->Nat->List aq->Nat×List aq
 |0,_,a,out=>(a,out)|n+1,r,a,out=>
  if r=[] then(a,out) else
  if(ln r).1=[] then(a+(ln r).2,out) else
  if bl ((ln r).1.headD 0)=true/\out≠[] then hd n (r.drop (ln r).2) (a+(ln r).2) (tf out (ln r).1) else
  match pi (ln r).1 with|none=>(a,out)|some x=>hd n (r.drop (ln r).2) (a+(ln r).2) (out++[x])
def fw(b:List UInt8):Int×(Int×Int)×List aq:=if 12000<b.length then(0,(1,-1),[]) else qu (hd b.length b 0 []).1 (hd b.length b 0 []).2
def mj(a:Nat)(l:List aq):Prop:=l.length<=a/\∀x∈l,x.1.length<=a/\x.2.length<=a
def zo8(fu n:Nat)(hfu:300<=fu)(s6:Nat)(m16:Int×Int):∀(ab aa:List aq),aa.length<n->ab.length+aa.length<100000000->(∀x∈aa,x.2.length<fu/\x.2.length<100000000) ->
  qet fu n (s6:Int) ((ab.length+aa.length:Nat):Int) (ab.length:Int) m16 (ab++aa) 1 0 0 l5=some (tp s6 ab aa):=by
 induction n with
 |zero=>intro ab aa h;omega|succ n ih=>
  intro ab aa h hb hs;rw[qet,qr0]
  cases aa with
  |nil=>rw[au];simp[ci,tp,qag]|cons x aa=>
   simp only[qL]at h hb;obtain⟨q1,q2⟩:=hs x qH;have hg:(0<=(ab.length:Int)/\(ab.length:Int).toNat<(ab++x::aa).length):=by simp
   rw[show(x::aa).length=aa.length+1 from rfl,ag,ag hg,nh,qB,znp fu x.2 q1 (by omega),qB]
   simp only;rw[zb4 fu (x.2.map dw) (by omega) (by simpa using q1) (by simp;omega),qB,cd,tp,qag]
   by_cases hc:4000<(oe x.2).length
   ·have hc':(4000:Int)<((ji (x.2.map dw)).length:Int):=by unfold oe at hc;omega
    rw[qX hc',qX hc];rfl
   ·have hc':¬(4000:Int)<((ji (x.2.map dw)).length:Int):=by unfold oe at hc;omega
    rw[qW hc',qW hc,ag hg,qB,wo,ay _]
    have:=ih (ab++[qwf x]) aa (by omega) (by simp;omega) (fun y hy=>hs y (qE _ hy))
    simp only[qS,wM,qM,qL,qZ]at this;rw[show ab.length+(0+1)+aa.length=ab.length+(aa.length+1) by omega]at this
    refine Eq.trans this ?_;simp[tp]
def qyl(fu:Nat)(hfu:300<=fu)(s6:Nat)(m16:Int×Int)(out:List aq)(hs:∀x∈out,x.2.length<fu/\x.2.length<100000000):qa4 fu (s6:Int) m16 out=some (qu s6 out):=by
 unfold qa4 qu;rw[cd];split
 ·rw[qX];rfl
 ·rename_i hl;rw[qW (by omega),zor,qB]
  simp only;obtain⟨n,hn⟩:∃n,fu=n+1:=⟨fu-1,by omega⟩
  have e:ur fu fu (s6:Int) (out.length:Int) m16 0 0 0 [[0],[32],[13],[32]] out=qes fu (ur fu n) (s6:Int) (out.length:Int) m16 0 0 0 [[0],[32],[13],[32]] out:=by
   have:∀k,k=n+1->ur fu k (s6:Int) (out.length:Int) m16 0 0 0 [[0],[32],[13],[32]] out=qes fu (ur fu n) (s6:Int) (out.length:Int) m16 0 0 0 [[0],[32],[13],[32]] out:=by
    rintro k rfl;rw[ur]
   exact this fu hn
  rw[e,qes]
  cases out with
  |nil=>rw[au];rfl|cons x aa=>
   obtain⟨q1,q2⟩:=hs x qH;simp only[qL]at hl;have hg:(0<=(0:Int)/\(0:Int).toNat<(x::aa).length):=by simp
   rw[ag (by simp only[qL];omega),ag hg,show(x::aa)[(0:Int).toNat]? = some x from rfl,qB,zl0 fu hfu x.2 q1 (by omega),qB]
   simp only;rw[zb4 fu (x.2.map dw) (by omega) (by simpa using q1) (by simp;omega),qB,cd,tp,qZ,qag]
   by_cases hc:4000<(oe x.2).length
   ·have hc':(4000:Int)<((ji (x.2.map dw)).length:Int):=by unfold oe at hc;omega
    rw[qX hc',qX hc];rfl
   ·have hc':¬(4000:Int)<((ji (x.2.map dw)).length:Int):=by unfold oe at hc;omega
    rw[qW hc',qW hc,ag hg,qB];have:=zo8 fu fu hfu s6 m16 [qwf x] aa (by omega) (by simp only[qL,qZ];omega) (fun y hy=>hs y (qE _ hy))
    simp only[qL,qZ,wM]at this;rw[show 0+1+aa.length=aa.length+1 by omega]at this
    exact this
def zif(out:List aq)(x:aq)(_s:List UInt8)(h:out.length<1000000000:=by omega) :
  (af (((out++[x]).length:Int)-1)).toNat=out.length:=by
 rw[kp,lg _ h];omega
def mj.mono{a b:Nat}{l:List aq}(h:mj a l)(hab:a<=b):mj b l:=⟨Nat.le_trans h.1 hab,fun x hx=>⟨Nat.le_trans (h.2 x hx).1 hab,Nat.le_trans (h.2 x hx).2 hab⟩⟩
def mj.app{a k:Nat}{l:List aq}(h:mj a l)(hne:l≠[])(s:List UInt8)(hs:s.length<=k):mj (a+k) (tf l s):=by
 rcases List.eq_nil_or_concat l with rfl|⟨t,x,rfl⟩
 ·exact absurd rfl hne
 ·rw[List.concat_eq_append]at *;rw[q4x];refine⟨by have:=h.1;simp only[qM,qL,qZ]at this ⊢;omega,fun y hy => ?_⟩
  rcases List.mem_append.1 hy with hy|hy
  ·have:=h.2 y (List.mem_append_left _ hy);omega
  ·have:=h.2 x (by simp)
   rw[List.mem_singleton.1 hy];simp only[qM];omega
def q7o{s:List UInt8}{x:aq}(h:pi s=some x):x.1.length<=s.length/\x.2.length<=s.length/\iz x.1=true:=by
 rcases ud 58 s with⟨t,q,rfl,hn⟩|hn
 ·rw[q7n t q hn]at h;split at h
  ·rename_i hf;cases h
   have:=wm t;simp only[qM,qL];exact⟨by omega,by omega,hf⟩
  ·cases h
 ·rw[q7p s hn]at h;cases h
def mj.snoc{a k:Nat}{l:List aq}(h:mj a l){x:aq}(hk:1<=k)(h1:x.1.length<=k)(h2:x.2.length<=k):mj (a+k) (l++[x]):=by
 refine⟨by have:=h.1;simp only[qM,qL,qZ];omega,fun y hy => ?_⟩
 rcases List.mem_append.1 hy with hy|hy
 ·have:=h.2 y hy;omega
 ·rw[List.mem_singleton.1 hy];omega
def zq3(fu n:Nat)(hfu:90000000<=fu)(m16:Int×Int)(s0:List UInt8)(hs:s0.length<=12000):∀(m a:Nat)(out:List aq),(s0.drop a).length<=m->(s0.drop a).length<n->a<=s0.length->mj a out ->
  xp fu n s0 (a:Int) m16 out=some (qu (hd m (s0.drop a) a out).1 (hd m (s0.drop a) a out).2):=by
 induction n with
 |zero=>intro m a out _ h;omega|succ n ih=>
  intro m a out hm h ha hA;have small:∀(b:Nat)(l:List aq),b<=30000->mj b l->∀x∈l,x.2.length<fu/\x.2.length<100000000:=fun b l hb hl x hx=>by have:=(hl.2 x hx).2;omega
  rw[xp,qrz];by_cases h0:s0.drop a=[]
  ·have hl:(s0.drop a).length=0:=by rw[h0];rfl
   rw[List.length_drop]at hl;rw[au,qyl fu (by omega) a m16 out (small a out (by omega) hA),h0]
   cases m with|zero=>rfl|succ m=>rw[hd,qX rfl]
  ·have hl:1<=(s0.drop a).length:=by
    cases hq:s0.drop a with|nil=>exact absurd hq h0|cons _ _=>simp
   obtain⟨m,rfl⟩:∃j,m=j+1:=⟨m-1,by omega⟩
   have ac:(s0.drop a).length=s0.length-a:=List.length_drop;have k0:=q8y (s0.drop a) h0;obtain⟨k1,k2⟩:=q8x (s0.drop a);have ea:(s0.drop a).drop (ln (s0.drop a)).2=s0.drop (a+(ln (s0.drop a)).2):=by rw[List.drop_drop]
   rw[ag,ag,show((a:Nat):Int).toNat=a by omega,qht (s0.drop a) (by omega),qB,hd,qW h0,ea]
   simp only;generalize hln:ln (s0.drop a)=p at *;obtain⟨t,k⟩:=p;simp only at k0 k1 k2 ea ⊢;have ek:af ((a:Int)+(k:Int))=((a+k:Nat):Int):=by rw[cm];omega
   by_cases ht:t=[]
   ·rw[qX ht,ht,a8,ek]
    exact qyl fu (by omega) (a+k) m16 out (small a out (by omega) hA)
   ·rw[qW ht,a7 (by simpa using ht)]
    have hidx:am t (0:Int)=some (t.headD 0):=by
     cases t with|nil=>exact absurd rfl ht|cons c t=>rfl
    rw[hidx,qB,qg0,qB];have begin:(match pi t with|none=>some (qu a out)|some x=>some (qu (hd m (s0.drop (a+k)) (a+k) (out++[x])).1 (hd m (s0.drop (a+k)) (a+k) (out++[x])).2))=qkk fu (xp fu n) s0 (a:Int) t (k:Int) m16 out:=by
     unfold qkk;obtain⟨x,ok,e1,e2⟩:=zja fu (by omega) t
     rw[e1,qB,e2];cases ok
     ·rw[d5];exact(qyl fu (by omega) a m16 out (small a out (by omega) hA)).symm
     ·have hx:pi t=some x:=e2;obtain⟨x1,x2,_⟩:=q7o hx;have ho:=hA.1;rw[de,ag (by simp[ax];omega),ek]
      have:=ih m (a+k) (out++[x]) (by rw[List.length_drop];omega) (by rw[List.length_drop];omega) (by omega) (hA.snoc k0 (by omega) (by omega))
      exact this.symm
    have more:out≠[]->xq fu (xp fu n) s0 (a:Int) t (k:Int) true m16 out=some (qu (hd m (s0.drop (a+k)) (a+k) (tf out t)).1 (hd m (s0.drop (a+k)) (a+k) (tf out t)).2):=by
     intro hne;have hA2:=hA.app hne t k2;unfold xq;have ho:=hA.1;rcases List.eq_nil_or_concat out with rfl|⟨u,x,rfl⟩
     ·exact absurd rfl hne
     ·rw[List.concat_eq_append]at *;simp only[qM,qL,qZ]at ho;have hx:=(hA.2 x (by simp)).2
      have hw:=zif u x t
      have hw2:af (((u++[x]).length:Int)-1)=(u.length:Int):=by rw[kp,lg _ (by omega)]
      have hg:(0<=af (((u++[x]).length:Int)-1)/\(af (((u++[x]).length:Int)-1)).toNat<(u++[x]).length):=by rw[hw2];simp
      rw[a8,ag hg,hw,show(u++[x])[u.length]? = some x by simp,qB,ag (by simp only[bc];omega),ag (by rw[hw]at hg;exact hg),qB,ek]
      rw[show List.set (u++[x]) u.length (x.1,x.2++t)=tf (u++[x]) t by rw[q4x];simp]
      exact ih m (a+k) (tf (u++[x]) t) (by rw[List.length_drop];omega) (by rw[List.length_drop];omega) (by omega) hA2
    cases hb:bl (t.headD 0)
    ·rw[a7 (by rfl),qW (by simp)]
     unfold xq;rw[a7 (by rfl),← begin]
     cases pi t<;>rfl
    ·rw[a8]
     by_cases hne:out=[]
     ·subst hne;rw[qW (by simp)]
      unfold xq;rw[au,← begin]
      cases pi t<;>rfl
     ·rw[qX ⟨rfl,hne⟩,show(decide ((0:Int)<(out.length:Int)))=true by
       cases out with
       |nil=>exact absurd rfl hne| cons _ _=>exact decide_eq_true (by simp only[qL];omega)]
      exact more hne
def zq2(fu:Nat)(hfu:90000000<=fu)(b:List UInt8):qkj fu b=some (fw b):=by
 unfold qkj fw;rw[cd];split
 ·rw[qX];rfl
 ·rw[qW (by omega)]
  have:=zq3 fu fu hfu (0,0) b (by omega) b.length 0 [] (by simp) (by simp;omega) (by omega) ⟨wF _,fun x hx=>by cases hx⟩
  simpa using this

def qn3:∀(m:Nat)(r:List UInt8)(a:Nat)(out:List aq),mj a out->a<=(hd m r a out).1/\(hd m r a out).1<=a+r.length/\mj (hd m r a out).1 (hd m r a out).2
 |0,r,a,out,h=>⟨wF _,by show a<=_;omega,h⟩|m+1,r,a,out,h=>by
  rw[hd];split
  ·exact⟨wF _,by simp only;omega,h⟩
  ·rename_i h0;have k0:=q8y r h0;obtain⟨k1,k2⟩:=q8x r;split
   ·exact⟨by simp only;omega,by simp only;omega,h.mono (by simp only;omega)⟩
   ·split
    ·rename_i hb;obtain⟨q1,q2,q3⟩:=qn3 m (r.drop (ln r).2) (a+(ln r).2) (tf out (ln r).1) (h.app hb.2 _ k2);rw[List.length_drop]at q2;exact⟨by omega,by omega,q3⟩
    ·split
     ·exact⟨wF _,by simp only;omega,h⟩
     ·rename_i x hx;obtain⟨x1,x2,_⟩:=q7o hx;obtain⟨q1,q2,q3⟩:=qn3 m (r.drop (ln r).2) (a+(ln r).2) (out++[x]) (h.snoc k0 (by omega) (by omega))
      rw[List.length_drop]at q2;exact⟨by omega,by omega,q3⟩
def zq1{b:List UInt8}(h:(fw b).2.1.1=0):b.length<=12000/\(fw b).1=((hd b.length b 0 []).1:Int)/\(hd b.length b 0 []).1<=b.length/\sv (fw b).2.2:=by
 unfold fw at h ⊢;split at h
 ·exact absurd h (by simp)
 ·rename_i hl;rw[qW hl];obtain⟨q1,q2,q3⟩:=qn3 b.length b 0 [] ⟨wF _,fun x hx=>by cases hx⟩
  unfold qu at h ⊢;split at h
  ·exact absurd h (by simp)
  ·rename_i h60;rw[qW h60];unfold tp at h ⊢;split at h
   ·exact absurd h (by simp)
   ·refine⟨by omega,rfl,by omega,?_⟩
    simp only[List.nil_append];refine⟨by rw[wC];omega,fun x hx => ?_⟩
    obtain⟨y,hy,rfl⟩:=List.mem_map.1 hx;obtain⟨y1,y2⟩:=q3.2 y hy;have:=q6g y.2;exact⟨by show y.1.length<=_;omega,by show(oe y.2).length<=_;omega⟩

def b9(l:List aq)(n:List UInt8):List (List UInt8):=(l.filter fun x=>x.1.map lo==n.map lo).map (·.2)
def w3(x:aq)(l:List aq)(n:List UInt8):b9 (x::l) n=if(x.1.map lo==n.map lo)=true then x.2::b9 l n else b9 l n:=by
 unfold b9;rw[List.filter_cons];split<;>rfl
def small(p:Pc):Prop:=p.2.1<1000000000
def zp5:∀(n:Nat)(acc:List Pc)(s:Bs)(l:List Pc),nr kw n acc s=some l->db l<=db acc+s.length/\((∀p∈acc,nb p)->∀p∈l,nb p):=by
 intro n
 induction n with
 |zero=>intro acc s l h;cases h
 |succ n ih=>
  intro acc s l h;have hl:=tz s;rw[nr]at h
  cases ht:dy s with
  |nil=>rw[ht]at h;cases h;exact⟨Nat.le_add_right _ _,fun h=>h⟩
  |cons c t=>
   rw[ht]at h hl;simp only[qL]at h hl;by_cases hc:c=59
   ·rw[qX hc]at h
    cases hx:vt t with
    |none=>rw[hx]at h;cases h
    |some x=>
     rw[hx]at h;simp only at h;have hxl:=(qxy (n:=x.1.1) (v:=x.1.2) (t:=x.2) hx).1
     cases hp:kw x.1.1 x.1.2 with
     |none=>rw[hp]at h;cases h
     |some p=>
      rw[hp]at h;simp only at h;obtain⟨g1,g2,g3,g4,_⟩:=zad hp;obtain⟨e1,e2⟩:=ih _ _ _ h;rw[zcv,g2]at e1;exact⟨by omega,fun hh=>e2 (fun y hy=>(List.mem_append.1 hy).elim (hh y) (fun e=>by rw[List.mem_singleton.1 e];exact⟨g3,g4⟩))⟩
   ·rw[qW hc]at h;cases h
def qc0(s:Bs):Option fb:=match we kw s with|none=>none|some m=>if(lz [] m.2.2 []).1=true then some (m.1,(m.2.1,(lz [] m.2.2 []).2)) else none
def q97{f:Bs->Bs->Option Pc}{s:Bs}{m:Bs×Bs×List Pc}(h:we f s=some m):∃c,nr f (s.length+1) [] c=some m.2.2/\c.length+m.1.length+m.2.1.length<=s.length:=by
 have l1:=qaa tk s;have l2:=qda 47 (dp tk s).2;have l3:=qaa tk (d7 47 (dp tk s).2).2;unfold we at h;simp only at h;split at h
 ·cases h
 ·cases hp:nr f (s.length+1) [] (dp tk (d7 47 (dp tk s).2).2).2 with
  |none=>rw[hp]at h;cases h
  |some l=>
   rw[hp]at h;cases h;exact⟨_,hp,by simp only;omega⟩
def zpj{s:Bs}{m:Bs×Bs×List Pc}(h:we kw s=some m):db m.2.2<=s.length/\∀p∈m.2.2,nb p:=by
 obtain⟨c,h1,h2⟩:=q97 h;obtain⟨g1,g2⟩:=zp5 _ _ _ _ h1;exact⟨by simp[db]at g1 ⊢;omega,g2 (by simp)⟩
def zpi(l:List Pc)(hz:db l<=300000):∀(aa ab:List Pc)(out:List cr),l=ab++aa->out.length<=ab.length->(∀x∈out,x.1.length<=4000000/\x.2.length<=4000000)->sw (lz ab aa out).2:=by
 have hll:=qin l;intro aa
 induction aa with
 |nil=>intro ab out hl ho hs;rw[hl]at hll;simp at hll;exact⟨by rw[lz];simp only;rw[hl]at hz;simp at hz;omega,hs⟩|cons p aa ih=>
  intro ab out hl ho hs;rw[lz];have hpl:=qzn (show p∈l by rw[hl];simp)
  split
  ·exact ih (ab++[p]) out (by rw[hl];simp) (by simp;omega) hs
  ·rw[← hl]
   cases hj:qhs (nk p.1 l) with
   |none=>exact⟨by simp,by simp⟩|some v=>
    refine ih (ab++[p]) _ (by rw[hl];simp) (by simp;omega) (fun x hx => ?_)
    rcases List.mem_append.1 hx with g|g
    ·exact hs x g
    ·rw[List.mem_singleton.1 g];refine⟨by simp only;omega,?_⟩
     simp only;have hzf:=zcw (fun x=>lk x.1 p.1) l
     have hN:nk p.1 l=l.filter fun x=>lk x.1 p.1:=rfl
     rw[hN]at hj;generalize l.filter (fun x=>lk x.1 p.1)=A at hj hzf
     cases A with
     |nil=>cases hj
     |cons a A=>
      rw[q8n]at hj;split at hj
      ·split at hj
       ·cases hj
        have:=qzn (qH (a:=a) (l:=A));omega
       ·cases hj
      ·cases hL:om (nt (a::A)) 0 [] with
       |none=>rw[hL]at hj;cases hj
       |some w=>
        rw[hL]at hj;cases hj;have:=zuc w.length false w;have hw:w.length<=db (nt (a::A)):=by
         have hnum:=q80 _ _ _ _ hL;rw[q81 _ _ _ hnum]at hL;cases hL
         generalize nt (a::A)=q;clear hnum
         induction q with
         |nil=>simp|cons y q ih2=>
          have:=zc4 y;simp only[List.nil_append]at ih2 ⊢;rw[List.flatMap_cons,qM,qim];omega
        have hq:db (nt (a::A))<=db (a::A):=by
         unfold nt
         cases ht:p9 (a::A) with
         |none=>simp[db]|some q=>
          have h1:=(zcg q).1.map (·.1);simp only;rw[zcx h1]
          have e:q.map (·.1)=a::A:=by
           clear h1 hL hzf hw this;generalize a::A=B at ht
           induction B generalizing q with
           |nil=>cases ht;rfl
           |cons b B ih3=>
            rw[p9]at ht;split at ht
            ·cases hB:p9 B with
             |none=>rw[hB]at ht;cases ht
             |some r=>rw[hB]at ht;cases ht;simp[ih3 r hB]
            ·cases ht
          rw[e];exact wF _
        show(vu [239,191,189] w.length false w).length<=4000000;omega
def q9a{s:Bs}{m:fb}(h:qc0 s=some m)(hs:s.length<=300000):SmD m:=by
 unfold qc0 at h
 cases hp:we kw s with
 |none=>rw[hp]at h;cases h
 |some x=>
  rw[hp]at h;simp only at h;split at h
  ·cases h
   obtain⟨c,_,h2⟩:=q97 hp;obtain⟨h3,_⟩:=zpj hp;exact⟨by simp only;omega,by simp only;omega,zpi x.2.2 (by omega) x.2.2 [] [] rfl (by simp) (by simp)⟩
  ·cases h
def wg(s:Bs):Option fb:=if 4000<s.length then none else match qc0 s with|none=>none|some m=>if(ir m).1≠0 then none else some m
def zn7(fu:Nat)(hfu:90000000<=fu)(s:Bs)(h:s.length<=4000000):∃R,qez fu s=some R/\match wg s with
  |some m=>R = .inr (m.1,(m.2.1,(0,(0,m.2.2))))|none=>∃f:Int×Int,R = .inl ([],([],f))/\f.1≠0:=by
 unfold qez wg;by_cases h4:4000<s.length
 ·rw[ag,qX h4];exact⟨_,rfl,_,rfl,by decide⟩
 rw[au,qW h4]
 obtain⟨R,g1,g2⟩:=zog fu hfu (fun l=>lz [] l []) (fun l hl hn=>zpg fu hfu l hl hn) s
 rw[g1,qB];have hfail:y9 R->∃R',(bh R (fun a3=>bif !a3.2.2 then(bn (11:Int) (-5:Int)).bind fun x5=>some (.inl (([]:Bs),(([]:Bs),x5))) else(sm fu (a3.1,(a3.2.1,[]))).bind fun x6=>(c7 x6).bind fun x7=>bif x7 then(bn x6.1 (-6:Int)).bind fun x8=>some (.inl (([]:Bs),(([]:Bs),x8))) else(ci).bind fun x9=>some (.inl (a3.1,(a3.2.1,x9)))) (fun b4=>bif !b4.2.2.1 then(bn (11:Int) (-5:Int)).bind fun x10=>some (.inl (([]:Bs),(([]:Bs),x10))) else(sm fu (b4.1,(b4.2.1,b4.2.2.2))).bind fun w8=>(c7 w8).bind fun x12=>bif x12 then(bn w8.1 (-6:Int)).bind fun x13=>some (.inl (([]:Bs),(([]:Bs),x13))) else(ci).bind fun x14=>some (.inr (b4.1,(b4.2.1,(x14.1,(x14.2,b4.2.2.2)))))):Option q32)=some R'/\∃f:Int×Int,R' = .inl ([],([],f))/\f.1≠0:=by
  intro hf
  cases R with|inl x=>unfold y9 at hf;simp only at hf;simp only[bh,hf];exact⟨_,rfl,_,rfl,by decide⟩|inr x=>unfold y9 at hf;simp only at hf;simp only[bh,hf];exact⟨_,rfl,_,rfl,by decide⟩
 unfold qc0
 cases hp:we kw s with
 |none=>rw[hp]at g2;exact hfail g2|some m=>
  rw[hp]at g2;simp only at g2 ⊢;by_cases ht:(lz [] m.2.2 []).1=true
  ·rw[qX ht]at g2;subst g2;have hsz:=q9a (s:=s) (m:=(m.1,(m.2.1,(lz [] m.2.2 []).2))) (by unfold qc0;rw[hp];simp only;rw[qX ht]) (by omega)
   simp only[bh,qX ht];rw[de,qx7 fu hfu _ hsz,qB,ip,qB,dt];by_cases h0:(ir (m.1,(m.2.1,(lz [] m.2.2 []).2))).1≠0
   ·rw[qX h0,qX h0];exact⟨_,rfl,_,rfl,h0⟩
   ·rw[qW h0,qW h0];exact⟨_,rfl,rfl⟩
  ·rw[qW ht]at g2 ⊢;exact hfail g2
def zpw{s:Bs}{m:fb}(h:wg s=some m):SmD m/\(ir m).1=0:=by
 unfold wg at h;split at h
 ·cases h
 ·rename_i h4
  cases hm:qc0 s with
  |none=>rw[hm]at h;cases h
  |some x=>
   rw[hm]at h;simp only at h;split at h
   ·cases h
   ·rename_i h0;cases h
    exact⟨q9a hm (by omega),Classical.byContradiction h0⟩
open Go.Lib (decDigits itoa validD)
def dgH(c:UInt8):UInt8:=(e7 (jj c (min (4:Int).toNat 8))).getD 0
def dgL(c:UInt8):UInt8:=(e7 c).getD 0
def zla:∀n:_root_.Fin 256,e7 (jj (UInt8.ofNat n.val) (min (4:Int).toNat 8))=some (dgH (UInt8.ofNat n.val))/\e7 (UInt8.ofNat n.val)=some (dgL (UInt8.ofNat n.val)):=by decide +kernel
def two(c:UInt8):Bs:=[dgH c,dgL c]
def ztx(c:UInt8):(two c).length=2:=rfl
def zlb(c:UInt8):e7 (jj c (min (4:Int).toNat 8))=some (dgH c)/\e7 c=some (dgL c)/\[dgH c,dgL c]=two c:=
 have h:=iv (fun c=>e7 (jj c (min (4:Int).toNat 8))=some (dgH c)/\e7 c=some (dgL c)) zla c
 ⟨h.1,h.2,rfl⟩
def nv(c:UInt8):Bs:=if tk c=true then[c] else 37::two c
def zdi(c:UInt8):1<=(nv c).length/\(nv c).length<=3:=by
 unfold nv;split
 ·simp
 ·rw[qL,ztx];omega
def jf(cur:Bs):Bs->List Bs|[]=>[cur]|c::t=>if cur.length+(nv c).length<=60 then jf (cur++nv c) t else cur::jf (nv c) t
def qot:∀(t cur:Bs),(jf cur t).length<=t.length+1/\1<=(jf cur t).length
 |[],_=>by simp[jf]|c::t,cur=>by
  rw[jf];split
  ·have:=qot t (cur++nv c);simp only[qL];omega
  ·have:=qot t (nv c);simp only[qL];omega
def qou:∀(t cur:Bs),cur.length<=60->∀x∈jf cur t,x.length<=60
 |[],cur,h,x,hx=>by rw[jf,List.mem_singleton]at hx;rw[hx];exact h|c::t,cur,h,x,hx=>by
  have hu:=zdi c;rw[jf]at hx;split at hx
  ·exact qou t _ (by rw[qM];omega) x hx
  ·rcases List.mem_cons.1 hx with e|e
   ·rw[e];exact h
   ·exact qou t _ (by omega) x e
def t8(nm:Bs):Nat->List Bs->Bs|_,[]=>[]|n,p::ps=>(((((([59,32]:Bs)++nm)++([42]:Bs))++decDigits n)++([42,61]:Bs))++p)++t8 nm (n+1) ps
def q9t(nm:Bs)(hn:nm.length<=1000):∀(ps:List Bs)(n:Nat),n+ps.length<=100000000->(∀x∈ps,x.length<=60)->(t8 nm n ps).length<=ps.length*1200
 |[],_,_,_=>by simp[t8]|p::ps,n,h,hs=>by
  simp only[qL]at h;have h1:=q9t nm hn ps (n+1) (by omega) (fun x hx=>hs x (qE _ hx))
  have h2:=hs p qH;have h3:=q6p 9 n (by omega) (by omega)
  rw[t8];simp only[qM,qL,qZ];omega
def zpr(fu n:Nat):∀(ab aa cur:Bs)(done:List Bs),aa.length<n->ab.length+aa.length<1000000->done.length<=ab.length->cur.length<=60 ->
  qbf fu n (ab++aa) ((ab.length+aa.length:Nat):Int) (ab.length:Int) (done++[cur])=some (done++jf cur aa):=by
 have hrm:=l7
 induction n with
 |zero=>intro ab aa cur done h;omega|succ n ih=>
  intro ab aa cur done h hb hd hc;rw[qbf,qsh]
  cases aa with
  |nil=>rw[au];rfl|cons c t=>
   simp only[qL]at h hb;have hu:=zdi c;have e:(ab.length+(c::t).length:Nat)=ab.length+1+t.length:=by simp only[qL];omega
   have p1:qfa fu (qbf fu n) (ab++c::t) (nv c) ((ab.length+(c::t).length:Nat):Int) (ab.length:Int) (done++[cur])=some (done++jf cur (c::t)):=by
    have hl:(((done++[cur]).length:Nat):Int)-1=(done.length:Int):=by simp
    rw[qfa,hl,cm,ag,nh,qB,qps _ _,jf,ay _,e]
    have st:=fun cur' done'(h1:done'.length<=ab.length+1)(h2:cur'.length<=60)=>ih (ab++[c]) t cur' done' (by omega) (by simp;omega) (by simpa using h1) h2
    simp only[qM,qL,qZ,qS,wM,wO]at st;by_cases h60:cur.length+(nv c).length<=60
    ·rw[ag,qX h60,ag,qB,ag (by simp only[bc];omega),ag,qB,wo]
     exact st (cur++nv c) done (by omega) (by rw[qM];omega)
    ·rw[au,qW h60,ag (by simp only[qM,qL,qZ];omega)]
     have:=st (nv c) (done++[cur]) (by simp;omega) (by omega)
     refine this.trans ?_;simp
   rw[ag (by simp only[qL];omega),ay _,ag (by rw[fg];omega),bt,qB,qiq,qB,zsg]
   rw[nv]at p1;obtain⟨d1,d2,d3⟩:=zlb c;cases hk:tk c
   ·rw[d5,qB,d1,qB,qB,d2,qB];rw[hk,qW (by simp),← d3]at p1
    exact p1
   ·rw[de];rw[hk,qX rfl]at p1;exact p1
def ua:Bs:=[117,116,102,56,39,39]
def zoh(fu:Nat)(hfu:90000000<=fu)(v:Bs)(h:v.length<=500000:=by omega):qkr fu v=some (jf ua v):=by
 have:=zpr fu fu [] v ua [] (by omega) (by simp;omega) (by simp) (by decide)
 simpa [qkr,ua] using this
def rn(c:UInt8):Bool:=decide (32<=c)&&decide (c<=126)
def zp4(c:UInt8):qe3 c=some (rn c):=by unfold qe3 rn;by_cases h:(32:UInt8)<=c<;>simp[h]
def zh7(fu:Nat)(s:Bs)(h:s.length<fu:=by omega)(hb:s.length<9223372036854775807:=by omega):qj7 fu s=some (s.all rn):=by
 have e:∀n,qef fu n=yx qe3 n:=by
  intro n;induction n with|zero=>rfl|succ n ih=>rw[qef,ih];funext a b c;rfl
 unfold qj7;rw[e];exact qvm _ _ zp4 _ _ h hb
def quo(s:Bs):Bs:=ep 92 34 [92,92] [92,34] s
def zan(s:Bs):(quo s).length<=2*s.length:=by
 unfold quo;rw[qnk (by decide)]
 have h1:=List.count_le_length (a:=(92:UInt8)) (l:=s);unfold ix;have:List.count 92 s+List.count 34 s<=s.length:=by
  induction s with
  |nil=>simp|cons c s ih=>
   have h1:=List.count_le_length (a:=(92:UInt8)) (l:=s);have:=ih h1;simp only[List.count_cons,qL];by_cases e:c=92
   ·subst e;simp;omega
   ·have:(c==92)=false:=by simpa using e
    rw[this];simp only[wJ,if_false];split<;>omega
 omega
def wh(p:cr):Bs:=if ib p.2=true then((([59,32]:Bs)++p.1)++([61]:Bs))++p.2
 else if p.2.length<=60/\p.2.all rn=true then((((([59,32]:Bs)++p.1)++([61,34]:Bs))++quo p.2)++([34]:Bs))
 else t8 p.1 0 (jf ua p.2)
def zpd(fu n:Nat)(z:cr)(hz:z.1.length<=1000):∀(ab aa:List Bs)(out:Bs),aa.length<n->ab.length+aa.length<1000000->out.length<=ab.length*1200->(∀x∈aa,x.length<=60) ->
  qe4 fu n out ((ab.length+aa.length:Nat):Int) (ab.length:Int) z (ab++aa)=some (out++t8 z.1 ab.length aa):=by
 induction n with
 |zero=>intro ab aa out h;omega|succ n ih=>
  intro ab aa out h hb ho hs;rw[qe4,qsa]
  cases aa with
  |nil=>rw[au];simp[t8]|cons p t=>
   simp only[qL]at h hb;have hp:=hs p qH;have hd:=q6p 9 ab.length (by omega) (by omega)
   rw[ag (by simp only[qL];omega),ag,nh,qB,ag (by simp[bc];omega),ag (by simp[bc];omega)]
   have hi:mh (ab.length:Int)=some (decDigits ab.length):=by unfold mh;rw[ag,qxr]
   rw[hi,qB,ag (by simp[bc];omega),ag (by simp[bc];omega),ag (by simp[bc];omega),ag (by simp[bc];omega),ay _]
   have st:=ih (ab++[p]) t (out++((((((([59,32]:Bs)++z.1)++([42]:Bs))++decDigits ab.length)++([42,61]:Bs))++p))) (by omega) (by simp;omega) (by simp only[qM,qL,qZ];omega) (fun x hx=>hs x (qE _ hx))
   simp only[qM,qL,qZ,wO]at st;rw[show(ab.length+(p::t).length:Nat)=ab.length+1+t.length by simp only[qL];omega]
   rw[show(ab++[p])++t=ab++p::t by simp]at st
   refine st.trans ?_;rw[t8,qS]
def zpf(fu:Nat)(hfu:90000000<=fu)(p:cr)(h1:p.1.length<=1000)(h2:p.2.length<=100000):qko fu p=some (wh p):=by
 unfold qko wh;rw[qpj fu _,qB]
 cases ht:ib p.2
 ·rw[a7 rfl,qW (by simp)]
  have hno:qbb fu false p=some (t8 p.1 0 (jf ua p.2)):=by
   rw[qbb,a7 rfl,qsb,zoh fu hfu _,qB]
   have hl:=qot p.2 ua;have:=zpd fu fu p h1 [] (jf ua p.2) [] (by omega) (by simp;omega) (by simp) (qou _ _ (by decide))
   simpa using this
  by_cases h60:p.2.length<=60
  ·rw[ag,zh7 fu _,qB]
   cases ha:p.2.all rn
   ·rw[hno,qW (by simp)]
   ·rw[qX ⟨h60,rfl⟩,qbb,a8 rfl,ag (by simp[bc];omega),ag (by simp[bc];omega)]
    have hq:=zan p.2;rw[show qf2 ([([92]:Bs),([92,92]:Bs),([34]:Bs),([92,34]:Bs)]:List Bs)=some (0,0,0,[[92],[92,92],[34],[92,34]]) by rfl,qB]
    have hr:uz p.2 0 0 0 [[92],[92,92],[34],[92,34]]=some (quo p.2):=by
     unfold uz quo;simp only;rw[ag (by refine⟨?_,?_,by decide,by omega⟩<;>first|rfl|trivial)]
    rw[hr,qB,ag (by simp[bc];omega),ag (by simp[bc];omega)]
  ·rw[au,hno,qW (by omega)]
 ·rw[a8 rfl,qX rfl,ag (by simp[bc];omega),ag (by simp[bc];omega),ag (by simp[bc];omega)]
def zp6(p:cr)(h1:p.1.length<=1000)(h2:p.2.length<=100000):(wh p).length<=200000000:=by
 have hq:=zan p.2;have hl:=qot p.2 ua;have hn:=q9t p.1 h1 (jf ua p.2) 0 (by omega) (qou _ _ (by decide))
 unfold wh;split
 ·simp;omega
 ·split
  ·simp;omega
  ·omega
def gm(m:fb):Bs:=((m.1++([47]:Bs))++m.2.1)++m.2.2.flatMap wh
def SmV(m:fb):Prop:=m.1.length<=1000/\m.2.1.length<=1000/\m.2.2.length<=1000/\∀p∈m.2.2,p.1.length<=1000/\p.2.length<=100000
def zc7{s:Bs}(h:ib s=true):s.length<=60:=by unfold ib at h;simp at h;exact h.1.2
def q96:∀(l ab:List cr),(pw ab l).1=0->∀p∈l,ib p.1=true/\p.1.length<=20/\p.2.length<=500/\validD p.2=true
 |[],_,_,p,hp=>by cases hp
 |q::l,ab,h,p,hp=>by
  rw[pw]at h;split at h
  ·cases h
  ·split at h
   ·cases h
   ·split at h
    ·cases h
    ·split at h
     ·cases h
     ·rename_i g1 g2 g3 g4;rcases List.mem_cons.1 hp with e|e
      ·subst e;refine⟨?_,by omega,by omega,?_⟩
       ·cases hh:ib p.1
        ·exact absurd (.inl hh) g1
        ·rfl
       ·cases hh:validD p.2
        ·exact absurd hh g4
        ·rfl
      ·exact q96 l _ h p e
def q89{m:fb}(h:(ir m).1=0):ib m.1=true/\ib m.2.1=true/\m.2.2.length<=60/\∀p∈m.2.2,ib p.1=true/\p.1.length<=20/\p.2.length<=500/\validD p.2=true:=by
 unfold ir at h;split at h
 ·cases h
 ·split at h
  ·cases h
  ·rename_i g1 g2;refine⟨?_,?_,by omega,q96 _ _ h⟩
   ·cases hh:ib m.1
    ·exact absurd (.inl hh) g1
    ·rfl
   ·cases hh:ib m.2.1
    ·exact absurd (.inr hh) g1
    ·rfl
def qhx{m:fb}(h:(ir m).1=0):SmV m:=by
 obtain⟨h1,h2,h3,h4⟩:=q89 h;have:=zc7 h1;have:=zc7 h2;exact⟨by omega,by omega,by omega,fun p hp=>by have:=h4 p hp;omega⟩
def SmV.smD{m:fb}(h:SmV m):SmD m:=⟨by have:=h.1;omega,by have:=h.2.1;omega,by have:=h.2.2.1;omega,fun x hx=>by have:=h.2.2.2 x hx;omega⟩
def zp3(fu n:Nat)(hfu:90000000<=fu)(z:Int×Int):∀(ab aa:List cr)(out:Bs),aa.length<n->ab.length+aa.length<=1000->(∀p∈aa,p.1.length<=1000/\p.2.length<=100000)->out.length<=3000+ab.length*200000000 ->
  qe0 fu n out (ab++aa) ((ab.length+aa.length:Nat):Int) (ab.length:Int) z=some (if 4000<(out++aa.flatMap wh).length then([],(1,-4)) else(out++aa.flatMap wh,(0,0))):=by
 induction n with
 |zero=>intro ab aa out h;omega|succ n ih=>
  intro ab aa out h hb hs ho;rw[qe0,qr5]
  cases aa with
  |nil=>
   rw[au]
   simp only[List.flatMap_nil,List.append_nil];by_cases h4:4000<out.length
   ·rw[ag,qX h4,oo];rfl
   ·rw[au,qW h4,zod];rfl
  |cons p t=>
   simp only[qL]at h hb;have hp:=hs p qH;have hpl:=zp6 p hp.1 hp.2;rw[ag (by simp only[qL];omega),bt,qB,zpf fu hfu p hp.1 hp.2,qB,ag (by simp only[bc];omega),ay _]
   have st:=ih (ab++[p]) t (out++wh p) (by omega) (by simp;omega) (fun x hx=>hs x (qE _ hx)) (by simp;omega)
   simp only[qM,qL,qZ,wO]at st;rw[show(ab++[p])++t=ab++p::t by simp]at st
   rw[show(ab.length+(p::t).length:Nat)=ab.length+1+t.length by simp only[qL];omega]
   refine st.trans ?_;simp only[List.flatMap_cons,qS,qM,Nat.add_assoc]
def zah(fu:Nat)(hfu:90000000<=fu)(m:fb)(hs:SmD m):qa8 fu m=some (if(ir m).1≠0 then([],ir m) else if 4000<(gm m).length then([],(1,-4)) else(gm m,(0,0))):=by
 unfold qa8;rw[qx7 fu hfu m hs,qB,ip,qB,dt];by_cases h:(ir m).1≠0
 ·rw[qX h,qX h]
 ·rw[qW h,qW h];obtain⟨g1,g2,g3,g4⟩:=qhx (m:=m) (by omega)
  rw[ag (by simp[bc];omega),ag (by simp[bc];omega)]
  have:=zp3 fu fu hfu (0,0) [] m.2.2 ((m.1++([47]:Bs))++m.2.1) (by omega) (by simp;omega) g4 (by simp;omega)
  simpa [gm] using this
end Go.Sym
namespace Go.Sym
abbrev bp:Bs:=[67,111,110,116,101,110,116,45,84,121,112,101]
abbrev mpN:Bs:=[109,117,108,116,105,112,97,114,116]
abbrev jq:Bs:=[98,111,117,110,100,97,114,121]
def ic(l:List aq):Option fb:=match b9 l bp with|[v]=>wg v|_=>none
def tyP(fu:Nat)(k:Int)(v:Bs):Option ql7:=(qez fu v).bind fun x4=>bh x4 (fun a5=>(c7 a5.2.2).bind fun x7=>some (.inl (a5.1,(a5.2.1,(k,!x7))))) (fun b6=>(c7 (b6.2.2.1,b6.2.2.2.1)).bind fun x8=>some (.inr (b6.1,(b6.2.1,(k,(!x8,b6.2.2.2.2))))))
def ztz(fu:Nat)(hfu:90000000<=fu)(k:Int)(v:Bs)(h:v.length<=4000000):tyP fu k v=some (match wg v with|some m => .inr (m.1,(m.2.1,(k,(true,m.2.2))))|none => .inl ([],([],(k,false)))):=by
 unfold tyP;obtain⟨R,h1,h2⟩:=zn7 fu hfu v h;rw[h1,qB]
 cases hp:wg v with
 |none=>
  rw[hp]at h2;obtain⟨f,rfl,hf⟩:=h2;simp only[bh,ip,qB];have:(f.1 != 0)=true:=by simpa using hf
  rw[this];rfl
 |some m=>rw[hp]at h2;simp only at h2;subst h2;rfl
section typ
variable(fu:Nat)(hfu:90000000<=fu)(l:List aq)(hs:∀x∈l,x.1.length<=4000000/\x.2.length<=4000000)(hl:l.length<=4000000)
include hfu hs hl
def zt1(k:Nat)(y:aq)(hy:am l (k:Int)=some y)(n:Nat):∀(ab aa:List aq),l=ab++aa->aa.length<n ->
  uw fu n l (k:Int) (ab++aa) ((ab.length+aa.length:Nat):Int) (ab.length:Int) [] []=if b9 aa bp=[] then tyP fu (k:Int) y.2 else some (.inl ([],([],(0,false)))):=by
 induction n with
 |zero=>intro ab aa _ h;omega|succ n ih=>
  intro ab aa hp h;have ac:l.length=ab.length+aa.length:=by rw[hp];simp
  rw[uw,qkz]
  cases aa with
  |nil=>rw[au,au,hy,qB,show b9 [] bp=[] from rfl,qX rfl];rfl|cons x t=>
   simp only[qL]at h ac;have hx:=hs x (by rw[hp];simp)
   have st:=ih (ab++[x]) t (by rw[hp];simp) (by omega)
   simp only[qM,qL,qZ,qS,wM,wO]at st;rw[ag (by simp only[qL];omega),bt,qB,l8 fu hfu _ _ hx.1 (by simp),qB,w3]
   cases hk:lk x.1 bp
   ·rw[a7 rfl,qbi,ay _,qW (show ¬((x.1.map lo==bp.map lo)=true) by show ¬lk x.1 bp=true;rw[hk];simp),show(ab.length+(x::t).length:Nat)=ab.length+1+t.length by simp only[qL];omega]
    exact st
   ·rw[a8 rfl,ag,qX (show(x.1.map lo==bp.map lo)=true from hk),qW (by simp)]
def zt0(n:Nat):∀(ab aa:List aq),l=ab++aa->aa.length<n ->
  (b9 aa bp=[]->uw fu n l (-1) (ab++aa) ((ab.length+aa.length:Nat):Int) (ab.length:Int) [] []=some (.inl ([],([],(0,false))))) /\
  (∀u x w,aa=u++x::w->b9 u bp=[]->lk x.1 bp=true->uw fu n l (-1) (ab++aa) ((ab.length+aa.length:Nat):Int) (ab.length:Int) [] []=if b9 w bp=[] then tyP fu ((ab.length+u.length:Nat):Int) x.2 else some (.inl ([],([],(0,false))))):=by
 induction n with
 |zero=>intro ab aa _ h;omega|succ n ih=>
  intro ab aa hp h;have ac:l.length=ab.length+aa.length:=by rw[hp];simp
  rw[uw,qkz]
  cases aa with
  |nil=>exact⟨fun _=>by rw[au,ag],fun u x w e=>by simp at e⟩
  |cons y t=>
   simp only[qL]at h ac;have hy:=hs y (by rw[hp];simp)
   obtain⟨s1,s2⟩:=ih (ab++[y]) t (by rw[hp];simp) (by omega)
   simp only[qM,qL,qZ,qS,wM,wO]at s1 s2;rw[ag (by simp only[qL];omega),bt,qB,l8 fu hfu _ _ hy.1 (by simp),qB,w3,show(ab.length+(y::t).length:Nat)=ab.length+1+t.length by simp only[qL];omega]
   cases hk:lk y.1 bp
   ·rw[a7 rfl,qbi,ay _,qW (show ¬((y.1.map lo==bp.map lo)=true) by show ¬lk y.1 bp=true;rw[hk];simp)]
    refine⟨s1,fun u x w e hu hx => ?_⟩
    cases u with
    |nil=>rw[List.nil_append,List.cons.injEq]at e;rw[e.1,hx]at hk;cases hk
    |cons z u=>
     rw[wK,List.cons.injEq]at e;obtain⟨rfl,e⟩:=e;rw[w3,qW (show ¬((y.1.map lo==bp.map lo)=true) by show ¬lk y.1 bp=true;rw[hk];simp)]at hu
     have:=s2 u x w e hu hx;rw[show(ab.length+(y::u).length:Nat)=ab.length+1+u.length by simp only[qL];omega]
     exact this
   ·rw[a8 rfl,au,qbi,ay _,qX (show(y.1.map lo==bp.map lo)=true from hk)]
    refine⟨fun e=>by simp at e,fun u x w e hu hx => ?_⟩
    cases u with
    |nil=>
     rw[List.nil_append,List.cons.injEq]at e;obtain⟨rfl,rfl⟩:=e;have:=zt1 fu hfu l hs hl ab.length y (by rw[hp];exact bt ab y t) n (ab++[y]) t (by rw[hp];simp) (by omega)
     simp only[qM,qL,qZ,qS,wM,wO]at this;exact this
    |cons z u=>
     rw[wK,List.cons.injEq]at e;obtain⟨rfl,e⟩:=e;rw[w3,qX (show(y.1.map lo==bp.map lo)=true from hk)]at hu
     simp at hu
def qzz:∃R,qbh fu l=some R/\match ic l with
  |some m=>∃ab x aa,l=ab++x::aa/\b9 l bp=[x.2]/\lk x.1 bp=true/\b9 ab bp=[]/\b9 aa bp=[]/\R = .inr (m.1,(m.2.1,((ab.length:Int),(true,m.2.2))))|none=>∃k,R = .inl ([],([],(k,false))):=by
 obtain⟨h1,h2⟩:=zt0 fu hfu l hs hl fu [] l rfl (by omega)
 simp only[List.nil_append,qZ,wO]at h1 h2;unfold qbh;rw[show((0:Nat):Int)=0 from rfl]at h1 h2
 have hd:b9 l bp=[]\/∃u x w,l=u++x::w/\b9 u bp=[]/\lk x.1 bp=true:=by
  clear h1 h2 hs hl
  induction l with
  |nil=>exact .inl rfl|cons y t ih=>
   rw[w3];cases hk:lk y.1 bp
   ·rw[qW (show ¬((y.1.map lo==bp.map lo)=true) by show ¬lk y.1 bp=true;rw[hk];simp)]
    rcases ih with g|⟨u,x,w,e,g1,g2⟩
    ·exact .inl g
    ·exact .inr ⟨y::u,x,w,by rw[e];rfl,by rw[w3,qW (show ¬((y.1.map lo==bp.map lo)=true) by show ¬lk y.1 bp=true;rw[hk];simp)];exact g1,g2⟩
   ·exact .inr ⟨[],y,t,rfl,rfl,hk⟩
 have vapp:∀(u w:List aq)(x:aq),lk x.1 bp=true->b9 (u++x::w) bp=b9 u bp++x.2::b9 w bp:=fun u w x hx=>by
  unfold b9;rw[List.filter_append,List.filter_cons,qX (show(x.1.map lo==bp.map lo)=true from hx),List.map_append];rfl
 rcases hd with g|⟨u,x,w,e,g1,g2⟩
 ·refine⟨_,h1 g,?_⟩;unfold ic;rw[g];exact⟨0,rfl⟩
 ·have hr:=h2 u x w e g1 g2;have hv:=vapp u w x g2;rw[← e,g1,List.nil_append]at hv;by_cases hw:b9 w bp=[]
  ·rw[qX hw,ztz fu hfu _ _ (hs x (by rw[e];simp)).2]at hr
   refine⟨_,hr,?_⟩;rw[hw]at hv;unfold ic;rw[hv];simp only
   cases hp:wg x.2 with|none=>exact⟨_,rfl⟩|some m=>exact⟨u,x,w,e,rfl,g2,g1,hw,rfl⟩
  ·rw[qW hw]at hr;refine⟨_,hr,?_⟩;unfold ic;rw[hv]
   cases hh:b9 w bp with|nil=>exact absurd hh hw|cons=>exact⟨0,rfl⟩
end typ
def qzy{l:List aq}{m:fb}(h:ic l=some m):(ir m).1=0:=by
 unfold ic at h;split at h
 ·exact(zpw h).2
 ·cases h
def bOk(b:Bs):Bool := !b.isEmpty&&(decide (b.length<=60)&&(b.all rn && !(b.getLast? == some 32)))
def bnd(l:List aq):Option Bs:=match ic l with|some m=>if lk m.1 mpN=true/\(jd m.2.2 jq).2=true/\bOk (jd m.2.2 jq).1=true then some (jd m.2.2 jq).1 else none|none=>none
def zpe(l:List cr)(nm:Bs)(M:Nat)(h:∀x∈l,x.2.length<=M):(jd l nm).1.length<=M:=by
 induction l with
 |nil=>simp[jd,par]|cons p l ih=>
  rw[q95];split
  ·exact h p qH
  ·exact ih (fun x hx=>h x (qE _ hx))
def zpn(c:UInt8):qfj c=some (rn c):=by unfold qfj rn;by_cases h:(32:UInt8)<=c<;>simp[h]
def zh8(fu:Nat)(s:Bs)(h:s.length<fu:=by omega)(hb:s.length<9223372036854775807:=by omega):qj6 fu s=some (s.all rn):=by
 have e:∀n,qee fu n=yx qfj n:=by
  intro n;induction n with|zero=>rfl|succ n ih=>rw[qee,ih];funext a b c;rfl
 unfold qj6;rw[e];exact qvm _ _ zpn _ _ h hb
def zmk(t:Bs)(hb:t.length<=4000000:=by omega):qlp t [32]=some (t.getLast? == some 32):=by
 unfold qlp xt;rw[show(([32]:List UInt8).length:Int)=1 from rfl]
 rcases List.eq_nil_or_concat t with rfl|⟨u,c,rfl⟩
 ·rfl
 ·rw[List.concat_eq_append]at *;simp only[qM,qL,qZ]at hb;rw[kp,lg _ (by omega),ag,ag,qB,List.getLast?_concat]
  have e:List.drop ((u.length:Nat):Int).toNat (u++[c])=[c]:=pd u [c];rw[e];congr 1;rw[Bool.eq_iff_iff];simp
def zjq(fu:Nat)(hfu:90000000<=fu)(l:List aq)(hs:∀x∈l,x.1.length<=4000000/\x.2.length<=4000000)(hl:l.length<=4000000):∃R,qk1 fu l=some R/\match bnd l with
  |some b=>R=(b,true)|none=>R.2=false:=by
 obtain⟨R,h1,h2⟩:=qzz fu hfu l hs hl;unfold qk1 bnd;rw[h1,qB]
 cases ht:ic l with
 |none=>
  rw[ht]at h2;obtain⟨k,rfl⟩:=h2;exact⟨_,rfl,rfl⟩
 |some m=>
  rw[ht]at h2;obtain⟨ab,x,aa,e1,e2,e3,e4,e5,rfl⟩:=h2;have h0:=qzy ht;have hv:=qhx h0;simp only[bh];rw[de,l8 fu hfu _ _ (by have:=hv.1;omega) (by simp),qB]
  cases hk:lk m.1 mpN
  ·rw[xy,d5];exact⟨_,rfl,by simp⟩
  ·have hbl:=zpe m.2.2 jq 100000 (fun x hx=>(hv.2.2.2 x hx).2)
   rw[xy,de,qsu,q9h fu hfu (m.1,(m.2.1,m.2.2)) jq (by simp) hv.smD,qB,qW (by simpa using h0)]
   simp only;generalize hb:(jd m.2.2 jq).1=b at *;generalize hi:(jd m.2.2 jq).2=i at *;unfold bOk
   cases b with
   |nil=>rw[show(!(([]:Bs)==[]))=false from rfl,a7 rfl];cases i<;>exact⟨_,rfl,by simp⟩
   |cons c b=>
    rw[show(!((c::b:Bs)==[]))=true from rfl,a8 rfl]
    by_cases h60:(c::b).length<=60
    ·rw[ag,zh8 fu _,qB]
     cases ha:(c::b).all rn
     ·rw[a7 rfl];cases i<;>exact⟨_,rfl,by simp[ha]⟩
     ·rw[a8 rfl,zmk _,qB]
      cases i
      ·exact⟨_,rfl,by simp⟩
      ·rw[a8 rfl];refine⟨_,rfl,?_⟩;cases hg:((c::b).getLast? == some 32)
       ·rw[qX ⟨by first|rfl|trivial,by first|rfl|trivial,by simp only[List.isEmpty_cons,Bool.not_false,Bool.true_and,Bool.and_true];exact decide_eq_true h60⟩];rfl
       ·rw[qW (by simp)];rfl
    ·rw[au]
     have hnot:¬(decide ((c::b).length<=60)=true):=by simpa using h60
     cases i
     ·exact⟨_,rfl,by simp⟩
     ·refine⟨_,rfl,?_⟩;rw[qW (by
       rintro⟨_,_,g⟩
       rw[qA,qA]at g;exact hnot g.2.1)]
def zjm{l:List aq}{b:Bs}(h:bnd l=some b):1<=b.length/\b.length<=60:=by
 unfold bnd at h;split at h
 ·split at h
  ·rename_i hc;cases h
   have q:=hc.2.2;unfold bOk at q;simp only[qA,Bool.not_eq_true',decide_eq_true_eq]at q;refine⟨?_,q.2.1⟩;generalize (jd _ jq).1=z at *
   cases z with|nil=>simp at q|cons=>simp
  ·cases h
 ·cases h
def q8q(t b:Bs):Int:=if t=([45,45]:Bs)++b then 1 else if t=(([45,45]:Bs)++b)++([45,45]:Bs) then 2 else 0
def pp(line b:Bs):Int:=q8q (ch line) b
def q5a{α:Type}{a b:Bs}{x y:α}:(bif a==b then x else y)=if a=b then x else y:=by
 by_cases h:a=b
 ·rw[a8 (by simpa using h),qX h]
 ·rw[a7 (by simpa using h),qW h]
def znl(fu:Nat)(hfu:90000000<=fu)(line b:Bs)(h:line.length<=4000000)(hb:b.length<=1000):qk9 fu line b=some (pp line b):=by
 unfold qk9 pp q8q;rw[qis fu line (by omega) (by omega) (by omega),qB,ag (by simp[bc];omega),q5a,ag (by simp[bc];omega),ag (by simp[bc];omega),q5a]
 split
 ·rfl
 ·split<;>rfl
def du:Bs->Bs|[]=>[]|c::t=>if jb c t=true then[] else c::du t
def fj:Bs->Bs|[]=>[]|c::t=>if jb c t=true then t.tail else fj t
def y7:∀r:Bs,(r=du r++13::10::fj r/\Lib.index r [13,10]=((du r).length:Int))\/(du r=r/\fj r=[]/\Lib.index r [13,10] = -1)
 |[] => .inr ⟨rfl,rfl,rfl⟩|c::t=>by
  have hp:([13,10]:Bs).isPrefixOf (c::t)=jb c t:=by
   unfold jb
   cases t with|nil=>simp[List.isPrefixOf]|cons d t=>simp[List.isPrefixOf,qmv]
  rw[du,fj,Lib.index,hp];by_cases hc:jb c t=true
  ·obtain⟨rfl,r',rfl⟩:=qxm hc;rw[qX hc,qX hc,qX hc];exact .inl ⟨rfl,rfl⟩
  ·rw[qW hc,qW hc,qW hc];rcases y7 t with⟨h1,h2⟩|⟨h1,h2,h3⟩
   ·refine .inl ⟨by rw[wK,← h1],?_⟩
    rw[h2,qW (by simp)];simp
   ·refine .inr ⟨by rw[h1],h2,?_⟩
    rw[h3];rfl
def q6c(r:Bs):r.take (du r).length=du r:=by
 rcases y7 r with⟨h1,_⟩|⟨h1,_,_⟩
 ·have e:r.take (du r).length=(du r++13::10::fj r).take (du r).length:=by rw[← h1]
  rw[e,List.take_left]
 ·rw[h1];simp
def q9v(r:Bs):fj r <:+ r:=by
 rcases y7 r with⟨h1,_⟩|⟨_,h2,_⟩
 ·exact⟨du r++[13,10],by simp;exact h1.symm⟩
 ·rw[h2];exact List.nil_suffix
def qoq(c:UInt8)(t:Bs):(fj (c::t)).length<=t.length:=by
 rcases y7 (c::t) with⟨h1,_⟩|⟨_,h2,_⟩
 ·have:=congrArg List.length h1;simp only[qM,qL]at this;omega
 ·rw[h2];simp
def q6b(r:Bs):(du r).length<=r.length:=by
 rcases y7 r with⟨h1,_⟩|⟨h1,_,_⟩
 ·have:=congrArg List.length h1;simp only[qM,qL]at this;omega
 ·rw[h1];exact wF _
def qm5(s r:Bs):Bs:=s.take (s.length-r.length-2)
def mn(st:Option Bs)(r:Bs)(out:List Bs):List Bs:=match st with|some s=>out++[qm5 s r]|none=>out
def ij(b:Bs):Nat->Bs->Option Bs->List Bs->List Bs
 |0,_,_,out=>out|_+1,[],st,out=>match st with|some s=>out++[s]|none=>out
 |n+1,c::t,st,out=>if pp (du (c::t)) b=0 then ij b n (fj (c::t)) st out
  else if pp (du (c::t)) b=2 then mn st (c::t) out else ij b n (fj (c::t)) (some (fj (c::t))) (mn st (c::t) out)
def ng(body:Bs)(st:Option Bs):Int:=match st with|some s=>pos body s|none => -1
def zn8{body s r:Bs}(hs:s <:+ body)(hr:r <:+ s)(hb:body.length<=4000000):0<=pos body s/\pos body s<=(if af (pos body r-2)>pos body s then af (pos body r-2) else pos body s)/\(if af (pos body r-2)>pos body s then af (pos body r-2) else pos body s)<=(body.length:Int) /\
  List.take ((if af (pos body r-2)>pos body s then af (pos body r-2) else pos body s).toNat-(pos body s).toNat) (List.drop (pos body s).toNat body)=qm5 s r:=by
 have h1:=hs.length_le;have h2:=hr.length_le;rw[qys hs];unfold qm5 pos;rw[cm]
 refine⟨by omega,?_,?_,?_⟩
 ·split<;>omega
 ·split<;>omega
 ·congr 1;split<;>omega
def zp0{body r:Bs}(hr:r <:+ body)(hb:body.length<=4000000):(if(body.length:Int)<af (af (pos body r+((du r).length:Int))+2) then(body.length:Int) else af (af (pos body r+((du r).length:Int))+2))=pos body (fj r):=by
 have h1:=hr.length_le;rcases y7 r with⟨h,_⟩|⟨h,h2,_⟩
 ·have:=congrArg List.length h;simp only[qM,qL]at this;unfold pos;rw[qps _ _,cm]
  split<;>omega
 ·rw[h2,h,qyt];unfold pos;rw[qps _ _,cm]
  split<;>omega
def zkm(fu:Nat)(hfu:90000000<=fu)(body b:Bs)(hb:body.length<=4000000)(hbb:b.length<=1000)(r:Bs)(hr:r <:+ body)(st:Option Bs)(hst:∀s,st=some s->s <:+ body/\r <:+ s)(z out:List Bs)(ho:out.length<=4000000:=by omega) :
  qbk fu (pos body r) (du r) body b (ng body st) z out =
   if pp (du r) b=0 then some (.inl (body,(b,(ng body st,(z,out))))) else if pp (du r) b=2 then some (.inr (body,(b,(ng body st,mn st r out)))) else some (.inl (body,(b,(pos body (fj r),(z,mn st r out))))):=by
 have hrm:=l7;have hcl:=q6b r;have hrl:=hr.length_le;unfold qbk;rw[znl fu hfu _ b (by omega) hbb,qB,fe]
 by_cases h0:pp (du r) b=0
 ·rw[qX h0,qX h0]
 rw[qW h0,qW h0,zp0 hr hb,fe]
 cases st with
 |none=>
  rw[show ng body none = -1 from rfl,au]
  try rw[fe]
  by_cases h2:pp (du r) b=2
  ·rw[qX h2,qX h2];rfl
  ·rw[qW h2,qW h2];rfl
 |some s=>
  obtain⟨g1,g2⟩:=hst s rfl;obtain⟨q1,q2,q3,q4⟩:=zn8 g1 g2 hb;rw[show ng body (some s)=pos body s from rfl,ag q1,ag ⟨q1,q2,q3⟩,q4,ag]
  by_cases h2:pp (du r) b=2
  ·rw[qX h2,qX h2];rfl
  ·rw[qW h2,qW h2];rfl
def q4n(st:Option Bs)(r:Bs)(out:List Bs):(mn st r out).length<=out.length+1:=by unfold mn;cases st<;>simp
def q7b(st:Option Bs)(out:List Bs):List Bs:=match st with|some s=>out++[s]|none=>out
def zki(fu:Nat)(hfu:90000000<=fu)(body b:Bs)(hb:body.length<=4000000)(hbb:b.length<=1000)(z:List Bs)(n:Nat):∀(r:Bs)(st:Option Bs)(out:List Bs),r <:+ body->(∀s,st=some s->s <:+ body/\r <:+ s)->r.length<n->out.length+r.length<=4000000 ->
  (∃x,ya fu n (pos body r) body body b (ng body st) z out=some (.inl (body,(body,(b,(x,ij b n r st out)))))) \/
  (∃st' out',ya fu n (pos body r) body body b (ng body st) z out=some (.inr (body,(body,(b,(ng body st',(z,out'))))))/\ij b n r st out=q7b st' out'/\out'.length<=4000000/\∀s,st'=some s->s <:+ body):=by
 induction n with
 |zero=>intro r st out _ _ h;omega|succ n ih=>
  intro r st out hr hst h ho;rw[ya,qs1]
  cases r with
  |nil=>
   rw[qyt,au]
   exact .inr ⟨st,out,rfl,rfl,by omega,fun s hs=>(hst s hs).1⟩
  |cons c t=>
   simp only[qL]at h ho;have hL:(c::t).length=t.length+1:=rfl;have hrl:=hr.length_le;simp only[qL]at hrl;have hcl:=q6b (c::t);have hnl:=qoq c t;have hge:=zaf body (c::t);have hnx:fj (c::t) <:+ body:=(q9v _).trans hr;rw[ag (zp1 hr),ag hge,ag (by decide),qys hr]
   have hI:qd (c::t) [13,10]=some (Lib.index (c::t) [13,10]):=by
    unfold qd;rw[ag (by refine⟨by simp,by simp only[qL];omega,by simp[maxLen]⟩)]
   have step:∀q:Option qu2,q=((qbk fu (pos body (c::t)) (du (c::t)) body b (ng body st) z out).bind fun x2=>bh x2 (fun a3=>ya fu n (pos body (fj (c::t))) body a3.1 a3.2.1 a3.2.2.1 a3.2.2.2.1 a3.2.2.2.2) (fun b4=>some (.inl (body,b4)))) ->
     (∃x,q=some (.inl (body,(body,(b,(x,ij b (n+1) (c::t) st out))))))\/(∃st' out',q=some (.inr (body,(body,(b,(ng body st',(z,out'))))))/\ij b (n+1) (c::t) st out=q7b st' out'/\out'.length<=4000000/\∀s,st'=some s->s <:+ body):=by
    intro q hq;rw[hq,zkm fu hfu body b hb hbb (c::t) hr st hst z out,ij]
    have hal:=q4n st (c::t) out;by_cases h0:pp (du (c::t)) b=0
    ·simp only[qX h0,qB,bh];exact ih (fj (c::t)) st out hnx (fun s hs=>⟨(hst s hs).1,(q9v _).trans (hst s hs).2⟩) (by omega) (by omega)
    ·simp only[qW h0];by_cases h2:pp (du (c::t)) b=2
     ·simp only[qX h2,qB,bh];exact .inl ⟨_,rfl⟩
     ·simp only[qW h2,qB,bh];exact ih (fj (c::t)) (some (fj (c::t))) _ hnx (fun s hs=>by cases hs;exact⟨hnx,List.suffix_refl _⟩) (by omega) (by omega)
   apply step;rw[hI,qB];rcases y7 (c::t) with⟨h1,h2⟩|⟨h1,h2,h3⟩
   ·have ac:=congrArg List.length h1;simp only[qM,qL]at ac;have e1:af (pos body (c::t)+((du (c::t)).length:Int))=((body.length-(c::t).length+(du (c::t)).length:Nat):Int):=by unfold pos;rw[qps _ _]
    have e2:af (((body.length-(c::t).length+(du (c::t)).length:Nat):Int)+2)=pos body (fj (c::t)):=by unfold pos;rw[cm];simp only[qL];omega
    have e3:((body.length-(c::t).length+(du (c::t)).length:Nat):Int).toNat-(pos body (c::t)).toNat=(du (c::t)).length:=by unfold pos;omega
    rw[h2,ag,e1,ag (by unfold pos;simp only[qL];omega),e3,q6c,e2]
   ·have e3:(body.length:Int).toNat-(pos body (c::t)).toNat=(du (c::t)).length:=by rw[h1];unfold pos;omega
    rw[h3,au,ag,e3,q6c,h2,qyt]
def zkj(b:Bs):∀(n:Nat)(r:Bs)(st:Option Bs)(out:List Bs),r.length<n->ij b n r st out=ij b (r.length+1) r st out:=by
 intro n
 induction n using Nat.strongRecOn with
 |ind n ih=>
  intro r st out h;obtain⟨n,rfl⟩:∃m,n=m+1:=⟨n-1,by omega⟩
  cases r with
  |nil=>rfl|cons c t=>
   simp only[qL]at h ⊢;have hnl:=qoq c t;rw[ij,ij];have e:∀st' out',ij b n (fj (c::t)) st' out'=ij b (t.length+1) (fj (c::t)) st' out':=fun st' out'=>by
    rw[ih n (by omega) _ _ _ (by omega)]
    by_cases hq:t.length+1=n
    ·rw[hq];exact(ih n (by omega) _ _ _ (by omega)).symm
    ·exact(ih (t.length+1) (by omega) _ _ _ (by omega)).symm
   rw[e,e]
def ii(body b:Bs):List Bs:=ij b (body.length+1) body none []
def zkn(fu:Nat)(hfu:90000000<=fu)(body b:Bs)(hb:body.length<=4000000)(hbb:b.length<=1000):qk3 fu body b=some (ii body b):=by
 have hrm:=l7;unfold qk3 qsz qs0 ii;rw[qB];have:=zki fu hfu body b hb hbb [] fu body none [] (List.suffix_refl _) (by simp) (by omega) (by simpa using hb)
 rw[zpz,show ng body none = -1 from rfl,zkj b fu body none [] (by omega)]at this
 rcases this with⟨x,h⟩|⟨st',out',h1,h2,h3,h4⟩
 ·rw[h];rfl
 ·rw[h1,qB,h2];simp only[bh]
  cases st' with
  |none=>rw[show ng body none = -1 from rfl,au];rfl|some s=>
   have hge:=zaf body s;rw[show ng body (some s)=pos body s from rfl,ag hge.1,ag hge,ag,qys (h4 s rfl)];rfl
def zct(l:List aq)(f:aq->Nat)(hf:∀x,x.1.length+x.2.length+1<=f x):l.length<=(l.map f).sum/\∀x∈l,x.1.length+x.2.length<=(l.map f).sum:=by
 induction l with
 |nil=>exact⟨wF _,fun x h=>by cases h⟩
 |cons y l ih=>
  have hy:=hf y;refine⟨by simp only[qL,List.map_cons,List.sum_cons];omega,fun x hx => ?_⟩
  rw[List.map_cons,List.sum_cons];rcases List.mem_cons.1 hx with rfl|hx
  ·omega
  ·have:=ih.2 x hx;omega
def qpf:∀b:List UInt8,(List.map (Ty.byte.bk:Ty.byte.den->Nat) b).sum=b.length
 |[]=>rfl|c::b=>by
  show 1+(List.map (Ty.byte.bk:Ty.byte.den->Nat) b).sum=b.length+1;rw[qpf b];omega
def kh(x:aq):Nat:=(x.1.length+1)+(x.2.length+1)
def zhg(l:List aq)(b:List UInt8)(h:((l.map kh).sum+1)+(b.length+1)<=1048576):ml (l,b):=by
 obtain⟨h1,h2⟩:=zct l kh (fun x=>by unfold kh;omega)
 refine⟨⟨by simp only;omega,fun x hx => ?_⟩,by simp only;omega⟩
 have:=h2 x hx;omega
def q39(m:List aq×List UInt8)(h:(Ty.prod (.list (.prod .str .str)) (.list .byte)).bk m<=1048576):ml m:=by
 obtain⟨l,b⟩:=m;have h:((l.map kh).sum+1)+((List.map (Ty.byte.bk:Ty.byte.den->Nat) b).sum+1)<=1048576:=h;rw[qpf]at h;exact zhg l b h
abbrev TP:Type:=Tree (List (Bs×Bs)×Bs)
abbrev τP:Ty := .prod (.list (.prod .str .str)) (.list .byte)
def cf(t:TP):Nat:=(Ty.tree τP).bk t
def ue(x:List (Bs×Bs)×Bs)(l:List TP):cf (.node x l)=τP.bk x+(l.map cf).sum+2:=zc9 τP.bk x l
def fk(t:TP):Tree.node t.val t.kids=t:=by cases t;rfl
def zs5(l:List TP)(k:TP)(h:k∈l):cf k<=(l.map cf).sum:=by
 obtain⟨a,b,rfl⟩:=List.append_of_mem h;simp;omega
def qiu{t k:TP}(h:k∈t.kids):cf k+2<=cf t:=by
 cases t with
 |node x l=>
  rw[ue];have:=zs5 l k h;omega
def zs4(l:List TP):l.length<=(l.map cf).sum:=by
 induction l with
 |nil=>simp|cons k l ih=>
  have:2<=cf k:=by cases k;rw[ue];omega
  simp only[qL,List.map_cons,List.sum_cons];omega
def qae(t:TP):t.kids.length+2<=cf t:=by
 cases t with|node x l=>rw[ue];have:=zs4 l;show l.length+2<=_;omega
def qiv(t:TP):2<=cf t:=by cases t;rw[ue];omega
def ztw(t:TP):τP.bk t.val<=cf t:=by cases t;rw[ue];show τP.bk _<=_;simp only[Tree.val];omega
def yv(x:List (Bs×Bs)×Bs):Prop:=ml x/\x.1.length<=4000000/\(∀y∈x.1,y.1.length<=4000000/\y.2.length<=4000000)/\x.2.length<=4000000
def zsi(x:List (Bs×Bs)×Bs)(h:τP.bk x<=1048576):yv x:=by
 refine⟨q39 x h,?_⟩;obtain⟨l,b⟩:=x;have h:((l.map kh).sum+1)+((List.map (Ty.byte.bk:Ty.byte.den->Nat) b).sum+1)<=1048576:=h;rw[qpf]at h;obtain⟨h1,h2⟩:=zct l kh (fun x=>by unfold kh;omega)
 exact⟨by simp only;omega,fun y hy=>by have:=h2 y hy;omega,by simp only;omega⟩
def qai(l:List aq)(b:Bs):Int:=match ic l with|none=>5|some m=>if 0<b.length\/lk m.1 mpN=false\/(jd m.2.2 jq).2=true\/60<=m.2.2.length\/b9 l bp≠[gm m]\/2000<(gm m).length then 5 else 0
def zui(fu:Nat)(hfu:90000000<=fu)(t:TP)(hs:yv t.val):qlc fu t=some (qai t.val.1 t.val.2):=by
 obtain⟨_,h1,h2,h3⟩:=hs;obtain⟨R,g1,g2⟩:=qzz fu hfu t.val.1 h2 h1;unfold qlc qai;rw[g1,qB];simp only[fk]
 cases ht:ic t.val.1 with
 |none=>
  rw[ht]at g2;obtain⟨k,rfl⟩:=g2;simp only[bh];by_cases hb:0<t.val.2.length
  ·rw[ag,oy,a8 rfl]
  ·rw[au,d5,oy,a8 rfl]
 |some m=>
  rw[ht]at g2;obtain⟨ab,x,aa,e1,e2,e3,e4,e5,rfl⟩:=g2;have h0:=qzy ht;have hv:=qhx h0;simp only[bh];by_cases hb:0<t.val.2.length
  ·rw[ag,oy,a8 rfl,qX (.inl hb)]
  rw[au,de,l8 fu hfu _ _ (by have:=hv.1;omega) (by simp),qB,oy,fk]
  cases hk:lk m.1 mpN
  ·rw[d5,qX (.inr (.inl rfl))]
  rw[de,qs3,q9h fu hfu (m.1,(m.2.1,m.2.2)) jq (by simp) hv.smD,qB,qW (by simpa using h0),zah fu hfu (m.1,(m.2.1,m.2.2)) hv.smD,qB,qW (by simpa using h0)]
  rw[show((m.1,(m.2.1,m.2.2)):fb)=m from rfl]
  simp only;cases hp:(jd m.2.2 jq).2
  ·rw[a7 rfl];by_cases h60:60<=m.2.2.length
   ·rw[ag,qX (.inr (.inr (.inr (.inl h60))))]
   rw[au]
   by_cases h4:4000<(gm m).length
   ·rw[qX h4,qX];rfl
   ·have hx:am t.val.1 (ab.length:Int)=some x:=by rw[e1];exact bt ab x aa
    rw[qW h4];simp only[ip,qB];rw[a7 (by rfl),hx,qB,zjg,e2]
    by_cases he:gm m=x.2
    ·rw[qW (by rw[he];simp),cd]
     by_cases h2k:2000<(gm m).length
     ·rw[qX,qX]
     ·rw[qW (by omega),qW (by
       rintro (q|q|q|q|q|q)
       ·exact hb q
       ·simp at q
       ·simp at q
       ·exact h60 q
       ·exact q (by rw[he])
       ·exact h2k q)]
    ·rw[qX (by simpa using he),qX (.inr (.inr (.inr (.inr (.inl (by simpa using fun q=>he q.symm))))))]
  ·rw[a8 rfl,qX (.inr (.inr (.inl rfl)))]
def je(t:TP)(d:Int):Int:=if(gz t.val.1).1≠0 then(gz t.val.1).1 else if 0<t.kids.length then qai t.val.1 t.val.2 else if 12000<t.val.2.length then 1
 else if bs 0 t.val.2≠0 then bs 0 t.val.2 else match bnd t.val.1 with|none=>0|some b=>if d<8/\0<(ii t.val.2 b).length then 5 else 0
def zi9(fu:Nat)(s:Bs)(h:s.length<fu:=by omega)(hb:s.length<100000000:=by omega):qax fu s=some (bs 0 s):=by
 unfold qax;have:=q5l fu fu [] s 0 h (by simpa using hb) (by omega)
 exact this
def qxl(fu:Nat)(hfu:90000000<=fu)(l:List aq)(b:Bs)(d:Int)(hs:yv (l,b)):xz fu l b d=some (match bnd l with|none=>[]|some bb=>if d<8 then ii b bb else[]):=by
 obtain⟨_,h1,h2,h3⟩:=hs;obtain⟨R,g1,g2⟩:=zjq fu hfu l h2 h1;unfold xz;rw[g1,qB]
 cases hb:bnd l with
 |none=>rw[hb]at g2;simp only at g2;rw[g2,d5]|some bb=>
  rw[hb]at g2;simp only at g2;subst g2;rw[de,cd];have:=zjm hb;by_cases hd:d<8
  ·rw[qW (by omega)];simp only[qX hd];rw[zkn fu hfu b bb h3 (by omega)];rfl
  ·rw[qX];simp only[qW hd]
def zka(fu:Nat)(hfu:90000000<=fu)(t:TP)(d:Int)(hs:yv t.val):qk2 fu (t,d)=some (je t d):=by
 unfold qk2 je;rw[q8a fu hfu _ hs.1.1,qB,ip,qB,dt];simp only[fk];by_cases h0:(gz t.val.1).1≠0
 ·rw[qX h0,qX h0]
 rw[qW h0,qW h0,cd];by_cases h1:0<t.kids.length
 ·rw[qX,qX h1,zui fu hfu t hs];rfl
 rw[qW (by omega),qW h1,cd]
 by_cases h2:12000<t.val.2.length
 ·rw[qX,qX h2]
 rw[qW (by omega),qW h2,zi9 fu _,qB,dt]
 by_cases h3:bs 0 t.val.2≠0
 ·rw[qX h3,qX h3]
 rw[qW h3,qW h3,qxl fu hfu t.val.1 t.val.2 d hs,qB]
 cases bnd t.val.1 with
 |none=>rfl|some b=>
  simp only;by_cases hd:d<8
  ·simp only[qX hd];rw[cd];by_cases hc:0<(ii t.val.2 b).length
   ·rw[qX,qX ⟨hd,hc⟩]
   ·rw[qW (by omega),qW (fun q=>hc q.2)]
  ·simp only[qW hd];rw[qW (fun q=>hd q.1)];rfl
def bm:Nat->TP->Int->List (TP×Int)|0,_,_=>[]|n+1,t,d=>(t,d)::t.kids.flatMap fun k=>bm n k (d+1)
def q7h:∀(n:Nat)(t:TP)(d:Int),(bm n t d).length<=cf t:=by
 intro n
 induction n with
 |zero=>intro t d;simp[bm]|succ n ih=>
  intro t d;have key:∀l:List TP,(l.flatMap fun k=>bm n k (d+1)).length<=(l.map cf).sum:=by
   intro l
   induction l with
   |nil=>simp|cons k l ih2=>
    have:=ih k (d+1);rw[List.flatMap_cons,qM,List.map_cons,List.sum_cons];omega
  cases t with
  |node x l=>
   have:=key l;rw[bm,qL,ue];show(l.flatMap _).length+1<=_;omega
def q7i:∀(n:Nat)(t:TP)(d:Int),∀x∈bm n t d,cf x.1<=cf t:=by
 intro n
 induction n with
 |zero=>intro t d x hx;cases hx
 |succ n ih=>
  intro t d x hx;rw[bm]at hx;rcases List.mem_cons.1 hx with e|e
  ·rw[e];exact wF _
  ·obtain⟨k,hk,hx2⟩:=List.mem_flatMap.1 e;have:=ih k (d+1) x hx2;have:=qiu hk;omega
def gd(t:TP):Prop:=cf t<=60000000/\∀n d,∀x∈bm n t d,yv x.1.val
def zmf{t:TP}(h:gd t):yv t.val:=h.2 1 0 (t,0) (by rw[bm];exact qH)
def zmd{t k:TP}(h:gd t)(hk:k∈t.kids):gd k:=⟨by have:=qiu hk;have:=h.1;omega,fun n d x hx=>h.2 (n+1) (d-1) x (by
 rw[bm];refine qE _ (List.mem_flatMap.2 ⟨k,hk,?_⟩);rw[show d-1+1=d by omega];exact hx)⟩
def zmc{t:TP}(h:cf t<=1048576):gd t:=⟨by omega,fun n d x hx=>zsi _ (by have:=q7i n t d x hx;have:=ztw x.1;omega)⟩
def la:List (TP×Int)->Nat->Bool->Option (Nat×Bool)|[],i,fl=>some (i,fl)|x::L,i,fl=>if 40<=i then none else la L (i+1) (fl||decide (8<x.2))
def zbr:∀(L M:List (TP×Int))(i:Nat)(fl:Bool),la (L++M) i fl=(la L i fl).bind fun x=>la M x.1 x.2
 |[],_,_,_=>rfl|x::L,M,i,fl=>by
  rw[wK,la,la];by_cases h:40<=i
  ·rw[qX h,qX h];rfl
  ·rw[qW h,qW h,zbr L M]
def zbs:∀(L:List (TP×Int))(i:Nat)(fl:Bool)(x:Nat×Bool),i<=40->la L i fl=some x->x.1<=40
 |[],_,_,_,h,e=>by cases e;exact h
 |y::L,i,fl,x,h,e=>by
  rw[la]at e;by_cases h4:40<=i
  ·rw[qX h4]at e;cases e
  ·rw[qW h4]at e;exact zbs L _ _ x (by omega) e
def zbt:∀(L:List (TP×Int))(i:Nat)(fl:Bool),i<=40->la L i fl=if 40<i+L.length then none else some (i+L.length,fl||L.any fun x=>decide (8<x.2))
 |[],i,fl,h=>by rw[la,qW (by simp;omega)];simp|x::L,i,fl,h=>by
  rw[la];by_cases h4:40<=i
  ·rw[qX h4,qX (by simp only[qL];omega)]
  ·rw[qW h4,zbt L _ _ (by omega)]
   by_cases h5:40<i+1+L.length
   ·rw[qX h5,qX (by simp only[qL];omega)]
   ·rw[qW h5,qW (by simp only[qL];omega),List.any_cons,Bool.or_assoc,qL,Nat.add_assoc,Nat.add_comm 1]
def zlk(fu:Nat)(hfu:90000000<=fu)(z:Int×Int):∀(n:Nat)(t:TP)(d i:Nat)(fl:Bool),cf t<=n->cf t+d<=70000000->i<=40 ->
  ∃R,qbm fu n t (d:Int) (i:Int) z fl=some R/\match la (bm n t (d:Int)) i fl with
   |none=>∃a b,R = .inl (a,(((2:Int),(-1:Int)),b))|some x=>R = .inr ((x.1:Int),(z,x.2)):=by
 intro n
 induction n with
 |zero=>intro t d i fl h;have:=qiv t;omega|succ n ih=>
  intro t d i fl hz hd hi;rw[qbm,qk5,qss,bm,la];by_cases h4:40<=i
  ·rw[ag,qX h4,oo];exact⟨_,rfl,_,_,rfl⟩
  rw[au,qW h4]
  have hr0:(bif fl then some (.inr (z,true)) else some (.inr (z,decide ((8:Int)<(d:Int)))):Option q33)=some (.inr (z,fl||decide ((8:Int)<(d:Int)))):=by cases fl<;>rfl
  rw[hr0,qB];simp only[bh];rw[ay i]
  have loop:∀(m:Nat)(ab aa:List TP)(i:Nat)(fl:Bool),t.kids=ab++aa->aa.length<m->i<=40 ->
    ∃R,qfk (qbm fu n) fu m (d:Int) t.kids (t.kids.length:Int) (ab.length:Int) (i:Int) z fl=some R/\match la (aa.flatMap fun k=>bm n k ((d:Int)+1)) i fl with
     |none=>∃a b,R = .inl (a,(((2:Int),(-1:Int)),b))|some x=>R = .inr ((x.1:Int),(z,x.2)):=by
   intro m
   induction m with
   |zero=>intro ab aa i fl _ h;omega|succ m ihm=>
    intro ab aa i fl hk h hi;have ac:t.kids.length=ab.length+aa.length:=by rw[hk];simp
    have hks:=qae t;rw[qfk,qsv]
    cases aa with
    |nil=>rw[au (by simp only[qZ]at ac;omega)];exact⟨_,rfl,rfl⟩|cons k aa=>
     simp only[qL]at h ac;have hkm:k∈t.kids:=by rw[hk];simp
     have hx:am t.kids (ab.length:Int)=some k:=by rw[hk];exact bt ab k aa
     have hkz:=qiu hkm;rw[ag,hx,qB,fk,ay d,List.flatMap_cons,zbr]
     obtain⟨R,g1,g2⟩:=ih k (d+1) i fl (by omega) (by omega) hi
     rw[g1,qB];rw[show((d+1:Nat):Int)=(d:Int)+1 by omega]at g2
     cases hr:la (bm n k ((d:Int)+1)) i fl with
     |none=>
      rw[hr]at g2;obtain⟨a,b,rfl⟩:=g2;exact⟨_,rfl,a,b,rfl⟩
     |some x=>
      rw[hr]at g2;simp only at g2;subst g2;simp only[bh,qB];rw[ay _]
      have:=ihm (ab++[k]) aa x.1 x.2 (by rw[hk];simp) (by omega) (zbs _ _ _ _ hi hr)
      rw[qM,wD]at this;exact this
  have hks:=qae t;exact loop fu [] t.kids (i+1) _ rfl (by omega) (by omega)
def gu:List (TP×Int)->Nat->Option (Int×Int)|[],_=>none|x::L,i=>if je x.1 x.2≠0 then some (je x.1 x.2,(i:Int)) else gu L (i+1)
def zbu:∀(L M:List (TP×Int))(i:Nat),gu (L++M) i=match gu L i with|some f=>some f|none=>gu M (i+L.length)
 |[],_,_=>rfl|x::L,M,i=>by
  rw[wK,gu,gu];by_cases h:je x.1 x.2≠0
  ·rw[qX h,qX h]
  ·rw[qW h,qW h,zbu L M,qL,Nat.add_assoc,Nat.add_comm 1]
def zll(fu:Nat)(hfu:90000000<=fu)(z:Int×Int):∀(n:Nat)(t:TP)(d i:Nat),cf t<=n->cf t+d<=70000000->gd t->i+cf t<=70000000 ->
  ∃R,qbn fu n t (d:Int) (i:Int) z=some R/\match gu (bm n t (d:Int)) i with
   |some f=>∃a,R = .inl (a,f)|none=>R = .inr (((i+(bm n t (d:Int)).length:Nat):Int),z):=by
 intro n
 induction n with
 |zero=>intro t d i h;have:=qiv t;omega|succ n ih=>
  intro t d i hz hd hs hi;have htp:=qiv t;rw[qbn,qk6,qst];rw[show((t.val.1,t.val.2):List (Bs×Bs)×Bs)=t.val from rfl,fk,zka fu hfu t _ (zmf hs),qB,bm,gu,dt]
  by_cases hc:je t (d:Int)≠0
  ·rw[qX hc,qX hc,oo];exact⟨_,rfl,_,rfl⟩
  rw[qW hc,qW hc,qB];simp only[bh];rw[ay i]
  have loop:∀(m:Nat)(ab aa:List TP)(i:Nat),t.kids=ab++aa->aa.length<m->i+(aa.map cf).sum<=70000000 ->
    ∃R,qfl (qbn fu n) fu m (d:Int) t.kids (t.kids.length:Int) (ab.length:Int) (i:Int) z=some R/\match gu (aa.flatMap fun k=>bm n k ((d:Int)+1)) i with
     |some f=>∃a,R = .inl (a,f)|none=>R = .inr (((i+(aa.flatMap fun k=>bm n k ((d:Int)+1)).length:Nat):Int),z):=by
   intro m
   induction m with
   |zero=>intro ab aa i _ h;omega|succ m ihm=>
    intro ab aa i hk h hi;have ac:t.kids.length=ab.length+aa.length:=by rw[hk];simp
    have hks:=qae t;rw[qfl,qsw]
    cases aa with
    |nil=>rw[au (by simp only[qZ]at ac;omega)];exact⟨_,rfl,rfl⟩|cons k aa=>
     simp only[qL]at h ac;simp only[List.map_cons,List.sum_cons]at hi;have hkm:k∈t.kids:=by rw[hk];simp
     have hx:am t.kids (ab.length:Int)=some k:=by rw[hk];exact bt ab k aa
     have hkz:=qiu hkm;have hfl:=q7h n k ((d:Int)+1);rw[ag,hx,qB,fk,ay d,List.flatMap_cons,zbu]
     obtain⟨R,g1,g2⟩:=ih k (d+1) i (by omega) (by omega) (zmd hs hkm) (by omega)
     rw[g1,qB];rw[show((d+1:Nat):Int)=(d:Int)+1 by omega]at g2
     cases hr:gu (bm n k ((d:Int)+1)) i with
     |some f=>
      rw[hr]at g2;obtain⟨a,rfl⟩:=g2;exact⟨_,rfl,a,rfl⟩
     |none=>
      rw[hr]at g2;simp only at g2;subst g2;simp only[bh];rw[ay _]
      have:=ihm (ab++[k]) aa (i+(bm n k ((d:Int)+1)).length) (by rw[hk];simp) (by omega) (by omega)
      rw[qM,wD]at this;rw[qM,← Nat.add_assoc];exact this
  have hks:=qae t;have hsum:(t.kids.map cf).sum+2<=cf t:=by cases t;rw[ue];show(List.map cf _).sum+2<=_;simp only[Tree.kids];omega
  obtain⟨R,g1,g2⟩:=loop fu [] t.kids (i+1) rfl (by omega) (by omega)
  refine⟨R,g1,?_⟩;rw[qL,show i+((t.kids.flatMap fun k=>bm n k ((d:Int)+1)).length+1)=i+1+(t.kids.flatMap fun k=>bm n k ((d:Int)+1)).length by omega]
  exact g2
def kv(n:Nat)(t:TP):Int×Int:=if 40<(bm n t 0).length then(2,-1) else if(bm n t 0).any (fun x=>decide (8<x.2))=true then(2,-2) else(gu (bm n t 0) 0).getD (0,0)
def zqf(fu:Nat)(hfu:90000000<=fu)(t:TP)(hs:gd t):qk0 fu t=some (kv fu t):=by
 have hz:=hs.1;unfold qk0 qbl;simp only[fk,qB];obtain⟨R,g1,g2⟩:=zlk fu hfu (0,0) fu t 0 0 false (by omega) (by omega) (by omega)
 rw[show((0:Nat):Int)=0 from rfl,zbt _ _ _ (by omega),wO]at g2
 rw[show((0:Nat):Int)=0 from rfl]at g1
 have e1:qk4 fu t (0,0) false=R.elim (fun a2=>some (.inl (t,a2.2))) (fun b3=>some (.inr (t,b3.2))):=by
  unfold qk4 q28;simp only[fk];rw[g1,qB];cases R<;>rfl
 rw[e1];unfold kv;by_cases h4:40<(bm fu t 0).length
 ·rw[qX h4]at g2;obtain⟨a,b,rfl⟩:=g2;rw[qX h4];rfl
 rw[qW h4]at g2;simp only at g2;subst g2;rw[qW h4];simp only[Sum.elim_inr,qB,bh,Bool.false_or];cases hany:(bm fu t 0).any fun x=>decide (8<x.2)
 ·rw[a7 rfl,qW (by simp)]
  obtain⟨R2,q1,q2⟩:=zll fu hfu (0,0) fu t 0 0 (by omega) (by omega) hs (by omega)
  rw[show((0:Nat):Int)=0 from rfl]at q1 q2
  have e2:qk8 fu t (0,0)=R2.elim (fun a2=>some (.inl (t,a2.2))) (fun b3=>some (.inr (t,b3.2))):=by
   unfold qk8 q29;simp only[fk];rw[q1,qB];cases R2<;>rfl
  rw[e2]
  cases hr:gu (bm fu t 0) 0 with
  |some f=>
   rw[hr]at q2;obtain⟨a,rfl⟩:=q2;rfl
  |none=>rw[hr]at q2;simp only at q2;subst q2;rfl
 ·rw[a8 rfl,qX rfl];rfl

abbrev emT:TP:=Tree.node ([],[]) []
section sec
variable(fu:Nat)(hfu:90000000<=fu)(path:List Int)(hp:path.length<=2000000)(z:Int×Int)
include hfu hp
end sec
def zbv:∀(L:List (TP×Int))(i:Nat)(f:Int×Int),gu L i=some f->f.1≠0/\∃x∈L,f.1=je x.1 x.2
 |[],_,_,h=>by cases h
 |x::L,i,f,h=>by
  rw[gu]at h;by_cases hc:je x.1 x.2≠0
  ·rw[qX hc]at h;cases h;exact⟨hc,x,qH,rfl⟩
  ·rw[qW hc]at h;obtain⟨h1,y,h2,h3⟩:=zbv L _ _ h;exact⟨h1,y,qE _ h2,h3⟩
def qxh:gd emT:=zmc (by show 4<=_;omega)
def ko(x:cr):Bool := !(lk x.1 jq)
def zne(fu n:Nat)(hfu:90000000<=fu):∀(ab aa:List cr),aa.length<n->ab.length+aa.length<100000000->(∀x∈aa,x.1.length<=4000000) ->
  (aa.all ko=true->qbq fu n (ab++aa) ((ab.length+aa.length:Nat):Int) (ab.length:Int)=some (-1)) /\
  (∀u y w,aa=u++y::w->u.all ko=true->ko y=false->qbq fu n (ab++aa) ((ab.length+aa.length:Nat):Int) (ab.length:Int)=some ((ab.length+u.length:Nat):Int)):=by
 induction n with
 |zero=>intro ab aa h;omega|succ n ih=>
  intro ab aa h hb hs;rw[qbq,qta]
  cases aa with
  |nil=>exact⟨fun _=>by rw[au],fun u y w e=>by simp at e⟩
  |cons d t=>
   simp only[qL]at h hb;obtain⟨s1,s2⟩:=ih (ab++[d]) t (by omega) (by simp;omega) (fun x hx=>hs x (qE _ hx))
   simp only[qM,qL,qZ,qS,wM,wO]at s1 s2;rw[ag (by simp only[qL];omega),bt,qB,qbj,l8 fu hfu _ _ (hs d qH) (by simp),qB,qB,ay _,show(ab.length+(d::t).length:Nat)=ab.length+1+t.length by simp only[qL];omega,List.all_cons]
   have hk:ko d = !(lk d.1 jq):=rfl;rw[hk];cases hd:lk d.1 jq
   ·rw[a7 rfl];refine⟨fun e=>s1 (by simpa using e),fun u y w e hu hy => ?_⟩
    cases u with
    |nil=>rw[List.nil_append,List.cons.injEq]at e;obtain⟨rfl,_⟩:=e;rw[hk,hd]at hy;cases hy
    |cons z u=>
     rw[wK,List.cons.injEq]at e;obtain⟨rfl,e⟩:=e;rw[List.all_cons,qA]at hu;have:=s2 u y w e hu.2 hy;rw[show(ab.length+(d::u).length:Nat)=ab.length+1+u.length by simp only[qL];omega]
     exact this
   ·rw[a8 rfl];refine⟨fun e=>by simp at e,fun u y w e hu hy => ?_⟩
    cases u with
    |nil=>rfl|cons z u=>
     rw[wK,List.cons.injEq]at e;obtain⟨rfl,e⟩:=e;rw[List.all_cons,hk,hd]at hu;simp at hu
def zk8(fu n:Nat)(hfu:90000000<=fu):∀(aa kept junk:List cr),junk≠[]->aa.length<n->kept.length+junk.length+aa.length<100000000->(∀x∈aa,x.1.length<=4000000) ->
  qfu fu n (kept.length:Int) ((kept.length+junk.length:Nat):Int) (kept++junk++aa)=some (kept++aa.filter ko):=by
 induction n with
 |zero=>intro aa kept junk _ h;omega|succ n ih=>
  intro aa kept junk hj h hb hs;rw[qfu,qs7];have ac:(kept++junk++aa).length=kept.length+junk.length+aa.length:=by simp only[qM]
  have hj1:1<=junk.length:=by cases junk with|nil=>exact absurd rfl hj|cons=>simp
  cases aa with
  |nil=>
   simp only[qZ]at ac;rw[au (by rw[ac];omega),ag (by rw[ac];omega),ag (by rw[qM,List.length_take,List.length_replicate,ac];omega)]
   have e:List.take ((kept.length:Nat):Int).toNat (List.take ((kept.length:Nat):Int).toNat (kept++junk++[])++List.replicate ((kept++junk++[]).length-((kept.length:Nat):Int).toNat) (([]:Bs),([]:Bs)))=kept:=by
    rw[List.append_nil,wv];simp
   rw[e];simp
  |cons y t=>
   simp only[qL]at h hb;have g:(kept++junk++y::t)[(((kept.length+junk.length:Nat):Int)).toNat]? = some y:=by
    rw[show(((kept.length+junk.length:Nat):Int)).toNat=(kept++junk).length by simp;omega];simp
   simp only[qL]at ac;rw[ag (by rw[ac];omega),ag (by rw[ac];omega),g,qB,qbj,l8 fu hfu _ _ (hs y qH) (by simp),qB,qB,ay (kept.length+junk.length),List.filter_cons]
   have hk:ko y = !(lk y.1 jq):=rfl;rw[hk];have hs':∀x∈t,x.1.length<=4000000:=fun x hx=>hs x (qE _ hx)
   cases hd:lk y.1 jq
   ·obtain⟨j,js,rfl⟩:∃j js,junk=j::js:=by cases junk with|nil=>exact absurd rfl hj|cons j js=>exact⟨j,js,rfl⟩
    have g2:(kept++j::js++y::t)[((kept.length:Nat):Int).toNat]? = some j:=by rw[qS];exact nh kept j _
    rw[d5,ag (by rw[ac];simp only[qL]at *;omega),g2,qB,ay _,qS,wK,wo]
    have:=ih t (kept++[y]) (js++[y]) (by simp) (by omega) (by simp at hb ⊢;omega) hs'
    simp only[qM,qL,qZ,wO,qS,wM,wK,List.nil_append]at this;rw[show(kept.length+(j::js).length+1:Nat)=kept.length+1+(js.length+1) by simp only[qL];omega]
    simpa using this
   ·rw[de];have:=ih t kept (junk++[y]) (by simp) (by omega) (by simp;omega) hs'
    simp only[qM,qL,qZ,wO,qS,wM]at this;rw[show(kept.length+junk.length+1:Nat)=kept.length+(junk.length+1) by omega]
    simpa using this
def zk9(fu:Nat)(hfu:90000000<=fu)(l:List cr)(hs:sw l):qlk fu l=some (l.filter ko):=by
 have hl:=hs.1;obtain⟨h1,h2⟩:=zne fu fu hfu [] l (by omega) (by simp;omega) (fun x hx=>(hs.2 x hx).1)
 simp only[List.nil_append,qZ,wO]at h1 h2;unfold qlk qll;rw[show((0:Nat):Int)=0 from rfl]at h1 h2
 have hd:l.all ko=true\/∃u y w,l=u++y::w/\u.all ko=true/\ko y=false:=by
  clear h1 h2 hs hl
  induction l with
  |nil=>exact .inl rfl|cons y t ih=>
   cases hk:ko y
   ·exact .inr ⟨[],y,t,rfl,rfl,hk⟩
   ·rcases ih with g|⟨u,x,w,e,g1,g2⟩
    ·exact .inl (by rw[List.all_cons,hk,g];rfl)
    ·exact .inr ⟨y::u,x,w,by rw[e];rfl,by rw[List.all_cons,hk,g1];rfl,g2⟩
 rcases hd with g|⟨u,y,w,rfl,g1,g2⟩
 ·rw[h1 g,qB,a8,List.filter_eq_self.2 (fun x hx=>List.all_eq_true.1 g x hx)]
 ·simp only[qM,qL]at hl;rw[h2 u y w rfl g1 g2,qB,fe,qW (by omega),ay _]
  have:=zk8 fu fu hfu w u [y] (by simp) (by omega) (by simp;omega) (fun x hx=>(hs.2 x (by simp[hx])).1)
  simp only[qL,qZ,wO,qS,wM]at this;rw[this,List.filter_append,List.filter_cons,g2,List.filter_eq_self.2 (fun x hx=>List.all_eq_true.1 g1 x hx)];rfl
def jp(m:fb):fb:=(m.1,(m.2.1,m.2.2.filter ko))
def qyo(f:cr->Bool):∀(l ab pre':List cr),(∀x∈pre',x∈ab)->(pw ab l).1=0->(pw pre' (l.filter f)).1=0
 |[],_,_,_,_=>rfl|p::l,ab,pre',hp,h=>by
  rw[pw]at h;split at h
  ·cases h
  ·split at h
   ·cases h
   ·split at h
    ·cases h
    ·split at h
     ·cases h
     ·rename_i g1 g2 g3 g4;rw[List.filter_cons];split
      ·rw[pw,qW g1,qW (by
        intro q;obtain⟨x,hx,hk⟩:=List.any_eq_true.1 q;exact g2 (List.any_eq_true.2 ⟨x,hp x hx,hk⟩)),qW g3,qW g4]
       exact qyo f l _ _ (fun x hx=>by
        rcases List.mem_append.1 hx with e|e
        ·exact List.mem_append_left _ (hp x e)
        ·exact List.mem_append_right _ e) h
      ·exact qyo f l _ _ (fun x hx=>List.mem_append_left _ (hp x hx)) h
def zi8{m:fb}(h:(ir m).1=0):(ir (jp m)).1=0:=by
 obtain⟨h1,h2,h3,_⟩:=q89 h;unfold ir at h ⊢;rw[qW (by simp[h1,h2]),qW (by omega)]at h
 unfold jp;have:=List.length_filter_le ko m.2.2;simp only;rw[qW (by simp[h1,h2]),qW (by omega)]
 exact qyo ko m.2.2 [] [] (by simp) h
def jx(l:List aq)(t:Bs):List aq:=l.map fun x=>if lk x.1 bp=true then(x.1,t) else x
def zrl{l ab aa:List aq}{x:aq}(t:Bs)(e:l=ab++x::aa)(hx:lk x.1 bp=true)(h1:b9 ab bp=[])(h2:b9 aa bp=[]):jx l t=ab++(x.1,t)::aa:=by
 have idm:∀l:List aq,b9 l bp=[]->(l.map fun x=>if lk x.1 bp=true then(x.1,t) else x)=l:=by
  intro l
  induction l with
  |nil=>intro _;rfl|cons y l ih=>
   intro h;rw[w3]at h;by_cases hk:(y.1.map lo==bp.map lo)=true
   ·rw[qX hk]at h;cases h
   ·rw[qW hk]at h;rw[List.map_cons,ih h,qW (show ¬lk y.1 bp=true from hk)]
 subst e;unfold jx;rw[List.map_append,List.map_cons,idm ab h1,idm aa h2,qX hx]
def zi7(fu:Nat)(hfu:90000000<=fu)(l:List aq)(hs:∀x∈l,x.1.length<=4000000/\x.2.length<=4000000)(hl:l.length<=4000000)(m:fb)(hm:ic l=some m) :
  qfi fu l=some (if 4000<(gm (jp m)).length then(false,[]) else(true,jx l (gm (jp m)))):=by
 have hrm:=l7;obtain⟨R,g1,g2⟩:=qzz fu hfu l hs hl;rw[hm]at g2;obtain⟨ab,x,aa,e1,e2,e3,e4,e5,rfl⟩:=g2;have h0:=qzy hm;have hv:=qhx h0;have hb:=zi8 h0;unfold qfi;rw[g1,qB];simp only[bh];rw[zk9 fu hfu m.2.2 hv.smD.2.2,qB,show((m.1,(m.2.1,m.2.2.filter ko)):fb)=jp m from rfl,zah fu hfu (jp m) (qhx hb).smD,qB,qW (by simpa using hb)]
 by_cases h4:4000<(gm (jp m)).length
 ·rw[qX h4,qX h4];rfl
 ·rw[qW h4,qW h4];simp only[ip,qB];have hc:fa l=some l:=by unfold fa;rw[ag]
  rw[a7 (by rfl),hc,qB,ag (by rw[e1];simp)]
  have hg:l[((ab.length:Nat):Int).toNat]? = some x:=by rw[e1];exact nh ab x aa
  rw[hg,qB,zrl _ e1 e3 e4 e5];have hset:List.set l ((ab.length:Nat):Int).toNat (x.1,gm (jp m))=ab++(x.1,gm (jp m))::aa:=by rw[e1];exact wo ab x _ aa
  rw[hset]
def jw(l:List aq)(b:Bs):Option (List aq×List Bs):=match bnd l with
 |none=>none|some bb=>if ii b bb=[] then none else match ic l with|none=>none|some m=>if 4000<(gm (jp m)).length then none else some (jx l (gm (jp m)),ii b bb)
def wk(rec:List aq->Bs->Nat->(TP×Nat) ⊕ (Int×Int))(c:Bs)(k:Nat):(TP×Nat) ⊕ (Int×Int):=
 if(fw c).2.1.1≠0 then .inr ((fw c).2.1.1,-8) else if 40<=k then .inr (2,-7) else rec (fw c).2.2 (c.drop (fw c).1.toNat) k
def mb(rec:List aq->Bs->Nat->(TP×Nat) ⊕ (Int×Int))(f:List aq):List Bs->Nat->List TP->(TP×Nat) ⊕ (Int×Int)
 |[],k,acc => .inl (.node (f,[]) acc,k)|c::cs,k,acc=>match wk rec c k with|.inr e => .inr e|.inl x=>mb rec f cs x.2 (acc++[x.1])
def eq:Nat->List aq->Bs->Nat->(TP×Nat) ⊕ (Int×Int)
 |0,l,b,k => .inl (.node (l,b) [],k+1)|n+1,l,b,k=>match jw l b with|none => .inl (.node (l,b) [],k+1)|some x=>mb (eq n) x.1 x.2 (k+1) []
def Mo(l:List aq)(b:Bs):Prop:=l.length<=60/\(∀y∈l,y.1.length<=12000/\y.2.length<=12000)/\b.length<=12000
def Mo.smT{l:List aq}{b:Bs}(h:Mo l b):yv (l,b):=⟨⟨⟨by have:=h.1;simp only;omega,fun x hx=>by have:=h.2.1 x hx;omega⟩,by have:=h.2.2;simp only;omega⟩,by have:=h.1;simp only;omega,fun x hx=>by have:=h.2.1 x hx;omega,by have:=h.2.2;simp only;omega⟩
def zat{c:Bs}(h:(fw c).2.1.1=0):Mo (fw c).2.2 (c.drop (fw c).1.toNat)/\0<=(fw c).1/\(fw c).1<=(c.length:Int):=by
 obtain⟨h1,h2,h3,_⟩:=zq1 h;refine⟨⟨?_,?_,?_⟩,by rw[h2];omega,by rw[h2];omega⟩
 ·unfold fw at h ⊢;rw[qW (by omega)]at h ⊢
  unfold qu at h ⊢;split at h
  ·cases h
  ·rename_i h60;rw[qW h60];unfold tp at h ⊢
   cases hv:qag ([]:List aq).length (hd c.length c 0 []).2 with
   |some i=>rw[hv]at h;cases h
   |none=>simp;omega
 ·obtain⟨q1,q2,q3⟩:=qn3 c.length c 0 [] ⟨wF _,fun x hx=>by cases hx⟩
  unfold fw at h ⊢;rw[qW (by omega)]at h ⊢
  unfold qu at h ⊢;split at h
  ·cases h
  ·rename_i h60;rw[qW h60];unfold tp at h ⊢
   cases hv:qag ([]:List aq).length (hd c.length c 0 []).2 with
   |some i=>rw[hv]at h;cases h
   |none=>
    simp only[List.nil_append];intro y hy;obtain⟨x,hx,rfl⟩:=List.mem_map.1 hy;have:=q3.2 x hx;have hc:=q6g x.2;exact⟨by show x.1.length<=_;omega,by show(oe x.2).length<=_;omega⟩
 ·rw[List.length_drop];omega
def zkl(b:Bs):∀(n:Nat)(r:Bs)(st:Option Bs)(out:List Bs)(M:Nat),r.length<=M->(∀s,st=some s->s.length<=M)->(∀x∈out,x.length<=M)->∀x∈ij b n r st out,x.length<=M:=by
 intro n
 induction n with
 |zero=>intro r st out M _ _ h;exact h|succ n ih=>
  intro r st out M hr hst ho;have hadd:∀r',∀x∈mn st r' out,x.length<=M:=by
   intro r' x hx;unfold mn at hx
   cases st with
   |none=>exact ho x hx|some s=>
    rcases List.mem_append.1 hx with e|e
    ·exact ho x e
    ·rw[List.mem_singleton.1 e];unfold qm5;rw[List.length_take];have:=hst s rfl;omega
  cases r with
  |nil=>
   intro x hx
   cases st with
   |none=>exact ho x hx|some s=>
    rcases List.mem_append.1 hx with e|e
    ·exact ho x e
    ·rw[List.mem_singleton.1 e];exact hst s rfl
  |cons c t=>
   have hn:=qoq c t;simp only[qL]at hr;rw[ij];split
   ·exact ih _ _ _ M (by omega) hst ho
   ·split
    ·exact hadd _
    ·exact ih _ _ _ M (by omega) (fun s hs=>by cases hs;omega) (hadd _)
def q8o{l:List aq}{b:Bs}{x:List aq×List Bs}(h:jw l b=some x)(hm:Mo l b):Mo x.1 []/\(∀c∈x.2,c.length<=12000)/\0<x.2.length:=by
 unfold jw at h;split at h
 ·cases h
 ·rename_i bb hb;split at h
  ·cases h
  ·rename_i hne;split at h
   ·cases h
   ·split at h
    ·cases h
    ·rename_i h4;cases h
     refine⟨⟨by unfold jx;rw[wC];exact hm.1,fun y hy => ?_,by simp⟩,?_,by cases hh:ii b bb with|nil=>exact absurd hh hne|cons=>simp⟩
     ·unfold jx at hy;obtain⟨z,hz,rfl⟩:=List.mem_map.1 hy;have:=hm.2.1 z hz;split
      ·exact⟨this.1,by simp only;omega⟩
      ·exact this
     ·exact zkl bb _ b none [] 12000 hm.2.2 (by simp) (by simp)
def qgw(t:TP):Prop:=∀n d,∀x∈bm n t d,Mo x.1.val.1 x.1.val.2
def q4t{f:List aq}{b:Bs}{l:List TP}(h:Mo f b)(hl:∀t∈l,qgw t):qgw (.node (f,b) l):=by
 intro n d x hx
 cases n with
 |zero=>cases hx
 |succ n=>
  rw[bm]at hx;rcases List.mem_cons.1 hx with e|e
  ·rw[e];exact h
  ·obtain⟨k,hk,hx2⟩:=List.mem_flatMap.1 e;exact hl k hk _ _ _ hx2
abbrev mr:Nat:=1452200
def q71(M:Nat):∀l:List aq,(∀y∈l,y.1.length<=M/\y.2.length<=M)->(l.map kh).sum<=(2*M+2)*l.length
 |[],_=>by simp|x::l,h=>by
  have h1:=h x qH;have:=q71 M l (fun y hy=>h y (qE _ hy))
  rw[List.map_cons,List.sum_cons,qL,Nat.mul_succ];unfold kh at this ⊢;omega
def bkP(f:List aq)(b:Bs):τP.bk (f,b)=((f.map kh).sum+1)+(b.length+1):=by
 have:=qpf b;show((f.map kh).sum+1)+((List.map (Ty.byte.bk:Ty.byte.den->Nat) b).sum+1)=_;rw[this]
def Mo.sz{f:List aq}{b:Bs}(h:Mo f b)(l:List TP):cf (.node (f,b) l)<=mr+(l.map cf).sum:=by
 have e:cf (.node (f,b) l)=((f.map kh).sum+1)+(b.length+1)+(l.map cf).sum+2:=(ue (f,b) l).trans (congrArg (fun z=>z+(l.map cf).sum+2) (bkP f b))
 rw[e];have h1:=q71 12000 f h.2.1;have h2:(2*12000+2)*f.length<=(2*12000+2)*60:=Nat.mul_le_mul_left _ h.1;have:=h.2.2;show _<=1452200+_;omega
def okS(k:Nat)(s:(TP×Nat) ⊕ (Int×Int)):Prop:=match s with|.inl x=>k<x.2/\x.2<=40/\cf x.1<=mr*(x.2-k)/\qgw x.1|.inr e=>e.1≠0
def zap(rec:List aq->Bs->Nat->(TP×Nat) ⊕ (Int×Int))(hr:∀l b k,Mo l b->k<40->okS k (rec l b k))(c:Bs)(k:Nat):okS k (wk rec c k):=by
 unfold wk;by_cases h:(fw c).2.1.1=0
 ·rw[qW (by simpa using h)]
  by_cases h4:40<=k
  ·rw[qX h4];show(2:Int)≠0;decide
  ·rw[qW h4];exact hr _ _ _ (zat h).1 (by omega)
 ·rw[qX h];exact h
def zci(rec:List aq->Bs->Nat->(TP×Nat) ⊕ (Int×Int))(hr:∀l b k,Mo l b->k<40->okS k (rec l b k))(f:List aq)(hf:Mo f [])(k0:Nat):∀(cs:List Bs)(k:Nat)(acc:List TP),k0<k->k<=40->(acc.map cf).sum<=mr*(k-(k0+1))->(∀t∈acc,qgw t)->okS k0 (mb rec f cs k acc)
 |[],k,acc,h1,h2,h3,h4=>by
  rw[mb];refine⟨h1,h2,?_,q4t hf h4⟩;have:=hf.sz acc;have e:mr*(k-k0)=mr*(k-(k0+1))+mr:=by rw[← Nat.mul_succ];congr 1;omega
  show cf (.node (f,[]) acc)<=mr*(k-k0);omega
 |c::cs,k,acc,h1,h2,h3,h4=>by
  rw[mb];have:=zap rec hr c k
  cases hc:wk rec c k with
  |inr e=>rw[hc]at this;exact this|inl x=>
   rw[hc]at this;obtain⟨g1,g2,g3,g4⟩:=this;refine zci rec hr f hf k0 cs x.2 _ (by omega) g2 ?_ ?_
   ·rw[List.map_append,List.sum_append];have e:mr*(x.2-(k0+1))=mr*(k-(k0+1))+mr*(x.2-k):=by rw[← Nat.mul_add];congr 1;omega
    simp only[List.map_cons,List.map_nil,List.sum_cons,List.sum_nil];omega
   ·intro t ht;rcases List.mem_append.1 ht with e|e
    ·exact h4 t e
    ·rw[List.mem_singleton.1 e];exact g4
def qdb:∀(n:Nat)(l:List aq)(b:Bs)(k:Nat),Mo l b->k<40->okS k (eq n l b k)
 |0,l,b,k,hm,hk=>by
  refine⟨by simp only;omega,by simp only;omega,?_,q4t hm (by simp)⟩
  have:=hm.sz [];simp only[List.map_nil,List.sum_nil]at this;show cf (.node (l,b) [])<=mr*(k+1-k);rw[show k+1-k=1 by omega];omega
 |n+1,l,b,k,hm,hk=>by
  rw[eq]
  cases hx:jw l b with
  |none=>exact qdb 0 l b k hm hk|some x=>
   obtain⟨h1,h2,h3⟩:=q8o hx hm;exact zci (eq n) (fun l b k=>qdb n l b k) x.1 h1 k x.2 (k+1) [] (by omega) (by omega) (by simp) (by simp)
def zme{t:TP}{k:Nat}(hk:k<=40)(h1:cf t<=mr*k)(h2:qgw t):gd t:=⟨by
 have:mr*k<=1452200*40:=Nat.mul_le_mul_left _ hk;omega,fun n d x hx=>(h2 n d x hx).smT⟩
def zkk(b:Bs):∀(n:Nat)(r:Bs)(st:Option Bs)(out:List Bs),(ij b n r st out).length<=out.length+r.length+1:=by
 intro n
 induction n with
 |zero=>intro r st out;show out.length<=_;omega|succ n ih=>
  intro r st out
  cases r with
  |nil=>cases st with|none=>show out.length<=_;omega|some s=>show(out++[s]).length<=_;simp
  |cons c t=>
   have hn:=qoq c t;have ha:=q4n st (c::t) out;rw[ij];simp only[qL];split
   ·have:=ih (fj (c::t)) st out;omega
   ·split
    ·omega
    ·have:=ih (fj (c::t)) (some (fj (c::t))) (mn st (c::t) out);omega
def zkh(body b:Bs):(ii body b).length<=body.length+1:=by have:=zkk b (body.length+1) body none [];simpa [ii] using this
def okR(R:qgl)(s:(TP×Nat) ⊕ (Int×Int)):Prop:=match s with|.inl x=>R=(x.1,(true,((x.2:Int),(0,0))))|.inr e=>R.2.1=false/\R.2.2.2=e
def zpm(fu m:Nat)(rs:(Bs->Int->(Int×Int×Int)->Option qgl))(d:Int)(n:Nat)(f:List aq)(cs:List Bs)(hcs:cs.length<=4000000)(hf:Mo f [])
  (hrs:∀c∈cs,∀k:Nat,k<=40->∃R,rs c (af (d+1)) ((k:Int),(0,0))=some R/\okR R (wk (eq n) c k)) :
  ∀(ab aa:List Bs)(k:Nat)(acc:List TP),cs=ab++aa->aa.length<m->k<=40->acc.length<=k ->
  ∃R,yc rs fu m d (cs.length:Int) (ab.length:Int) ((k:Int),(0,0)) cs f acc=some R/\okR R (mb (eq n) f aa k acc):=by
 have hrm:=l7
 induction m with
 |zero=>intro ab aa k acc _ h;omega|succ m ih=>
  intro ab aa k acc hp h hk ha;have ac:cs.length=ab.length+aa.length:=by rw[hp];simp
  rw[yc,qs2]
  cases aa with
  |nil=>
   rw[au (by simp only[qZ]at ac;omega)]
   exact⟨_,rfl,by rw[mb];rfl⟩
  |cons c aa=>
   simp only[qL]at h ac;have hc:cs[((ab.length:Nat):Int).toNat]? = some c:=by rw[hp];exact nh ab c aa
   obtain⟨R,g1,g2⟩:=hrs c (by rw[hp];simp) k hk
   rw[ag,ag,hc,qB,g1,qB]
   rw[mb];have hok:=zap (eq n) (fun l b k=>qdb n l b k) c k
   cases hr:wk (eq n) c k with
   |inr e=>
    rw[hr]at g2;obtain⟨q1,q2⟩:=g2;rw[q1,d5];exact⟨_,rfl,rfl,q2⟩
   |inl x=>
    rw[hr]at g2 hok;have g2:R=(x.1,(true,((x.2:Int),(0,0)))):=g2;subst g2;obtain⟨o1,o2,_,_⟩:=hok;simp only[fk];rw[de,ag,ay _]
    have:=ih (ab++[c]) aa x.2 (acc++[x.1]) (by rw[hp];simp) (by omega) o2 (by simp;omega)
    rw[qM,wD]at this;exact this
def zpl(fu:Nat)(hfu:90000000<=fu):∀(n m:Nat)(l:List aq)(b:Bs)(d:Int)(k:Nat),d+n=8->0<=d->n<=m->Mo l b->k<40 ->
  ∃R,ux (sn fu m) fu b d ((k:Int),(0,0)) l=some R/\okR R (eq n l b k):=by
 intro n
 induction n with
 |zero=>
  intro m l b d k hd h0 hm hmo hk;have hs:=hmo.smT;unfold ux;have hc1:fa l=some l:=by unfold fa;rw[ag (by have:=hmo.1;have:=l7;omega)]
  have hc2:fa b=some b:=by unfold fa;rw[ag (by have:=hmo.2.2;have:=l7;omega)]
  have hin:xz fu l b d=some []:=by
   rw[qxl fu hfu l b d hs]
   cases bnd l with|none=>rfl|some bb=>exact congrArg some (qW (by omega))
  rw[hc1,hc2,hin];simp only[qB];rw[a8,ay _]
  exact⟨_,rfl,rfl⟩
 |succ n ih=>
  intro m l b d k hd h0 hm hmo hk;have hs:=hmo.smT;have hrm:=l7;unfold ux;have hc1:fa l=some l:=by unfold fa;rw[ag (by have:=hmo.1;omega)]
  have hc2:fa b=some b:=by unfold fa;rw[ag (by have:=hmo.2.2;omega)]
  rw[hc1,hc2,qxl fu hfu l b d hs];simp only[qB];rw[eq,ay _]
  unfold jw
  cases hb:bnd l with
  |none=>simp only[];rw[a8];exact⟨_,rfl,rfl⟩|some bb=>
   simp only[];rw[qX (show d<8 by omega)]
   by_cases hc:ii b bb=[]
   ·rw[qX hc,hc,a8];exact⟨_,rfl,rfl⟩
   ·rw[qW hc];have hcl:(ii b bb).length≠0:=by cases hh:ii b bb with|nil=>exact absurd hh hc|cons=>simp
    rw[a7 (by simp;omega)]
    have ht:∃mt,ic l=some mt:=by
     cases ht:ic l with
     |none=>unfold bnd at hb;rw[ht]at hb;cases hb
     |some mt=>exact⟨mt,rfl⟩
    obtain⟨mt,ht⟩:=ht;rw[zi7 fu hfu l (fun x hx=>by have:=hmo.2.1 x hx;omega) (by have:=hmo.1;omega) mt ht,ht,qB]
    simp only[];have hkid:jw l b=if 4000<(gm (jp mt)).length then none else some (jx l (gm (jp mt)),ii b bb):=by
     unfold jw;rw[hb];simp only[];rw[qW hc,ht]
    by_cases h4:4000<(gm (jp mt)).length
    ·rw[qX h4,qX h4,d5];exact⟨_,rfl,rfl⟩
    ·rw[qW h4]at hkid;rw[qW h4,qW h4,de];obtain⟨q1,q2,q3⟩:=q8o hkid hmo;have hcon:=zkh b bb;have hb12:=hmo.2.2;have:=zpm fu fu (sn fu m) d n (jx l (gm (jp mt))) (ii b bb) (by omega) q1 (by
      intro c hc' k' hk';obtain⟨m',rfl⟩:∃m',m=m'+1:=⟨m-1,by omega⟩
      rw[sn,qlb,zq2 fu hfu c];simp only[qB,ip];unfold wk;by_cases hr:(fw c).2.1.1=0
      ·rw[a7 (by simpa using hr),qW (by simpa using hr)]
       obtain⟨p1,p2,p3⟩:=zat hr;by_cases h40:40<=k'
       ·rw[qX h40,a8 (by simp;omega)]
        exact⟨_,rfl,rfl,rfl⟩
       ·rw[qW h40,a7 (by simp;omega),ag ⟨p2,p3⟩]
        have hw:af (d+1)=d+1:=by rw[show d=((d.toNat:Nat):Int) by omega];exact ay _
        obtain⟨R,r1,r2⟩:=ih m' (fw c).2.2 (c.drop (fw c).1.toNat) (af (d+1)) k' (by rw[hw];omega) (by rw[hw];omega) (by omega) p1 (by omega)
        rw[r1,qB];refine⟨_,rfl,?_⟩;rw[fk];exact r2
      ·rw[a8 (by simpa using hr),qX hr]
       exact⟨_,rfl,rfl,rfl⟩) [] (ii b bb) (k+1) [] rfl (by omega) (by omega) (by simp)
     exact this
def zpk(fu:Nat):qla fu=fun l b d x=>ux (sn fu fu) fu b d x l:=by
 have hp:∀n,qfn fu n=yc (sn fu fu) fu n:=by
  intro n
  induction n with|zero=>rfl|succ n ih=>rw[qfn,yc,ih];rfl
 funext l b d x;unfold qla ux;rw[hp]

def dn(fu:Nat)(m:List aq×Bs):TP×(Int×Int):=if(ft m).1≠0 then(emT,ft m) else match eq 8 m.1 m.2 0 with|.inr e=>(emT,e)|.inl x=>if(kv fu x.1).1≠0 then(emT,((kv fu x.1).1,-9)) else(x.1,(0,0))
def qok{m:List aq×Bs}(h:(ft m).1=0):Mo m.1 m.2:=by
 obtain⟨_,h1,h2,h3,_⟩:=qh0 h;refine⟨h1,fun y hy => ?_,by omega⟩
 obtain⟨g1,g2,_,_⟩:=qc2 (h2 y hy);omega
def qzf{l:List aq}{b:Bs}{x:TP×Nat}(hm:Mo l b)(h:eq 8 l b 0 = .inl x):gd x.1:=by
 have:=qdb 8 l b 0 hm (by omega)
 rw[h]at this;obtain⟨_,h2,h3,h4⟩:=this;exact zme h2 h3 h4
def zsq(fu:Nat)(hfu:90000000<=fu)(m:List aq×Bs)(hs:ml m):qky fu m=some (dn fu m):=by
 unfold qky dn;rw[zt9 fu hfu m hs,qB,ip,qB,dt];by_cases h:(ft m).1=0
 ·rw[qW (by simpa using h),qW (by simpa using h)]
  have hm:=qok h;obtain⟨R,g1,g2⟩:=zpl fu hfu 8 fu m.1 m.2 0 0 (by omega) (by omega) (by omega) hm (by omega)
  rw[zpk];show(ux (sn fu fu) fu m.2 0 (((0:Nat):Int),(0,0)) m.1).bind _=_;rw[g1,qB]
  cases hx:eq 8 m.1 m.2 0 with
  |inr e=>
   rw[hx]at g2;obtain⟨q1,q2⟩:=g2;rw[q1,d5,q2]
  |inl x=>
   rw[hx]at g2;have g2:R=(x.1,(true,((x.2:Int),(0,0)))):=g2;subst g2;have hg:=qzf hm hx;simp only[fk];rw[de,zqf fu hfu x.1 hg,qB,ip,qB,dt];by_cases hp:(kv fu x.1).1≠0
   ·rw[qX hp,qX hp];rfl
   ·rw[qW hp,qW hp];rfl
 ·rw[qX h,qX h]
def zso(fu:Nat)(m:List aq×Bs):gd (dn fu m).1:=by
 unfold dn;split
 ·exact qxh
 ·rename_i h0
  cases hx:eq 8 m.1 m.2 0 with
  |inr e=>exact qxh|inl x=>
   simp only;split
   ·exact qxh
   ·exact qzf (qok (by simpa using h0)) hx
def qy9:∀(L:List (TP×Int))(i:Nat),(∀x∈L,je x.1 x.2=0)->gu L i=none
 |[],_,_=>rfl|x::L,i,h=>by
  rw[gu,qW (by simpa using h x qH)]
  exact qy9 L (i+1) fun y hy=>h y (qE _ hy)
def zbw:∀(L:List (TP×Int))(i:Nat),gu L i=none->∀x∈L,je x.1 x.2=0
 |[],_,_,x,hx=>by cases hx
 |y::L,i,h,x,hx=>by
  rw[gu]at h;split at h
  ·cases h
  ·rename_i hc;rcases List.mem_cons.1 hx with e|e
   ·rw[e];omega
   ·exact zbw L _ h x e
def zac{fu:Nat}{t:TP}(h:(kv fu t).1=0):(bm fu t 0).length<=40/\(∀x∈bm fu t 0,je x.1 x.2=0)/\∀x∈bm fu t 0,x.2<=8:=by
 unfold kv at h;split at h
 ·cases h
 ·rename_i h1;split at h
  ·cases h
  ·rename_i h2;have hn:gu (bm fu t 0) 0=none:=by
    cases hr:gu (bm fu t 0) 0 with|none=>rfl|some f=>rw[hr]at h;exact absurd h (zbv _ _ f hr).1
   refine⟨by omega,fun x hx=>zbw _ _ hn x hx,fun x hx => ?_⟩
   have:¬(8<x.2):=fun q=>h2 (List.any_eq_true.2 ⟨x,hx,by simpa using q⟩)
   omega
def qyp{t:TP}{d:Int}(h:je t d=0):t.val.1.length<=60/\(∀x∈t.val.1,x.1.length<=60/\x.2.length<=4000)/\(t.kids.length=0->t.val.2.length<=12000):=by
 unfold je at h;split at h
 ·rename_i q;exact absurd h q
 ·rename_i q;obtain⟨_,h1,h2⟩:=qhe (l:=t.val.1) (by simpa using q)
  refine⟨h1,fun x hx=>⟨(qc2 (h2 x hx)).1,(qc2 (h2 x hx)).2.1⟩,fun h0 => ?_⟩
  rw[qW (by omega)]at h
  split at h
  ·cases h
  ·omega
def gx(x:aq)(l l':List aq):Prop:=∃ab aa,l=ab++aa/\l'=ab++x::aa
def gx.len{x:aq}{l l':List aq}(h:gx x l l'):l'.length=l.length+1:=by
 obtain⟨p,s,rfl,rfl⟩:=h;simp;omega
def gx.mem{x y:aq}{l l':List aq}(h:gx x l l')(hy:y∈l'):y=x\/y∈l:=by
 obtain⟨p,s,rfl,rfl⟩:=h;simp at hy ⊢;rcases hy with q|q|q
 ·exact .inr (.inl q)
 ·exact .inl q
 ·exact .inr (.inr q)
def gx.self{x:aq}{l l':List aq}(h:gx x l l'):x∈l':=by
 obtain⟨p,s,rfl,rfl⟩:=h;simp
def qz0{x:aq}{l l':List aq}(h:gx x l l'){N:Bs}(hx:lk x.1 N=false):b9 l' N=b9 l N:=by
 obtain⟨p,s,rfl,rfl⟩:=h;unfold b9;rw[List.filter_append,List.filter_append,List.filter_cons,qW (by show ¬lk x.1 N=true;rw[hx];simp)]
section
variable{x:aq}{l l':List aq}(h:gx x l l')(hx:lk x.1 bp=false)
include h hx
def qzx:ic l'=ic l:=by unfold ic;rw[qz0 h hx]
def q5j:bnd l'=bnd l:=by unfold bnd;rw[qzx h hx]
def zrj(t:Bs):gx x (jx l t) (jx l' t):=by
 obtain⟨p,s,rfl,rfl⟩:=h;exact⟨jx p t,jx s t,by unfold jx;rw[List.map_append],by unfold jx;rw[List.map_append,List.map_cons,qW (by rw[hx];simp)]⟩
def znj(b:Bs):(jw l b=none/\jw l' b=none)\/∃f f' cs,jw l b=some (f,cs)/\jw l' b=some (f',cs)/\gx x f f':=by
 unfold jw;rw[q5j h hx,qzx h hx]
 cases bnd l with
 |none=>exact .inl ⟨rfl,rfl⟩|some bb=>
  simp only;by_cases hc:ii b bb=[]
  ·simp only[qX hc];exact .inl ⟨trivial,trivial⟩
  ·simp only[qW hc]
   cases ic l with
   |none=>exact .inl ⟨rfl,rfl⟩|some m=>
    simp only;by_cases h4:4000<(gm (jp m)).length
    ·simp only[qX h4];exact .inl ⟨trivial,trivial⟩
    ·simp only[qW h4];exact .inr ⟨_,_,_,rfl,rfl,zrj h hx _⟩
def zuj(b:Bs):qai l' b=qai l b:=by unfold qai;rw[qzx h hx,qz0 h hx]
end
def zrk(l:List aq)(t:Bs):(jx l t).length=l.length:=by unfold jx;simp
def znk{l:List aq}{b:Bs}{f:List aq}{cs:List Bs}(h:jw l b=some (f,cs)):f.length=l.length:=by
 unfold jw at h;split at h
 ·cases h
 ·split at h
  ·cases h
  ·split at h
   ·cases h
   ·split at h
    ·cases h
    ·cases h;exact zrk _ _
def zch(rec:List aq->Bs->Nat->(TP×Nat) ⊕ (Int×Int))(f f':List aq):∀(cs:List Bs)(k:Nat)(acc:List TP),match mb rec f cs k acc with|.inr e=>mb rec f' cs k acc = .inr e|.inl t=>∃ks,t.1 = .node (f,[]) ks/\mb rec f' cs k acc = .inl (.node (f',[]) ks,t.2)
 |[],k,acc=>⟨acc,rfl,rfl⟩|c::cs,k,acc=>by
  rw[mb,mb]
  cases wk rec c k with|inr e=>rfl|inl y=>exact zch rec f f' cs y.2 (acc++[y.1])
def zsm{x:aq}{l l':List aq}(h:gx x l l')(hx:lk x.1 bp=false)(n:Nat)(b:Bs)(k:Nat):match eq n l b k with
  |.inr e=>eq n l' b k = .inr e|.inl t=>∃ks g g' b',t.1 = .node (g,b') ks/\gx x g g'/\g'.length=l'.length/\eq n l' b k = .inl (.node (g',b') ks,t.2):=by
 cases n with
 |zero=>exact⟨[],l,l',b,rfl,h,rfl,rfl⟩|succ n=>
  rw[eq,eq];rcases znj h hx b with⟨h1,h2⟩|⟨f,f',cs,h1,h2,h3⟩
  ·rw[h1,h2];exact⟨[],l,l',b,rfl,h,rfl,rfl⟩
  ·have hl:=znk h2;rw[h1,h2];have:=zch (eq n) f f' cs (k+1) [];simp only at this ⊢
   cases hs:mb (eq n) f cs (k+1) [] with
   |inr e=>rw[hs]at this;exact this|inl t=>
    rw[hs]at this;obtain⟨ks,t1,t2⟩:=this;exact⟨ks,f,f',[],t1,h3,hl,t2⟩
def q99(g:List aq)(b:Bs)(ks:List TP)(d:Int):je (.node (g,b) ks) d=if(gz g).1≠0 then(gz g).1 else if 0<ks.length then qai g b else if 12000<b.length then 1
 else if bs 0 b≠0 then bs 0 b else match bnd g with|none=>0|some c=>if d<8/\0<(ii b c).length then 5 else 0:=rfl
def zpo{x:aq}{g g':List aq}(h:gx x g g')(hx:lk x.1 bp=false)(ho:ly x)(hl:g'.length<=60)(b:Bs)(ks:List TP)(d:Int)(hp:je (.node (g,b) ks) d=0):je (.node (g',b) ks) d=0:=by
 rw[q99]at hp ⊢;have h1:(gz g).1=0:=by
  split at hp
  ·rename_i q;exact absurd hp q
  ·rename_i q;simpa using q
 obtain⟨_,_,h2⟩:=qhe h1;have h3:gz g'=(0,0):=by
  unfold gz;rw[qW (by omega),qor 0 g' (fun y hy=>by rcases h.mem hy with rfl|q;exact ho;exact h2 y q)]
 rw[qW (by rw[h1];simp)]at hp
 rw[qW (by rw[h3];simp),zuj h hx,q5j h hx]
 exact hp
def zsr{fu:Nat}(hfu:0<fu){x:aq}{l l':List aq}{b:Bs}(h:gx x l l')(hx:lk x.1 bp=false)(hm:(dn fu (l,b)).2.1=0)(hm':(ft (l',b)).1=0) :
  ∃ks g g' b',(dn fu (l,b)).1 = .node (g,b') ks/\gx x g g'/\dn fu (l',b)=(.node (g',b') ks,(0,0)):=by
 obtain⟨_,k1,k2,_,_⟩:=qh0 hm';unfold dn at hm ⊢;by_cases h0:(ft (l,b)).1≠0
 ·rw[qX h0]at hm;exact absurd hm h0
 ·rw[qW h0]at hm;rw[qW h0,qW (by rw[hm'];simp)]
  have hmo:=qok (by simpa using h0)
  have hs:=zsm h hx 8 b 0;simp only at hm ⊢
  cases hx8:eq 8 l b 0 with
  |inr e=>
   rw[hx8]at hm;have hok:=qdb 8 l b 0 hmo (by omega)
   rw[hx8]at hok;exact absurd hm hok
  |inl t=>
   rw[hx8]at hm hs;obtain⟨ks,g,g',b',t1,t2,t3,t4⟩:=hs;have hgd:=qzf hmo hx8;rw[t4];simp only at hm ⊢;by_cases hp:(kv fu t.1).1≠0
   ·rw[qX hp]at hm;exact absurd hm hp
   ·rw[qW hp];have hp:(kv fu t.1).1=0:=by simpa using hp
    obtain⟨q1,q2,q3⟩:=zac hp;have hf:∀v,bm fu (.node v ks) 0=((.node v ks,0):TP×Int)::ks.flatMap fun k=>bm (fu-1) k 1:=fun v=>by
     obtain⟨n,rfl⟩:∃n,fu=n+1:=⟨fu-1,by omega⟩
     rw[bm];rfl
    rw[t1]at q1 q2 q3;rw[hf]at q1 q2 q3;have hz:kv fu (.node (g',b') ks)=(0,0):=by
     unfold kv;rw[hf,qW (by simpa using q1),qW,qy9]
     ·rfl
     ·intro y hy;rcases List.mem_cons.1 hy with rfl|hy
      ·exact zpo t2 hx (k2 x h.self) (by rw[t3];exact k1) b' ks 0 (q2 _ qH)
      ·exact(q2 y (qE _ hy))
     ·simp only[List.any_eq_true,decide_eq_true_eq,not_exists,not_and];intro y hy;rcases List.mem_cons.1 hy with rfl|hy
      ·show ¬(8:Int)<0;omega
      ·have:=q3 y (qE _ hy);omega
    rw[hz,qW (by simp)]
    exact⟨ks,g,g',b',t1,t2,rfl⟩
def zsp{fu:Nat}{m:List aq×Bs}(h:(dn fu m).2.1=0):(kv fu (dn fu m).1).1=0:=by
 unfold dn at h ⊢;split
 ·rename_i h0;rw[qX h0]at h;exact absurd h h0
 ·rename_i h0;rw[qW h0]at h
  cases hx:eq 8 m.1 m.2 0 with
  |inr e=>
   rw[hx]at h;have hok:=qdb 8 m.1 m.2 0 (qok (by simpa using h0)) (by omega)
   rw[hx]at hok;exact absurd h hok
  |inl x=>
   rw[hx]at h;simp only at h ⊢;split
   ·rename_i h1;rw[qX h1]at h;exact absurd h h1
   ·rename_i h1;simpa using h1
def sq:Bool->Bs->Bs|_,[]=>[]|p,c::r=>if bl c then(if p then sq true r else 32::sq true r) else c::sq false r
def wy(l:Bs):Bs:=if l.getLast? = some 32 then l.dropLast else l
def lb(s:Bs):Bs:=wy (sq false s)
def qpd:∀(p:Bool)(s:Bs),(sq p s).length<=s.length
 |_,[]=>wF _|p,c::r=>by
  unfold sq;split
  ·split
   ·have:=qpd true r;simp only[qL];omega
   ·have:=qpd true r;simp only[qL];omega
  ·have:=qpd false r;simp only[qL];omega
def ztu(l:Bs):(wy l).length<=l.length:=by unfold wy;split<;>simp
def qih(s:Bs):(lb s).length<=s.length:=Nat.le_trans (ztu _) (qpd _ _)
def ztv(t:Bs)(c:UInt8):wy (t++[c])=if c=32 then t else t++[c]:=by
 unfold wy;simp
def q8v(l:Bs):l=[]\/∃t c,l=t++[c]:=by
 rcases List.eq_nil_or_concat l with h|⟨t,c,h⟩
 ·exact .inl h
 ·exact .inr ⟨t,c,by rw[h,List.concat_eq_append]⟩
def zji{c:UInt8}(h:bl c=false):c≠32:=by rintro rfl;cases h
def qh3:Bs->Bool|[]=>true|c::r => !(c==13&&r.head? == some 10)&&qh3 r
def cv:Bs->Bs×Option Bs|[]=>([],none)|c::r=>if c=13/\r.head? = some 10 then([],some r.tail) else(c::(cv r).1,(cv r).2)
def qm7:∀(s r:Bs),(cv s).2=some r->r.length+2+(cv s).1.length=s.length
 |[],_,h=>by cases h
 |c::s,r,h=>by
  unfold cv at h ⊢;split at h
  ·rename_i hc;rw[qX hc];simp only[qI]at h;subst h
   cases s with
   |nil=>cases hc.2
   |cons d s=>simp
  ·rename_i hc;rw[qW hc];have:=qm7 s r h;simp only[qL];omega
def q6e:∀(s:Bs),(cv s).2=none->(cv s).1=s/\qh3 s=true
 |[],_=>⟨rfl,rfl⟩|c::s,h=>by
  unfold cv at h ⊢;split at h
  ·cases h
  ·rename_i hc;rw[qW hc];obtain⟨h1,h2⟩:=q6e s h;refine⟨by rw[h1],?_⟩
   simp only[qh3,h2,Bool.and_true,Bool.not_eq_true',Bool.and_eq_false_iff,beq_eq_false_iff_ne];by_cases h13:c=13
   ·exact .inr fun k=>hc ⟨h13,k⟩
   ·exact .inl h13
def q6f:∀(s r:Bs),(cv s).2=some r->s=(cv s).1++[13,10]++r/\qh3 ((cv s).1++[13])=true
 |[],_,h=>by cases h
 |c::s,r,h=>by
  unfold cv at h ⊢;split at h
  ·rename_i hc;rw[qX hc];simp only[qI]at h;subst h
   cases s with
   |nil=>cases hc.2
   |cons d s=>
    have:d=10:=by simpa using hc.2
    rw[hc.1,this];exact⟨rfl,rfl⟩
  ·rename_i hc;rw[qW hc];obtain⟨h1,h2⟩:=q6f s r h;refine⟨congrArg (List.cons c) h1,?_⟩
   simp only[wK,qh3,h2,Bool.and_true,Bool.not_eq_true',Bool.and_eq_false_iff,beq_eq_false_iff_ne];by_cases h13:c=13
   ·refine .inr fun k=>hc ⟨h13,?_⟩
    rw[h1]
    cases hq:(cv s).1 with|nil=>rw[hq]at k;simp at k|cons d q=>rw[hq]at k;simpa using k
   ·exact .inl h13
def qz:Nat->Bs->List Bs
 |0,_=>[]|n+1,s=>match(cv s).2 with|none=>[s]|some r=>(cv s).1::qz n r
def ub:Nat->Bs|0=>[]|n+1=>13::10::ub n
def o9:List Bs->Nat->Bs|[],_=>[]|l::r,e=>if lb l=[] then o9 r (e+1) else ub e++lb l++[13,10]++o9 r 0
def oc(b:Bs):Bs:=o9 (qz (b.length+1) b) 0
def q8z:∀(n m:Nat)(s:Bs),s.length<n->s.length<m->qz n s=qz m s
 |0,_,_,h,_=>by omega|_,0,_,_,h=>by omega|n+1,m+1,s,h1,h2=>by
  unfold qz;split
  ·rfl
  ·rename_i r hr;have:=qm7 s r hr;rw[q8z n m r (by omega) (by omega)]
def qv4:∀(ls:List Bs)(e:Nat),(o9 ls e).length<=2*e+(ls.map fun l=>l.length+2).sum
 |[],e=>by simp[o9]|l::r,e=>by
  unfold o9;have hr2:∀k,(ub k).length=2*k:=by
   intro k
   induction k with|zero=>rfl|succ k ih=>simp only[ub,qL,ih];omega
  split
  ·have:=qv4 r (e+1);simp only[List.map_cons,List.sum_cons];omega
  ·have:=qv4 r 0;have h3:=qih l;simp only[List.map_cons,List.sum_cons,qM,hr2,qL,qZ];omega
abbrev p7:Bs:=[82,101,99,101,105,118,101,100]
abbrev da:Bs:=[67,111,110,116,101,110,116,45,84,114,97,110,115,102,101,114,45,69,110,99,111,100,105,110,103]
abbrev uk:Type:=Bs->Bs->(Int×Int)×Bs
def vp(x:aq):Bool := !lk x.1 p7 && !lk x.1 da
def jt(dec:uk):List Bs->Bs->Bs|[],b=>(dec b [55,98,105,116]).2|v::vs,b=>if(dec b v).1.1≠18 then(dec b v).2 else jt dec vs b
def tn(x:aq):Bs:=x.1.map lo++[58]++lb x.2++[13,10]
def ffl(l:List aq):Bs:=(l.filter vp).flatMap tn
def f9(dec:uk)(q:TP):Bs:=if q.kids.length=0 then oc (jt dec (b9 q.val.1 da) q.val.2) else[]
def ja(dec:uk)(q:TP):Bs:=(Lib.decDigits q.kids.length++[32]++Lib.decDigits (ffl q.val.1).length++[32]++Lib.decDigits (f9 dec q).length++[13,10])++ffl q.val.1++f9 dec q
def vk(dec:uk)(n:Nat)(t:TP):Bs:=(bm n t 0).flatMap fun x=>ja dec x.1
def zly{x:aq}{l l':List aq}(h:gx x l l')(hx:vp x=false):ffl l'=ffl l:=by
 obtain⟨p,s,rfl,rfl⟩:=h;unfold ffl;rw[List.filter_append,List.filter_append,List.filter_cons,qW (by rw[hx];simp)]
def zl8(dec:uk){x:aq}{g g':List aq}(h:gx x g g')(hx:lk x.1 da=false)(hk:vp x=false)(b:Bs)(ks:List TP):ja dec (.node (g',b) ks)=ja dec (.node (g,b) ks):=by
 have e:f9 dec (.node (g',b) ks)=f9 dec (.node (g,b) ks):=by
  show(if ks.length=0 then oc (jt dec (b9 g' da) b) else[])=if ks.length=0 then oc (jt dec (b9 g da) b) else[]
  rw[qz0 h hx]
 unfold ja;rw[e];show(Lib.decDigits ks.length++[32]++Lib.decDigits (ffl g').length++[32]++_++_)++ffl g'++_=(Lib.decDigits ks.length++[32]++Lib.decDigits (ffl g).length++[32]++_++_)++ffl g++_;rw[zly h hk]
def zma(dec:uk){fu:Nat}(hfu:0<fu){x:aq}{g g':List aq}(h:gx x g g')(hx:lk x.1 da=false)(hk:vp x=false)(b:Bs)(ks:List TP):vk dec fu (.node (g',b) ks)=vk dec fu (.node (g,b) ks):=by
 obtain⟨n,rfl⟩:∃n,fu=n+1:=⟨fu-1,by omega⟩
 unfold vk;rw[bm,bm,List.flatMap_cons,List.flatMap_cons];simp only;rw[zl8 dec h hx hk];rfl
def zjn{f:List aq}(h:b9 f bp=[]):bnd f=none:=by unfold bnd ic;rw[h]
def zcm{fu:Nat}(hfu:0<fu){f:List aq}{b:Bs}(hm:(ft (f,b)).1=0)(h:b9 f bp=[]):dn fu (f,b)=(.node (f,b) [],(0,0)):=by
 obtain⟨_,k1,k2,k3,k4⟩:=qh0 hm;simp only at k1 k2 k3 k4;have hb:=zjn h;have hs:eq 8 f b 0 = .inl (.node (f,b) [],1):=by
  rw[eq];have:jw f b=none:=by unfold jw;rw[hb]
  rw[this]
 obtain⟨n,rfl⟩:∃n,fu=n+1:=⟨fu-1,by omega⟩
 have hp:kv (n+1) (.node (f,b) [])=(0,0):=by
  unfold kv;have hf:bm (n+1) (.node (f,b) []) 0=[((.node (f,b) [],0):TP×Int)]:=by rw[bm];rfl
  rw[hf,qW (by simp),qW (by simp),qy9]
  ·rfl
  ·intro y hy;rw[List.mem_singleton.1 hy,q99,show gz f=(0,0) by unfold gz;rw[qW (by omega),qor 0 f k2],qW (by simp),qW (by simp),qW (by omega),k4,qW (by simp),hb]
 unfold dn;rw[qW (by rw[hm];simp)]
 simp only;rw[hs];simp only;rw[hp,qW (by simp)]
def q7x(dec:uk){fu:Nat}(hfu:0<fu)(v:List aq×Bs):vk dec fu (.node v [])=ja dec (.node v []):=by
 obtain⟨n,rfl⟩:∃n,fu=n+1:=⟨fu-1,by omega⟩
 unfold vk;rw[bm];simp[Tree.kids]
abbrev od:Bs:=[99,111,110,116,101,110,116,45,116,114,97,110,115,102,101,114,45,101,110,99,111,100,105,110,103]
abbrev eg:aq:=([65],[98])
def znx(dec:uk)(a c x y b:Bs)(h1:dec x a=((0,0),b))(h2:dec y c=((0,0),b)):ja dec (.node ([(da,a),eg],x) [])=ja dec (.node ([eg,(od,c)],y) []):=by
 have e1:b9 [(da,a),eg] da=[a]:=rfl;have e2:b9 [eg,(od,c)] da=[c]:=rfl;have f1:ffl [(da,a),eg]=tn eg:=rfl;have f2:ffl [eg,(od,c)]=tn eg:=rfl;have t1:f9 dec (.node ([(da,a),eg],x) [])=oc b:=by
  show oc (jt dec (b9 [(da,a),eg] da) x)=_;rw[e1,jt,h1];rfl
 have t2:f9 dec (.node ([eg,(od,c)],y) [])=oc b:=by
  show oc (jt dec (b9 [eg,(od,c)] da) y)=_;rw[e2,jt,h2];rfl
 unfold ja;rw[t1,t2];show(Lib.decDigits 0++[32]++Lib.decDigits (ffl [(da,a),eg]).length++[32]++_++_)++ffl [(da,a),eg]++_=(Lib.decDigits 0++[32]++Lib.decDigits (ffl [eg,(od,c)]).length++[32]++_++_)++ffl [eg,(od,c)]++_;rw[f1,f2]
def znv(a:Bs):b9 [(da,a),eg] bp=[]:=rfl
def znw(c:Bs):b9 [eg,(od,c)] bp=[]:=rfl
def zjj(c:UInt8):lj c=some (bl c):=by unfold lj bl;cases c==32<;>rfl
def ztr(m:Bs)(hb:m.length<1000000000):qlz m [32]=some (wy m):=by
 unfold qlz qr3 xt;rcases q8v m with rfl|⟨t,c,rfl⟩
 ·rfl
 ·simp only[qM,wD]at hb;rw[ztv];have e:af (((t++[c]).length:Int)-(([32]:Bs).length:Int))=(t.length:Int):=by
   rw[cm (by simp<;>omega) (by simp<;>omega)];simp
  have g1:(1:Int)<=(t.length:Int)+1:=by omega
  have g2:(t.length:Int)<=(t.length:Int)+1:=by omega
  rw[e];by_cases hc:c=32
  ·subst hc;simp[g1,g2]
  ·have hcb:(c==32)=false:=beq_false_of_ne hc;simp[hc,g1,g2,hcb]
def zss(fu n:Nat):∀(ab aa out:Bs)(p:Bool),aa.length<n->ab.length+aa.length<100000000->out.length+aa.length<1000000000->(p=true↔out.getLast? = some 32) ->
  xn fu n (ab++aa) ((ab.length+aa.length:Nat):Int) (ab.length:Int) out=some (wy (out++sq p aa)):=by
 induction n with
 |zero=>intro _ _ _ _ h;omega|succ n ih=>
  intro ab aa out p h hb ho hp
  cases aa with
  |nil=>
   simp only[xn,qkd];rw[au,ztr out (by simp at ho;omega)]
   simp[sq]
  |cons c r=>
   simp only[qL]at h hb ho;have nx:af ((ab.length:Int)+1)=((ab.length+1:Nat):Int):=ay _
   have ih':=fun(o:Bs)(q:Bool)(h1:o.length<=out.length+1)(h2:q=true↔o.getLast? = some 32)=>ih (ab++[c]) r o q (by omega) (by simp;omega) (by omega) h2
   simp only[qM,wD,qS,wM]at ih';have e:((ab.length+(c::r).length:Nat):Int)=((ab.length+1+r.length:Nat):Int):=by simp;omega
   have rm:∀d:UInt8,(out++[d]).length<=ax:=fun d=>by simp[ax];omega
   simp only[xn,qkd];rw[e,ag,bt,qB,zjj,qB,nx]
   unfold sq;cases hbl:bl c
   ·simp only[qF,wJ,if_false];rw[ag (rm c),ih' (out++[c]) false (by simp) (by simp[zji hbl])]
    simp
   ·simp only[qT,if_true];have app:xn fu n (ab++c::r) ((ab.length+1+r.length:Nat):Int) ((ab.length+1:Nat):Int) (out++[32])=some (wy (out++32::sq true r)):=by
     rw[ih' (out++[32]) true (by simp) (by simp)];simp
    rcases q8v out with rfl|⟨t,d,rfl⟩
    ·have hp0:p=false:=by cases p;rfl;simp at hp
     subst hp0;rw[au,ag (rm 32),app];simp
    ·have w1:af (((t++[d]).length:Int)-1)=(t.length:Int):=by
      rw[kp];exact lg _ (by simp at ho;omega)
     rw[ag (by simp<;>omega),w1,ag,nh,qB,kg]
     have hd:(p=true)↔d=32:=by rw[hp];simp
     by_cases hd32:d=32
     ·have hpt:p=true:=hd.2 hd32;rw[qX hd32,ih' (t++[d]) true (by simp) (by simp[hd32]),qX hpt]
     ·have hpf:¬p=true:=fun q=>hd32 (hd.1 q)
      rw[qW hd32,ag (rm 32),app,qW hpf]
def zcn(fu:Nat)(s:Bs)(h:s.length<fu:=by omega)(hb:s.length<100000000:=by omega):qen fu s=some (lb s):=by
 have:=zss fu fu [] s [] false h (by simpa using hb) (by simp;omega) (by simp)
 simpa [qen,lb] using this
def q8e:∀s:Bs,Lib.index s [13,10]=match(cv s).2 with|none => -1|some _=>((cv s).1.length:Int)
 |[]=>rfl|c::s=>by
  unfold Lib.index cv;by_cases h:c=13/\s.head? = some 10
  ·rw[qX h];obtain⟨rfl,h2⟩:=h
   cases s with
   |nil=>cases h2
   |cons d s=>
    have:d=10:=by simpa using h2
    subst this;rfl
  ·rw[qW h];have hp:List.isPrefixOf [13,10] (c::s)=false:=by
    cases s with
    |nil=>simp[List.isPrefixOf]|cons d s=>
     simp only[List.isPrefixOf,Bool.and_true,Bool.and_eq_false_iff,beq_eq_false_iff_ne];by_cases h13:c=13
     ·exact .inr fun e=>h ⟨h13,by rw[← e];rfl⟩
     ·exact .inl fun e=>h13 e.symm
   rw[hp,q8e s]
   cases hq:(cv s).2 with
   |none=>simp|some r=>
    simp only[wJ,if_false];rw[qW (by simp),qL];omega
def zc2:∀s:Bs,s.take (cv s).1.length=(cv s).1
 |[]=>rfl|c::s=>by
  unfold cv;split
  ·rfl
  ·simp[zc2 s]
def q6v:∀(s r:Bs),(cv s).2=some r->s.drop ((cv s).1.length+2)=r
 |[],_,h=>by cases h
 |c::s,r,h=>by
  unfold cv at h ⊢;split at h
  ·rename_i hc;rw[qX hc];simp only[qI]at h;subst h;simp
  ·rename_i hc;rw[qW hc];have:=q6v s r h;simpa [Nat.add_right_comm] using this
def qib:∀k,(ub k).length=2*k|0=>rfl|k+1=>by simp only[ub,qL,qib k];omega
def za4:∀k,Lib.repeatL [13,10] k=ub k|0=>rfl|k+1=>by rw[Lib.repeatL,za4 k];rfl
def zbj(fu:Nat)(l out:Bs)(e:Nat)(h:l.length<fu:=by omega)(hl:l.length<100000000:=by omega)(he:e<100000000:=by omega)(ho:out.length<100000000:=by omega) :
  qa2 fu l (e:Int) out=some (if lb l=[] then(((e+1:Nat):Int),out) else((0:Int),out++(ub e++lb l++[13,10]))):=by
 have hz:=qih l;unfold qa2;rw[zcn fu l h hl,qB];by_cases h0:lb l=[]
 ·rw[qX h0,h0,ay _];rfl
 ·rw[qW h0];have hb:(lb l==([]:Bs))=false:=by simpa using h0
  rw[hb,qF];unfold qbr;rw[ag (by simp only[qL,qZ];omega),qB,qY,za4]
  rw[ag (by rw[qib];simp only[bc];omega),ag (by rw[qM,qib];simp only[bc,qL,qZ];omega),
   ag (by simp only[qM,qib,ax,qL,qZ];omega)]
def zr7(fu n:Nat):∀(s out:Bs)(e:Nat),s.length<n->s.length<fu->out.length+2*e+3*s.length<10000000 ->
  ∃m2 e',qeh fu n [13,10] s 0 (e:Int) out=some ([13,10],(m2,(0,(e',out++o9 (qz n s) e)))):=by
 induction n with
 |zero=>intro s _ _ h;omega|succ n ih=>
  intro s out e h hf hb;simp only[qeh,qrl];unfold qd;rw[ag (by simp only[qL,qZ,maxLen];omega),qB,q8e]
  unfold qz
  cases hc:(cv s).2 with
  |none=>
   simp only;rw[ag,ag]
   simp only[qY,Int.toNat_zero,Nat.sub_zero,List.drop_zero,List.take_length];rw[zbj fu s out e,qB]
   refine⟨s,if lb s=[] then((e+1:Nat):Int) else 0,?_⟩
   by_cases h0:lb s=[]
   ·simp[o9,h0]
   ·simp[o9,h0]
  |some r=>
   have hl:=qm7 s r hc;obtain⟨hs,_⟩:=q6f s r hc;simp only;have w1:af (((cv s).1.length:Int)+0)=((cv s).1.length:Int):=by rw[cm];omega
   have w2:af (((cv s).1.length:Int)+(([13,10]:Bs).length:Int))=(((cv s).1.length+2:Nat):Int):=by
    rw[cm (by simp only[qL,qZ];omega) (by simp only[qL,qZ];omega)];simp only[qL,qZ];omega
   rw[au,w1,ag]
   have tk:List.take ((cv s).1.length:Int).toNat s=(cv s).1:=by rw[qY,zc2]
   rw[tk,ag]
   simp only[qY,Int.toNat_zero,Nat.sub_zero,List.drop_zero,List.take_length];rw[zbj fu (cv s).1 out e,qB,w2,ag]
   have dr:List.drop (((cv s).1.length+2:Nat):Int).toNat s=r:=by rw[qY,q6v s r hc]
   rw[dr];have hz:=qih (cv s).1;by_cases h0:lb (cv s).1=[]
   ·rw[qX h0];obtain⟨m2,e',hk⟩:=ih r out (e+1) (by omega) (by omega) (by omega)
    exact⟨m2,e',by rw[hk,o9,qX h0]⟩
   ·rw[qW h0];obtain⟨m2,e',hk⟩:=ih r (out++(ub e++lb (cv s).1++[13,10])) 0 (by omega) (by omega) (by simp only[qM,qib,qL,qZ];omega)
    exact⟨m2,e',by rw[show((0:Int))=((0:Nat):Int) from rfl]at hk ⊢;rw[hk,o9,qW h0];simp⟩
def zj6(fu:Nat)(b:Bs)(hf:b.length+10<fu:=by omega)(hb:b.length<1000000:=by omega):qel fu b=some (oc b):=by
 unfold qel qrc qrj;rw[ag (by decide),qB,qB]
 simp only;unfold qrk;rw[a7 (by rfl)]
 obtain⟨m2,e',hk⟩:=zr7 fu fu b [] 0 (by omega) (by omega) (by simp;omega)
 rw[show((0:Nat):Int)=0 from rfl]at hk
 rw[hk,qB,List.nil_append];unfold oc;rw[q8z fu (b.length+1) b (by omega) (by omega)]
def q50:qj1 100000000=some true:=by kernel_rfl

end Go.Sym
namespace Go.Sym
def q51(x:aq):Bs:=x.1.map lo++[58]++lb x.2++[13,10]
def zj9(fu:Nat)(x:aq)(hfu:90000000<=fu)(h:x.1.length<=1048576/\x.2.length<=1048576):qem fu x=some (q51 x):=by
 have h2:=qih x.2;unfold qem;rw[qcz fu x.1 (by omega) (by simp only[maxLen];omega),qB,ag (by simp only[bc,wC,qL,qZ];omega),zcn fu x.2,qB,
  ag (by simp only[bc,qM,wC,qL,qZ];omega),ag (by simp only[bc,qM,wC,qL,qZ];omega)]
 rfl
end Go.Sym
namespace Go.Sym.Tr
def lo(c:UInt8):UInt8:=if 65<=c/\c<=90 then c+32 else c
def qx2(c:UInt8):(c+97)-65=c+32:=by
 rw[UInt8.sub_eq_add_neg,UInt8.add_assoc];rfl
def qhu(fu:Nat):∀(n:Nat)(ab aa:List UInt8),aa.length<n->ab.length+aa.length<=9223372036854775807 ->
  si fu n ((ab.length+aa.length:Nat):Int) (ab.length:Int) (ab++aa)=some (ab++aa.map lo)
 |0,_,_,h,_=>absurd h (by omega)|n+1,ab,[],_,_=>by simp[si,qaz]|n+1,ab,c::aa,h,hb=>by
  simp only[qL]at h hb;have ih:=fun d=>qhu fu n (ab++[d]) aa (by omega) (by simp;omega)
  simp only[qM,qL,qZ,qS,wM,wO]at ih;have e:((ab.length+(c::aa).length:Nat):Int)=((ab.length+1+aa.length:Nat):Int):=by simp only[qL];omega
  have hl:0<=(ab.length:Int)/\(ab.length:Int).toNat<(ab++c::aa).length:=by simp
  rw[e];simp only[si,qaz];rw[ag,ag hl,nh,qB,wo,ay _,cd,cd,ih,ih,ag hl,qB]
  unfold lo;simp only[List.map_cons,qx2];by_cases h1:(65:UInt8)<=c
  ·by_cases h2:c<=90
   ·simp[h1,h2]
   ·simp[h1,h2]
  ·simp[h1]
def qcz(fu:Nat)(s:List UInt8)(h:s.length<fu)(hb:s.length<=maxLen):um fu s=some (s.map lo):=by
 unfold um;rw[ag hb];have:=qhu fu fu [] s h (by simpa [maxLen] using hb)
 simpa using this
def zr4(fu:Nat)(a b:List UInt8)(ha:a.length<fu)(hb:b.length<fu)(ha':a.length<=maxLen)(hb':b.length<=maxLen):ei fu a b=some (a.map lo==b.map lo):=by
 unfold ei;rw[fe,qcz fu a ha ha',qcz fu b hb hb'];by_cases h:(a.length:Int)=b.length
 ·rw[qX h];rfl
 ·rw[qW h];have:(a.map lo==b.map lo)=false:=by
   rw[beq_eq_false_iff_ne];intro q;apply h;have:=congrArg List.length q;simp only[wC]at this;omega
  rw[this]
abbrev n7:List UInt8:=[55,98,105,116]
abbrev n8:List UInt8:=[56,98,105,116]
abbrev n64:List UInt8:=[98,97,115,101,54,52]
abbrev nqp:List UInt8:=[113,117,111,116,101,100,45,112,114,105,110,116,97,98,108,101]
def gy(s:List UInt8):Int:=if n7.map lo=s.map lo then 0 else if n8.map lo=s.map lo then 1 else if n64.map lo=s.map lo then 2 else if nqp.map lo=s.map lo then 3 else -1
def zje{α:Type}{a b:List UInt8}{x y:α}:(bif a==b then x else y)=if a=b then x else y:=by
 by_cases h:a=b
 ·rw[a8 (by simp[h]),qX h]
 ·rw[a7 (by simp[h]),qW h]
def q7e(fu:Nat)(s:List UInt8)(hf:20<=fu)(h:s.length<fu)(hb:s.length<=maxLen):ql2 fu s=some (if gy s=0 then .inl (n7,(true,127)) else if gy s=1 then .inl (n8,(true,255)) else if gy s=2 then .inr (.inl (n64,true)) else if gy s=3 then .inr (.inr (.inl (nqp,true))) else .inr (.inr (.inr ([],false)))):=by
 unfold ql2 ql3;have A:∀a:List UInt8,a.length<=16->ei fu a s=some (a.map lo==s.map lo):=fun a ha=>zr4 fu a s (by omega) h (by simp only[maxLen];omega) hb
 simp only[qB];rw[A n7 (by decide),A n8 (by decide),A n64 (by decide),A nqp (by decide)]
 simp only[qB,zje];unfold gy;by_cases h0:n7.map lo=s.map lo
 ·simp only[qX h0];rfl
 ·by_cases h1:n8.map lo=s.map lo
  ·simp only[qW h0,qX h1];rfl
  ·by_cases h2:n64.map lo=s.map lo
   ·simp only[qW h0,qW h1,qX h2];rfl
   ·by_cases h3:nqp.map lo=s.map lo
    ·simp only[qW h0,qW h1,qW h2,qX h3];rfl
    ·simp only[qW h0,qW h1,qW h2,qW h3];rfl
end Go.Sym.Tr
namespace Go.Sym.Tr
def zna{c:UInt8}{r:List UInt8}(h:(c==13&&r.head? == some 10)=true):c=13/\∃r',r=10::r':=by
 rw[qA]at h;refine⟨by simpa using h.1,?_⟩
 cases r with|nil=>simp at h|cons d r=>exact⟨r,by simpa using h.2⟩
def wr(m:UInt8)(col i:Nat):List UInt8->Int|[] => -1|c::r=>if(c==13&&r.head? == some 10)=true then wr m 0 (i+2) r.tail else if c=0\/c=13\/c=10\/m<c\/col=998 then(i:Int) else wr m (col+1) (i+1) r
termination_by l=>l.length
decreasing_by all_goals (simp only[qL,List.length_tail];omega)
def zul(m:UInt8)(col i:Nat)(c:UInt8)(r:List UInt8):wr m col i (c::r)=if(c==13&&r.head? == some 10)=true then wr m 0 (i+2) r.tail else if c=0\/c=13\/c=10\/m<c\/col=998 then(i:Int) else wr m (col+1) (i+1) r:=by rw[wr]
def zur(fu:Nat)(m:UInt8)(n:Nat):∀(ab aa:List UInt8)(col:Nat),aa.length<n->ab.length+aa.length<=4611686018427387904->col<=998 ->
  qbu fu n (ab++aa) m (col:Int) (ab.length:Int)=some (wr m col ab.length aa):=by
 induction n with
 |zero=>intro ab aa col h;omega|succ n ih=>
  intro ab aa col h hb hcol;rw[qbu,qub]
  cases aa with
  |nil=>rw[au,wr]|cons c r=>
   simp only[qL]at h hb;have fin:∀f,f=(c==13&&r.head? == some 10)->qbv fu (qbu fu n) (ab++c::r) m (col:Int) (ab.length:Int) c f=some (wr m col ab.length (c::r)):=by
    intro f hf;unfold qbv;rw[zul,hf];cases hc:(c==13&&r.head? == some 10)
    ·rw[a7 (by rfl),qW (by decide)]
     unfold quc;rw[kg,kg,kg,cd,fe];by_cases h0:c=0
     ·rw[qX h0,qX (.inl h0)]
     rw[qW h0];by_cases h13:c=13
     ·rw[qX h13,qX (.inr (.inl h13))]
     rw[qW h13];by_cases h10:c=10
     ·rw[qX h10,qX (.inr (.inr (.inl h10)))]
     rw[qW h10];by_cases hm:m<c
     ·rw[qX hm,qX (.inr (.inr (.inr (.inl hm))))]
     rw[qW hm];by_cases hq:col=998
     ·rw[qX,qX (.inr (.inr (.inr (.inr hq))))]
     rw[qW (by omega),qW (by simp[h0,h13,h10,hm,hq]),ay _,ay _]
     have:=ih (ab++[c]) r (col+1) (by omega) (by simp;omega) (by omega)
     simpa using this
    ·obtain⟨rfl,r',rfl⟩:=zna hc;simp only[qL]at h hb;rw[a8,qX rfl,ay _,ay _,show ab.length+1+1=ab.length+2 from rfl]
     have:=ih (ab++[13,10]) r' 0 (by omega) (by simp;omega) (by omega)
     simpa using this
   have hl:((ab++c::r).length:Int)=((ab.length+r.length+1:Nat):Int):=by simp;omega
   rw[hl,ag,bt,qB,kg]
   by_cases h13:c=13
   ·subst h13;rw[qX rfl,ay _]
    cases r with
    |nil=>rw[au];exact fin false rfl|cons d r=>
     have hi:am (ab++13::d::r) ((ab.length+1:Nat):Int)=some d:=by
      have:=bt (ab++[13]) d r;simpa using this
     rw[ag (by simp only[qL];omega),hi,qB]
     exact fin _ (by cases h:d==10<;>simp_all)
   ·rw[qW h13];exact fin false (by rw[beq_false_of_ne h13];rfl)
def px(b:List UInt8)(e:Bool):Int:=wr (if e then 255 else 127) 0 0 b
def zus(fu:Nat)(b:List UInt8)(e:Bool)(hb:b.length<=4611686018427387904:=by omega)(hn:b.length<fu:=by omega):qua fu b (if e then 255 else 127)=some (px b e):=by
 have:=zur fu (if e then 255 else 127) fu [] b 0 hn (by simpa using hb) (by omega)
 exact this
end Go.Sym.Tr
namespace Go.Sym.Tr
def mp:List UInt8:=[65,66,67,68,69,70,71,72,73,74,75,76,77,78,79,80,81,82,83,84,85,86,87,88,89,90,97,98,99,100,101,102,103,104,105,106,107,108,109,110,111,112,113,114,115,116,117,118,119,120,121,122,48,49,50,51,52,53,54,55,56,57,43,47]
def al(k:Nat):UInt8:=mp.getD k 0
def qmi(k:Nat)(h:k<64:=by omega):am mp (k:Int)=some (al k):=by
 have h':k<mp.length:=h;rw[qcv _ _ h'];unfold al;simp[h']
def c0(x:Nat):UInt8:=al (x/262144%64)
def c1(x:Nat):UInt8:=al (x/4096%64)
def c2(x:Nat):UInt8:=al (x/64%64)
def c3(x:Nat):UInt8:=al (x%64)
def e64:List UInt8->List UInt8|[]=>[]|[a]=>[c0 (a.toNat*65536),c1 (a.toNat*65536),61,61]|[a,b]=>[c0 (a.toNat*65536+b.toNat*256),c1 (a.toNat*65536+b.toNat*256),c2 (a.toNat*65536+b.toNat*256),61]|a::b::c::r=>c0 (a.toNat*65536+b.toNat*256+c.toNat)::c1 (a.toNat*65536+b.toNat*256+c.toNat)::c2 (a.toNat*65536+b.toNat*256+c.toNat)::c3 (a.toNat*65536+b.toNat*256+c.toNat)::e64 r
def rl(x:Nat)(h:x<18446744073709551616:=by omega):(BitVec.ofInt 64 (x:Int)).toNat=x:=by
 rw[BitVec.toNat_ofInt];omega
def qpb(x:Nat)(h:x<1099511627776:=by omega):af ((x:Int)*2 ^ min (8:Int).toNat 64)=((256*x:Nat):Int):=by
 rw[show(2:Int) ^ min (8:Int).toNat 64=256 by decide,cm];omega
def or8(x y:Nat)(h:x<1099511627776:=by omega)(hy:y<256:=by omega):af (((BitVec.ofInt 64 (af ((x:Int)*2 ^ min (8:Int).toNat 64))|||BitVec.ofInt 64 (y:Int)).toNat:Int))=((256*x+y:Nat):Int):=by
 rw[qpb x h,BitVec.toNat_or,rl _,rl _]
 have:=Nat.two_pow_add_eq_or_of_lt (i:=8) (b:=y) (by simpa using hy) x
 rw[← show 2 ^ 8*x+y=256*x|||y from this]
 rw[cm]
def or0(y:Nat)(hy:y<256:=by omega):af (((BitVec.ofInt 64 (0:Int)|||BitVec.ofInt 64 (y:Int)).toNat:Int))=(y:Int):=by
 have h0:(BitVec.ofInt 64 (0:Int)).toNat=0:=rl 0
 rw[BitVec.toNat_or,h0,rl _,Nat.zero_or,cm]
def qmk(x k:Nat)(p:Int)(hp:p=(k:Int))(hk:k<=30)(h:x<1099511627776):af (((BitVec.ofInt 64 (Int.fdiv (x:Int) (2 ^ min p.toNat 64))&&&BitVec.ofInt 64 (63:Int)).toNat:Int))=((x/2 ^ k%64:Nat):Int):=by
 subst hp;have e1:min (k:Int).toNat 64=k:=by omega
 have e2:Int.fdiv (x:Int) (2 ^ k)=((x/2 ^ k:Nat):Int):=by
  rw[Int.fdiv_eq_ediv_of_nonneg _ (by exact Int.le_of_lt (Int.pow_pos (by decide)))]
  simp
 have hle:x/2 ^ k<=x:=Nat.div_le_self _ _;have h63:(BitVec.ofInt 64 (63:Int)).toNat=63:=rl 63
 rw[e1,e2,BitVec.toNat_and,rl _,h63]
 have:=Nat.and_two_pow_sub_one_eq_mod (x/2 ^ k) 6;rw[show(63:Nat)=2 ^ 6-1 by decide,this,show(2:Nat) ^ 6=64 by decide]
 rw[cm]
def qvq(x:Nat)(h:x<1099511627776):am mp (af (((BitVec.ofInt 64 (Int.fdiv (x:Int) (2 ^ min (18:Int).toNat 64))&&&BitVec.ofInt 64 (63:Int)).toNat:Int)))=some (c0 x):=by
 rw[qmk x 18 18 rfl (by omega) h,qmi _];rfl
def qvp(x:Nat)(h:x<1099511627776):am mp (af (((BitVec.ofInt 64 (Int.fdiv (x:Int) (2 ^ min (12:Int).toNat 64))&&&BitVec.ofInt 64 (63:Int)).toNat:Int)))=some (c1 x):=by
 rw[qmk x 12 12 rfl (by omega) h,qmi _];rfl
def qvr(x:Nat)(h:x<1099511627776):am mp (af (((BitVec.ofInt 64 (Int.fdiv (x:Int) (2 ^ min (6:Int).toNat 64))&&&BitVec.ofInt 64 (63:Int)).toNat:Int)))=some (c2 x):=by
 rw[qmk x 6 6 rfl (by omega) h,qmi _];rfl
def qvo(x:Nat)(h:x<1099511627776):am mp (af (((BitVec.ofInt 64 (Int.fdiv (x:Int) (2 ^ min (0:Int).toNat 64))&&&BitVec.ofInt 64 (63:Int)).toNat:Int)))=some (c3 x):=by
 rw[qmk x 0 0 rfl (by omega) h,qmi _];unfold c3;simp
def wi(r0:List UInt8->Int->List UInt8->Option (List UInt8×Int×List UInt8))(k:Nat)(p0 p1 p2 p3:UInt8)(m1:List UInt8)(m3:Int)(m16:List UInt8):Option (List UInt8×Int×List UInt8):=
 (gc p0 p1 p2 p3 m3 m16).bind fun v=>r0 (m1.drop k) v.1 v.2
def zo5(fu:Nat)(r0:List UInt8->Int->List UInt8->Option (List UInt8×Int×List UInt8))(x:Nat)(hx:x<1099511627776)(m1:List UInt8)(h:1<=m1.length)(m3:Int)(m16:List UInt8) :
  sg fu r0 1 (x:Int) m1 m3 m16=wi r0 1 (c0 x) (c1 x) 61 61 m1 m3 m16:=by
 unfold sg;rw[show([65,66,67,68,69,70,71,72,73,74,75,76,77,78,79,80,81,82,83,84,85,86,87,88,89,90,97,98,99,100,101,102,103,104,105,106,107,108,109,110,111,112,113,114,115,116,117,118,119,120,121,122,48,49,50,51,52,53,54,55,56,57,43,47]:List UInt8)=mp from rfl]
 rw[qvq x hx,qvp x hx,qvr x hx,qvo x hx];simp only[qB,au (show ¬(1:Int)<0 by decide),au (show ¬(1:Int)<1 by decide),ag (show(1:Int)<2 by decide),ag (show(1:Int)<3 by decide),ag (show 0<=(1:Int)/\(1:Int)<=(m1.length:Int) by omega)]
 rfl
def zo6(fu:Nat)(r0:List UInt8->Int->List UInt8->Option (List UInt8×Int×List UInt8))(x:Nat)(hx:x<1099511627776)(m1:List UInt8)(h:2<=m1.length)(m3:Int)(m16:List UInt8) :
  sg fu r0 2 (x:Int) m1 m3 m16=wi r0 2 (c0 x) (c1 x) (c2 x) 61 m1 m3 m16:=by
 unfold sg;rw[show([65,66,67,68,69,70,71,72,73,74,75,76,77,78,79,80,81,82,83,84,85,86,87,88,89,90,97,98,99,100,101,102,103,104,105,106,107,108,109,110,111,112,113,114,115,116,117,118,119,120,121,122,48,49,50,51,52,53,54,55,56,57,43,47]:List UInt8)=mp from rfl]
 rw[qvq x hx,qvp x hx,qvr x hx,qvo x hx];simp only[qB,au (show ¬(2:Int)<0 by decide),au (show ¬(2:Int)<1 by decide),au (show ¬(2:Int)<2 by decide),ag (show(2:Int)<3 by decide),ag (show 0<=(2:Int)/\(2:Int)<=(m1.length:Int) by omega)]
 rfl
def zo7(fu:Nat)(r0:List UInt8->Int->List UInt8->Option (List UInt8×Int×List UInt8))(x:Nat)(hx:x<1099511627776)(m1:List UInt8)(h:3<=m1.length)(m3:Int)(m16:List UInt8) :
  sg fu r0 3 (x:Int) m1 m3 m16=wi r0 3 (c0 x) (c1 x) (c2 x) (c3 x) m1 m3 m16:=by
 unfold sg;rw[show([65,66,67,68,69,70,71,72,73,74,75,76,77,78,79,80,81,82,83,84,85,86,87,88,89,90,97,98,99,100,101,102,103,104,105,106,107,108,109,110,111,112,113,114,115,116,117,118,119,120,121,122,48,49,50,51,52,53,54,55,56,57,43,47]:List UInt8)=mp from rfl]
 rw[qvq x hx,qvp x hx,qvr x hx,qvo x hx];simp only[qB,au (show ¬(3:Int)<0 by decide),au (show ¬(3:Int)<1 by decide),au (show ¬(3:Int)<2 by decide),au (show ¬(3:Int)<3 by decide),ag (show 0<=(3:Int)/\(3:Int)<=(m1.length:Int) by omega)]
 rfl
def zi4(fu:Nat)(r0:List UInt8->Int->List UInt8->Option (List UInt8×Int×List UInt8))(a:UInt8)(m3:Int)(m16:List UInt8) :
  sf fu r0 [a] m3 m16=wi r0 1 (c0 (a.toNat*65536)) (c1 (a.toNat*65536)) 61 61 [a] m3 m16:=by
 have ha:=a.toNat_lt;unfold sf;have hm:(if(List.length [a]:Int)<3 then(List.length [a]:Int) else 3)=1:=rfl
 rw[hm,ag (show(0:Int)<(List.length [a]:Int) by simp),ag (show(0:Int)<1 by decide)]
 rw[show am [a] 0=some a from rfl,qB,or0 _]
 unfold qav;rw[au (show ¬(1:Int)<1 by decide),qpb _]
 unfold qaw;rw[au (show ¬(2:Int)<1 by decide),qpb _,zo5 _ _ _ (by omega) _ (by simp)]
 rw[show 256*(256*a.toNat)=a.toNat*65536 by omega]
def zi5(fu:Nat)(r0:List UInt8->Int->List UInt8->Option (List UInt8×Int×List UInt8))(a b:UInt8)(m3:Int)(m16:List UInt8) :
  sf fu r0 [a,b] m3 m16=wi r0 2 (c0 (a.toNat*65536+b.toNat*256)) (c1 (a.toNat*65536+b.toNat*256)) (c2 (a.toNat*65536+b.toNat*256)) 61 [a,b] m3 m16:=by
 have ha:=a.toNat_lt;have hb:=b.toNat_lt;unfold sf;have hm:(if(List.length [a,b]:Int)<3 then(List.length [a,b]:Int) else 3)=2:=rfl
 rw[hm,ag (show(0:Int)<(List.length [a,b]:Int) by simp),ag (show(0:Int)<2 by decide)]
 rw[show am [a,b] 0=some a from rfl,qB,or0 _]
 unfold qav;rw[ag (show(1:Int)<2 by decide),show am [a,b] 1=some b from rfl,qB,or8 _ _]
 unfold qaw;rw[au (show ¬(2:Int)<2 by decide),qpb _,zo6 _ _ _ (by omega) _ (by simp)]
 rw[show 256*(256*a.toNat+b.toNat)=a.toNat*65536+b.toNat*256 by omega]
def zi6(fu:Nat)(r0:List UInt8->Int->List UInt8->Option (List UInt8×Int×List UInt8))(a b c:UInt8)(r:List UInt8)(m3:Int)(m16:List UInt8) :
  sf fu r0 (a::b::c::r) m3 m16=wi r0 3 (c0 (a.toNat*65536+b.toNat*256+c.toNat)) (c1 (a.toNat*65536+b.toNat*256+c.toNat)) (c2 (a.toNat*65536+b.toNat*256+c.toNat)) (c3 (a.toNat*65536+b.toNat*256+c.toNat)) (a::b::c::r) m3 m16:=by
 have ha:=a.toNat_lt;have hb:=b.toNat_lt;have hc:=c.toNat_lt;unfold sf;have hl:((a::b::c::r).length:Int)=(r.length:Int)+3:=by simp;omega
 have hm:(if((a::b::c::r).length:Int)<3 then((a::b::c::r).length:Int) else 3)=3:=by rw[qW (by omega)]
 rw[hm,ag (show(0:Int)<((a::b::c::r).length:Int) by omega),ag (show(0:Int)<3 by decide)]
 rw[show am (a::b::c::r) 0=some a from rfl,qB,or0 _]
 unfold qav;rw[ag (show(1:Int)<3 by decide),show am (a::b::c::r) 1=some b from rfl,qB,or8 _ _]
 unfold qaw;rw[ag (show(2:Int)<3 by decide),show am (a::b::c::r) 2=some c from rfl,qB,or8 _ _,zo7 _ _ _ (by omega) _ (by simp)]
 rw[show 256*(256*a.toNat+b.toNat)+c.toNat=a.toNat*65536+b.toNat*256+c.toNat by omega]
end Go.Sym.Tr
namespace Go.Sym.Tr
def pt:Nat->List UInt8->List UInt8|0,_=>[]|n+1,s=>if 76<s.length then s.take 76++[13,10]++pt n (s.drop 76) else if s=[] then[] else s++[13,10]
def q8w:∀(n m:Nat)(s:List UInt8),s.length<n->s.length<m->pt n s=pt m s
 |0,_,_,h,_=>absurd h (by omega)|_,0,_,_,h=>absurd h (by omega)|n+1,m+1,s,h,k=>by
  unfold pt;by_cases c:76<s.length
  ·rw[qX c,qX c,q8w n m (s.drop 76) (by simp;omega) (by simp;omega)]
  ·rw[qW c,qW c]
def lines76(s:List UInt8):List UInt8:=pt (s.length+1) s
def lines76_eq(s:List UInt8):lines76 s=if 76<s.length then s.take 76++[13,10]++lines76 (s.drop 76) else if s=[] then[] else s++[13,10]:=by
 unfold lines76;rw[pt];by_cases c:76<s.length
 ·rw[qX c,qX c,q8w s.length ((s.drop 76).length+1) (s.drop 76) (by simp;omega) (by omega)]
 ·rw[qW c,qW c]
def py(col:Nat)(s:List UInt8):List UInt8:=
 if 76<col+s.length then s.take (76-col)++[13,10]++lines76 (s.drop (76-col)) else if col=0/\s=[] then[] else s++[13,10]
def zbd(s:List UInt8):py 0 s=lines76 s:=by
 unfold py
 conv=>rhs;rw[lines76_eq]
 simp
def zrh(s:List UInt8)(h:s≠[]):py 76 s=[13,10]++py 0 s:=by
 rw[zbd];unfold py;have:0<s.length:=List.length_pos_iff.2 h;rw[qX]
 simp
def zbe(col:Nat)(p0 p1 p2 p3:UInt8)(s:List UInt8)(h:col+4<=76:=by omega):py col (p0::p1::p2::p3::s)=[p0,p1,p2,p3]++py (col+4) s:=by
 unfold py;simp only[qL];by_cases c:76<col+4+s.length
 ·rw[qX,qX]
  obtain⟨k,hk⟩:∃k,76-col=k+4:=⟨76-col-4,by omega⟩
  have hk2:76-(col+4)=k:=by omega
  rw[hk,hk2];simp[List.take_succ_cons,List.drop_succ_cons]
 ·rw[qW (show ¬76<col+(s.length+1+1+1+1) by omega),qW c,qW (show ¬(col=0/\p0::p1::p2::p3::s=[]) by simp),qW (show ¬(col+4=0/\s=[]) by omega)]
  simp
def e64_len:∀(b:List UInt8),(e64 b).length=4*((b.length+2)/3)
 |[]=>rfl|[_]=>by simp[e64]|[_,_]=>by simp[e64]|a::b::c::r=>by
  simp only[e64,qL,e64_len r];omega
def zlq(p0 p1 p2 p3:UInt8)(col:Nat)(out:List UInt8)(hc:col<=76)(ho:out.length+6<=ax) :
  gc p0 p1 p2 p3 (col:Int) out=some (if col=76 then((4:Int),out++[13,10]++[p0,p1,p2,p3]) else(((col+4:Nat):Int),out++[p0,p1,p2,p3])):=by
 unfold gc;rw[fe];by_cases c:col=76
 ·subst c;rw[qX (show((76:Nat):Int)=76 from rfl),qX rfl,ag,ag]
 ·rw[qW (by omega),qW c,ag,cm]
  simp
def zmh(fu n:Nat):∀(b:List UInt8)(col:Nat)(out:List UInt8),b.length<n->col<=76->col%4=0->out.length+2*(e64 b).length+8<=ax ->
  ∃col':Nat,∃out',nw fu n b (col:Int) out=some ([],((col':Int),out'))/\out'.length+2<=ax/\out'++(if 0<col' then[13,10] else[])=out++py col (e64 b):=by
 induction n with
 |zero=>intro b col out h;omega|succ n ih=>
  intro b col out h hc hm ho;have four:∀(k:Nat)(p0 p1 p2 p3:UInt8)(r:List UInt8),b.drop k=r->e64 b=p0::p1::p2::p3::e64 r->r.length<n->nw fu (n+1) b (col:Int) out=wi (nw fu n) k p0 p1 p2 p3 b (col:Int) out ->
    ∃col':Nat,∃out',nw fu (n+1) b (col:Int) out=some ([],((col':Int),out'))/\out'.length+2<=ax/\out'++(if 0<col' then[13,10] else[])=out++py col (e64 b):=by
   intro k p0 p1 p2 p3 r hd he hr hp;rw[he,qL,qL,qL,qL]at ho;rw[hp,he];unfold wi;rw[zlq _ _ _ _ _ _ hc (by omega),qB,hd]
   by_cases c:col=76
   ·rw[qX c];obtain⟨col',out',h1,h2,h3⟩:=ih r 4 (out++[13,10]++[p0,p1,p2,p3]) hr (by omega) (by omega) (by simp;omega)
    refine⟨col',out',h1,h2,?_⟩;rw[h3,c,zrh _ (by simp),zbe _ _ _ _ _ _]
    simp
   ·rw[qW c];obtain⟨col',out',h1,h2,h3⟩:=ih r (col+4) (out++[p0,p1,p2,p3]) hr (by omega) (by omega) (by simp;omega)
    refine⟨col',out',h1,h2,?_⟩;rw[h3,zbe _ _ _ _ _ _]
    simp
  match b,four with
  |[],_=>
   refine⟨col,out,?_,by omega,?_⟩
   ·rw[nw,sf,au]
   ·unfold py;simp only[e64,qZ];rw[qW (show ¬76<col+0 by omega)]
    by_cases c:col=0
    ·subst c;simp
    ·rw[qX (show 0<col by omega)];simp[c]
  |[a],four=>exact four 1 (c0 (a.toNat*65536)) (c1 (a.toNat*65536)) 61 61 [] rfl (by simp only[e64]) (by simp at h;simp;omega) (by rw[nw];exact zi4 fu _ a _ _)|[a,b],four=>exact four 2 (c0 (a.toNat*65536+b.toNat*256)) (c1 (a.toNat*65536+b.toNat*256)) (c2 (a.toNat*65536+b.toNat*256)) 61 [] rfl (by simp only[e64]) (by simp at h;simp;omega) (by rw[nw];exact zi5 fu _ a b _ _)|a::b::c::r,four=>exact four 3 (c0 (a.toNat*65536+b.toNat*256+c.toNat)) (c1 (a.toNat*65536+b.toNat*256+c.toNat)) (c2 (a.toNat*65536+b.toNat*256+c.toNat)) (c3 (a.toNat*65536+b.toNat*256+c.toNat)) r rfl (by simp only[e64]) (by simp at h;omega) (by rw[nw];exact zi6 fu _ a b c r _ _)
def zlp(fu:Nat)(b:List UInt8)(hf:b.length<fu:=by omega)(hb:b.length<=12000:=by omega):qj2 fu b=some ((0,0),lines76 (e64 b)):=by
 unfold qj2 qq2;rw[au,qB]
 unfold qq3;obtain⟨col',out',h1,h2,h3⟩:=zmh fu fu b 0 [] hf (by omega) rfl (by rw[e64_len];simp only[ax,qZ];omega)
 rw[show nw fu fu b (0:Int) []=some ([],((col':Int),out')) from h1,qB]
 rw[zbd,List.nil_append]at h3;simp only[ci,qB];rw[← h3,cd];by_cases c:0<col'
 ·rw[qX (show(0:Int)<(col':Int) by omega),qX c,ag]
 ·rw[qW (show ¬(0:Int)<(col':Int) by omega),qW c];simp
end Go.Sym.Tr
namespace Go.Sym.Tr
def fh(c:UInt8):List Nat:=[c.toNat/128%2,c.toNat/64%2,c.toNat/32%2,c.toNat/16%2,c.toNat/8%2,c.toNat/4%2,c.toNat/2%2,c.toNat%2]
def bits(b:List UInt8):List Nat:=b.flatMap fh
def ck(a:Nat):List Nat->Nat|[]=>a|x::l=>ck (2*a+x) l
def qpe:∀(l:List Nat)(a:Nat),(∀x∈l,x<=1)->ck a l+1<=(a+1)*2 ^ l.length
 |[],a,_=>by simp[ck]|x::l,a,h=>by
  have:=qpe l (2*a+x) (fun y hy=>h y (qE _ hy))
  have hx:=h x qH;unfold ck;refine Nat.le_trans this ?_;rw[qL,Nat.pow_succ,Nat.mul_comm (2 ^ l.length) 2,← Nat.mul_assoc];exact Nat.mul_le_mul_right _ (by omega)
def ve:List Nat->List UInt8|a::b::c::d::e::f::r=>al (ck 0 [a,b,c,d,e,f])::ve r|_=>[]
def qc3(s:List UInt8):List UInt8:=s++List.replicate ((4-s.length%4)%4) 61
def ku(s:List Nat):List Nat:=s++List.replicate ((6-s.length%6)%6) 0
def zpa(a s:List Nat)(h:a.length%6=0):ku (a++s)=a++ku s:=by
 unfold ku;have:(a++s).length%6=s.length%6:=by simp;omega
 rw[this,qS]
def zo9(p0 p1 p2 p3:UInt8)(s:List UInt8):qc3 (p0::p1::p2::p3::s)=p0::p1::p2::p3::qc3 s:=by
 unfold qc3;have:(p0::p1::p2::p3::s).length%4=s.length%4:=by simp;omega
 rw[this];rfl
def n6(a:Nat)(h:a<256):2*(2*(2*(2*(2*(2*0+a/128%2)+a/64%2)+a/32%2)+a/16%2)+a/8%2)+a/4%2=a/4:=by omega
def n2(a:Nat):2*(2*0+a/2%2)+a%2=a%4:=by omega
def n4(t b:Nat)(h:b<256):2*(2*(2*(2*t+b/128%2)+b/64%2)+b/32%2)+b/16%2=16*t+b/16:=by omega
def n4'(b:Nat):2*(2*(2*(2*0+b/8%2)+b/4%2)+b/2%2)+b%2=b%16:=by omega
def n2'(t c:Nat)(h:c<256):2*(2*t+c/128%2)+c/64%2=4*t+c/64:=by omega
def n6'(c:Nat):2*(2*(2*(2*(2*(2*0+c/32%2)+c/16%2)+c/8%2)+c/4%2)+c/2%2)+c%2=c%64:=by omega
def x0(a b c:Nat)(h:a<256)(hb:b<256)(hc:c<256):(a*65536+b*256+c)/262144%64=a/4:=by omega
def x1(a b c:Nat)(h:a<256)(hb:b<256)(hc:c<256):(a*65536+b*256+c)/4096%64=16*(a%4)+b/16:=by omega
def x2(a b c:Nat)(h:a<256)(hb:b<256)(hc:c<256):(a*65536+b*256+c)/64%64=4*(b%16)+c/64:=by omega
def x3(a b c:Nat)(h:a<256)(hb:b<256)(hc:c<256):(a*65536+b*256+c)%64=c%64:=by omega
def q6w:∀(b:List UInt8),qc3 (ve (ku (bits b)))=e64 b
 |[]=>by simp[bits,ku,ve,qc3,e64]|[a]=>by
  have ha:a.toNat<256:=a.toNat_lt;have e:ku (bits [a])=fh a++[0,0,0,0]:=by simp[bits,ku,fh]
  rw[e];simp only[fh,wK,List.nil_append,ve,ck,e64];rw[n6 _ ha,n2];have k0:=x0 a.toNat 0 0 ha (by omega) (by omega)
  have k1:=x1 a.toNat 0 0 ha (by omega) (by omega)
  simp only[Nat.zero_mul,Nat.add_zero,Nat.zero_div]at k0 k1;unfold c0 c1;rw[k0,k1,show 2*(2*(2*(2*(a.toNat%4)+0)+0)+0)+0=16*(a.toNat%4) by omega]
  rfl
 |[a,b]=>by
  have ha:a.toNat<256:=a.toNat_lt;have hb:b.toNat<256:=b.toNat_lt;have e:ku (bits [a,b])=fh a++fh b++[0,0]:=by simp[bits,ku,fh]
  rw[e];simp only[fh,wK,List.nil_append,ve,ck,e64];rw[n6 _ ha,n2,n4 _ _ hb,n4'];have k0:=x0 a.toNat b.toNat 0 ha hb (by omega)
  have k1:=x1 a.toNat b.toNat 0 ha hb (by omega)
  have k2:=x2 a.toNat b.toNat 0 ha hb (by omega)
  simp only[Nat.add_zero,Nat.zero_div]at k0 k1 k2;unfold c0 c1 c2;rw[k0,k1,k2,show 2*(2*(b.toNat%16)+0)+0=4*(b.toNat%16) by omega]
  rfl
 |a::b::c::r=>by
  have ha:a.toNat<256:=a.toNat_lt;have hb:b.toNat<256:=b.toNat_lt;have hc:c.toNat<256:=c.toNat_lt;have e:bits (a::b::c::r)=(fh a++fh b++fh c)++bits r:=by simp[bits]
  rw[e,zpa _ _ (by simp[fh])]
  simp only[fh,wK,List.nil_append,ve,ck,e64];rw[zo9,q6w r,n6 _ ha,n2,n4 _ _ hb,n4',n2' _ _ hc,n6'];unfold c0 c1 c2 c3;rw[x0 _ _ _ ha hb hc,x1 _ _ _ ha hb hc,x2 _ _ _ ha hb hc,x3 _ _ _ ha hb hc]
def zjh(b:List UInt8):∀x∈bits b,x<=1:=by
 intro x hx;obtain⟨c,_,hx⟩:=List.mem_flatMap.1 hx;simp only[fh,wE,List.not_mem_nil,or_false]at hx;omega
end Go.Sym.Tr
namespace Go.Sym.Tr
def iv(P:UInt8->Prop)(h:∀n:_root_.Fin 256,P (UInt8.ofNat n.val))(c:UInt8):P c:=by
 have:=h ⟨c.toNat,c.toNat_lt⟩;simpa using this
def isL:List UInt8->Bool|a::b::_=>a==13&&b==10|_=>false
def qht(s:List UInt8):qbp s=some (isL s):=by
 unfold qbp
 match s with
 |[]=>rfl|[_]=>rfl|a::b::r=>
  rw[ag,show am (a::b::r) 0=some a from rfl,show am (a::b::r) 1=some b from rfl]
  simp only[qB,isL];cases a==13<;>rfl
def sgn(c:UInt8)(e:Bool):List UInt8:=(uy c e).getD []
def zb7:∀n:_root_.Fin 256,∀e:Bool,uy (UInt8.ofNat n.val) e=some (sgn (UInt8.ofNat n.val) e)/\((sgn (UInt8.ofNat n.val) e).length=1\/(sgn (UInt8.ofNat n.val) e).length=3):=by decide +kernel
def zb8(c:UInt8)(e:Bool):uy c e=some (sgn c e):=(iv (fun c=>∀e,uy c e=some (sgn c e)/\((sgn c e).length=1\/(sgn c e).length=3)) zb7 c e).1
def sgn_len(c:UInt8)(e:Bool):(sgn c e).length=1\/(sgn c e).length=3:=(iv (fun c=>∀e,uy c e=some (sgn c e)/\((sgn c e).length=1\/(sgn c e).length=3)) zb7 c e).2
def qne(r:List UInt8):Bool:=r.isEmpty||isL r
def zcc(c:UInt8)(r:List UInt8):qlh c r=some (sgn c (qne r)):=by
 unfold qlh
 cases r with
 |nil=>exact zb8 c true|cons x r=>
  rw[a7 (by simp;omega),qht,qB,zb8];rfl
def qe(col:Nat):List UInt8->List UInt8
 |[]=>[]|[c]=>(if 76<col+(sgn c true).length then[61,13,10] else[])++sgn c true|c::d::r=>if c=13/\d=10 then 13::10::qe 0 r else
   if(if isL (d::r) then 76 else 75)<col+(sgn c (isL (d::r))).length then[61,13,10]++sgn c (isL (d::r))++qe (sgn c (isL (d::r))).length (d::r)
   else sgn c (isL (d::r))++qe (col+(sgn c (isL (d::r))).length) (d::r)
def q6z(fu:Nat)(r0:List UInt8->Int->Int->(Int×Int)->List UInt8->Option ((Int×Int)×List UInt8))(s0:List UInt8)(col i:Nat)(m16:Int×Int)(out u:List UInt8)(hc:col<=1000)(hi:i<1000000000)(ho:out.length+u.length<=ax)(hu:u.length<=10) :
  qfq fu r0 s0 (col:Int) (i:Int) m16 out u=r0 s0 ((col+u.length:Nat):Int) ((i+1:Nat):Int) m16 (out++u):=by
 unfold qfq;rw[ag,ay _]
 have:af ((col:Int)+(u.length:Int))=((col+u.length:Nat):Int):=by rw[cm];omega
 rw[this]
def qw1(fu:Nat)(r0:List UInt8->Int->Int->(Int×Int)->List UInt8->Option ((Int×Int)×List UInt8))(s0:List UInt8)(col i most:Nat)(m16:Int×Int)(out u:List UInt8)(hc:col<=900)(hi:i<1000000000)(ho:out.length+u.length+3<=ax)(hu:u.length<=10) :
  qfp fu r0 s0 (col:Int) (i:Int) (most:Int) m16 out u =
   if most<col+u.length then r0 s0 (u.length:Int) ((i+1:Nat):Int) m16 (out++[61,13,10]++u) else r0 s0 ((col+u.length:Nat):Int) ((i+1:Nat):Int) m16 (out++u):=by
 unfold qfp;have:af ((col:Int)+(u.length:Int))=((col+u.length:Nat):Int):=by rw[cm];omega
 rw[this,cd];by_cases c:most<col+u.length
 ·rw[qX (show(most:Int)<((col+u.length:Nat):Int) by omega),qX c,ag]
  have:=q6z fu r0 s0 0 i m16 (out++[61,13,10]) u (by omega) hi (by simp;omega) hu
  rw[wO]at this;exact this
 ·rw[qW (show ¬(most:Int)<((col+u.length:Nat):Int) by omega),qW c]
  exact q6z fu r0 s0 col i m16 out u (by omega) hi (by omega) hu
def pd{α:Type}(ab:List α)(aa:List α):List.drop ((ab.length:Nat):Int).toNat (ab++aa)=aa:=by simp
def vg{α:Type}(ab:List α)(c:α)(aa:List α):List.drop ((ab.length+1:Nat):Int).toNat (ab++c::aa)=aa:=by
 rw[show((ab.length+1:Nat):Int).toNat=(ab++[c]).length by simp,show ab++c::aa=(ab++[c])++aa by simp]
 simp
def zqi(fu n:Nat)(m16:Int×Int):∀(ab aa:List UInt8)(col:Nat)(out:List UInt8),aa.length<n->ab.length+aa.length<100000000->col<=80->out.length+8*aa.length<=1000000000 ->
  sr fu n (ab++aa) (col:Int) (ab.length:Int) m16 out=some ((0,0),out++qe col aa):=by
 induction n with
 |zero=>intro ab aa col out h;omega|succ n ih=>
  intro ab aa col out h hb hc ho
  cases aa with
  |nil=>
   rw[sr,qle,au]
   simp[ci,qe]
  |cons c aa=>
   simp only[qL]at h hb ho;rw[sr,qle,ag,ag,pd,qht,qB,ay _]
   have step:∀(col':Nat)(u:List UInt8),col'<=80->u.length<=8->sr fu n (ab++c::aa) (col':Int) ((ab.length+1:Nat):Int) m16 (out++u)=some ((0,0),out++u++qe col' aa):=by
    intro col' u h1 h2;have:=ih (ab++[c]) aa col' (out++u) (by omega) (by simp;omega) h1 (by simp;omega)
    simpa using this
   have ac:=sgn_len c (qne aa)
   cases aa with
   |nil=>
    rw[a7 (show isL [c]=false from rfl),ag,bt,qB,vg,zcc,qB,au]
    unfold qfo;rw[a7 rfl,show(76:Int)=((76:Nat):Int) from rfl,qw1 fu _ _ col ab.length 76 m16 out _ (by omega) (by omega) (by simp only[ax];omega) (by omega)]
    simp only[qe];have e:qne ([]:List UInt8)=true:=rfl;rw[e]at ac ⊢;by_cases k:76<col+(sgn c true).length
    ·rw[qX k,qX k];have:=step (sgn c true).length ([61,13,10]++sgn c true) (by omega) (by simp;omega)
     simpa [qe] using this
    ·rw[qW k,qW k];have:=step (col+(sgn c true).length) (sgn c true) (by omega) (by omega)
     simpa [qe] using this
   |cons d r=>
    simp only[qL]at h hb ho;by_cases k:c=13/\d=10
    ·rw[a8 (show isL (c::d::r)=true by simp[isL,k]),ag (by simp[ax];omega),ay _]
     have:=ih (ab++[c,d]) r 0 (out++[13,10]) (by omega) (by simp;omega) (by omega) (by simp;omega)
     simp only[qM,qL,qZ,wO,qS,wK,List.nil_append]at this;simp only[qe];rw[qX k];simpa [Int.add_assoc] using this
    ·have hk:isL (c::d::r)=false:=by
      simp only[isL];by_cases k1:c=13
      ·have:d≠10:=fun q=>k ⟨k1,q⟩
       simp[this]
      ·simp[k1]
     rw[a7 hk,ag,bt,qB,vg,zcc,qB,ag (by simp<;>omega),qht,qB]
     have e:qne (d::r)=isL (d::r):=rfl;rw[e]at ac ⊢;unfold qfo;simp only[qe];rw[qW k];have fin:∀most:Nat,most<=76->(if most<col+(sgn c (isL (d::r))).length then sr fu n (ab++c::d::r) ((sgn c (isL (d::r))).length:Int) ((ab.length+1:Nat):Int) m16 (out++[61,13,10]++sgn c (isL (d::r))) else sr fu n (ab++c::d::r) ((col+(sgn c (isL (d::r))).length:Nat):Int) ((ab.length+1:Nat):Int) m16 (out++sgn c (isL (d::r))))=some ((0,0),out++(if most<col+(sgn c (isL (d::r))).length then[61,13,10]++sgn c (isL (d::r))++qe (sgn c (isL (d::r))).length (d::r) else sgn c (isL (d::r))++qe (col+(sgn c (isL (d::r))).length) (d::r))):=by
      intro most hmost;by_cases q:most<col+(sgn c (isL (d::r))).length
      ·rw[qX q,qX q];have:=step (sgn c (isL (d::r))).length ([61,13,10]++sgn c (isL (d::r))) (by omega) (by simp;omega)
       simpa using this
      ·rw[qW q,qW q];have:=step (col+(sgn c (isL (d::r))).length) (sgn c (isL (d::r))) (by omega) (by omega)
       simpa using this
     cases hl:isL (d::r)
     ·rw[a8 (show(!false)=true from rfl),show(75:Int)=((75:Nat):Int) from rfl,qw1 fu _ _ col ab.length 75 m16 out _ (by omega) (by omega) (by rw[hl]at ac;simp only[ax];omega) (by rw[hl]at ac;omega)]
      have:=fin 75 (by omega)
      rw[hl]at this;simpa using this
     ·rw[a7 (show(!true)=false from rfl),show(76:Int)=((76:Nat):Int) from rfl,qw1 fu _ _ col ab.length 76 m16 out _ (by omega) (by omega) (by rw[hl]at ac;simp only[ax];omega) (by rw[hl]at ac;omega)]
      have:=fin 76 (by omega)
      rw[hl]at this;simpa using this
end Go.Sym.Tr
namespace Go.Sym.Tr
def zqh(fu:Nat)(b:List UInt8)(hf:b.length<fu:=by omega)(hb:b.length<=12000:=by omega):qld fu b=some ((0,0),qe 0 b):=by
 unfold qld;rw[au]
 have:=zqi fu fu (0,0) [] b 0 [] hf (by simp;omega) (by omega) (by simp;omega)
 exact this
def blB(c:UInt8):Bool:=bif c==32 then true else c==9
def qh9(c:UInt8):r9 c=some (blB c):=by unfold r9 blB;cases c==32<;>rfl
def un:List UInt8->List (List UInt8)|[]=>[]|c::r=>sgn c r.isEmpty::un r
end Go.Sym.Tr
namespace Go.Sym.Tr
def sp:List UInt8->List UInt8×List UInt8|[]=>([],[])|c::r=>if isL (c::r) then([],c::r) else(c::(sp r).1,(sp r).2)
end Go.Sym.Tr
namespace Go.Sym.Tr
def qm4(s:List UInt8):gy s=0\/gy s=1\/gy s=2\/gy s=3\/gy s = -1:=by
 unfold gy;split
 ·exact .inl rfl
 ·split
  ·exact .inr (.inl rfl)
  ·split
   ·exact .inr (.inr (.inl rfl))
   ·split
    ·exact .inr (.inr (.inr (.inl rfl)))
    ·exact .inr (.inr (.inr (.inr rfl)))
def encR(b name:List UInt8):(Int×Int)×List UInt8:=
 if gy name = -1 then((18,-3),[]) else if 12000<b.length then((1,-1),[]) else
 if gy name=0 then(if 0<=px b false then((17,px b false),[]) else((0,0),b)) else
 if gy name=1 then(if 0<=px b true then((17,px b true),[]) else((0,0),b)) else
 if gy name=2 then((0,0),lines76 (e64 b)) else((0,0),qe 0 b)
def qwo(b:List UInt8)(h:b.length<=12000:=by omega):qgf b=some ((0,0),b):=by
 unfold qgf ci;rw[ag (by simp only[ax];omega)];rfl
def zae(fu:Nat)(b:List UInt8)(e:Bool)(hf:12000<fu:=by omega)(h:b.length<=12000:=by omega):(ql4 fu b (if e then 255 else 127)).bind (fun x=>some (x.1,x.2.2))=some (if 0<=px b e then((17,px b e),[]) else((0,0),b)):=by
 unfold ql4 bn;rw[zus fu b e,qB,qwo b h,cd]
 split<;>rfl
def encode_eq(fu:Nat)(b name:List UInt8)(hf:100000+name.length<fu)(hn:name.length<=maxLen):qge fu b name=some (encR b name):=by
 unfold qge qgg;rw[q7e fu name (by omega) (by omega) hn]
 simp only[qB,bn,ci,c7];unfold encR;rcases qm4 name with h|h|h|h|h<;>rw[h]
 ·by_cases hl:12000<b.length
  ·have hi:(12000:Int)<(b.length:Int):=by omega
   simp[bh,hl,hi]
  ·have hi:¬(12000:Int)<(b.length:Int):=by omega
   have:=zae fu b false
   simp[bh,hl,hi]at this ⊢;exact this
 ·by_cases hl:12000<b.length
  ·have hi:(12000:Int)<(b.length:Int):=by omega
   simp[bh,hl,hi]
  ·have hi:¬(12000:Int)<(b.length:Int):=by omega
   have:=zae fu b true
   simp[bh,hl,hi]at this ⊢;exact this
 ·by_cases hl:12000<b.length
  ·have hi:(12000:Int)<(b.length:Int):=by omega
   simp[bh,hl,hi]
  ·have hi:¬(12000:Int)<(b.length:Int):=by omega
   simp[bh,hl,hi,zlp fu b]
 ·by_cases hl:12000<b.length
  ·have hi:(12000:Int)<(b.length:Int):=by omega
   simp[bh,hl,hi]
  ·have hi:¬(12000:Int)<(b.length:Int):=by omega
   simp[bh,hl,hi,zqh fu b]
 ·simp[bh]
end Go.Sym.Tr
namespace Go.Sym.Tr
def iu(c:UInt8):Int:=Lib.indexByte mp c
def zt5:∀n:_root_.Fin 256,iu (UInt8.ofNat n.val) = -1\/(0<=iu (UInt8.ofNat n.val)/\iu (UInt8.ofNat n.val)<64):=by decide +kernel
def zt6(c:UInt8):iu c = -1\/(0<=iu c/\iu c<64):=iv (fun c=>iu c = -1\/(0<=iu c/\iu c<64)) zt5 c
def six(v:Nat):List Nat:=[v/32%2,v/16%2,v/8%2,v/4%2,v/2%2,v%2]
def dbits:List UInt8->List Nat|[]=>[]|c::r=>if c=61 then[] else if iu c<0 then dbits r else six (iu c).toNat++dbits r
def by8:List Nat->List UInt8|a::b::c::d::e::f::g::h::r=>jy ((ck 0 [a,b,c,d,e,f,g,h]:Nat):Int)::by8 r|_=>[]
def qzm:∀(l:List Nat)(a:Nat),ck a l=a*2 ^ l.length+ck 0 l
 |[],a=>by simp[ck]|x::l,a=>by
  rw[ck,ck,qzm l (2*a+x),qzm l (2*0+x),qL,Nat.pow_succ,Nat.add_mul,Nat.add_mul];have:2*a*2 ^ l.length=a*(2 ^ l.length*2):=by rw[Nat.mul_comm 2 a,Nat.mul_assoc,Nat.mul_comm 2]
  omega
def qzl:∀(l m:List Nat)(a:Nat),ck a (l++m)=ck (ck a l) m|[],_,_=>rfl|x::l,m,a=>qzl l m (2*a+x)
def zsd(a v:Nat)(h:v<64):ck a (six v)=64*a+v:=by
 simp only[six,ck];omega
def zsc(v:Nat):∀x∈six v,x<=1:=by
 intro x hx;simp only[six,wE,List.not_mem_nil,or_false]at hx;omega
def q5s(q r:List Nat)(h:8<=q.length:=by omega):by8 (q++r)=jy ((ck 0 (q.take 8):Nat):Int)::by8 (q.drop 8++r):=by
 match q,h with|a::b::c::d::e::f::g::i::t,_=>simp[by8]
def by8_short(q:List Nat)(h:q.length<8):by8 q=[]:=by
 match q,h with|[],_=>rfl|[_],_=>rfl|[_,_],_=>rfl|[_,_,_],_=>rfl|[_,_,_,_],_=>rfl|[_,_,_,_,_],_=>rfl|[_,_,_,_,_,_],_=>rfl|[_,_,_,_,_,_,_],_=>rfl|_::_::_::_::_::_::_::_::_,h=>simp at h;omega
def or6(x v:Nat)(h:x<1099511627776)(hv:v<64):af (((BitVec.ofInt 64 (af ((x:Int)*2 ^ min (6:Int).toNat 64))|||BitVec.ofInt 64 (v:Int)).toNat:Int))=((64*x+v:Nat):Int):=by
 have e:af ((x:Int)*2 ^ min (6:Int).toNat 64)=((64*x:Nat):Int):=by
  rw[show(2:Int) ^ min (6:Int).toNat 64=64 by decide,cm];omega
 rw[e,BitVec.toNat_or,rl _,rl _]
 have:=Nat.two_pow_add_eq_or_of_lt (i:=6) (b:=v) (by simpa using hv) x
 rw[← show 2 ^ 6*x+v=64*x|||v from this]
 rw[cm]
def zic(x k:Nat)(h:x<1099511627776:=by omega)(hk:k<=20:=by omega):af (((BitVec.ofInt 64 (x:Int)&&&BitVec.ofInt 64 (af ((af ((1:Int)*2 ^ min (k:Int).toNat 64))-(1:Int)))).toNat:Int))=((x%2 ^ k:Nat):Int):=by
 have e1:min (k:Int).toNat 64=k:=by omega
 have hp:2 ^ k<=2 ^ 20:=Nat.pow_le_pow_right (by omega) hk
 have hp1:1<=2 ^ k:=Nat.one_le_two_pow;have e2:af ((1:Int)*2 ^ k)=((2 ^ k:Nat):Int):=by
  have:((2:Int) ^ k)=((2 ^ k:Nat):Int):=by simp
  rw[this,cm];omega
 have e3:af (((2 ^ k:Nat):Int)-1)=((2 ^ k-1:Nat):Int):=by rw[cm];omega
 have hm:x%2 ^ k<=x:=Nat.mod_le _ _;rw[e1,e2,e3,BitVec.toNat_and,rl _,rl _,Nat.and_two_pow_sub_one_eq_mod,cm]
end Go.Sym.Tr
namespace Go.Sym.Tr
def zs3(q:List Nat)(k:Nat)(h1:∀x∈q,x<=1):ck 0 (q.take k)=ck 0 q/2 ^ (q.length-k)/\ck 0 (q.drop k)=ck 0 q%2 ^ (q.length-k):=by
 have e:ck 0 q=ck 0 (q.take k)*2 ^ (q.drop k).length+ck 0 (q.drop k):=by
  rw[← qzm,← qzl,List.take_append_drop]
 have hd:=qpe (q.drop k) 0 (fun x hx=>h1 x (List.mem_of_mem_drop hx))
 rw[List.length_drop]at e hd;have hlt:ck 0 (q.drop k)<2 ^ (q.length-k):=by omega
 rw[e,Nat.mul_comm,Nat.mul_add_div (by omega),Nat.mul_add_mod,Nat.div_eq_of_lt hlt,Nat.mod_eq_of_lt hlt]
 simp
def zn0(fu n:Nat)(m16:Int×Int):∀(ab aa:List UInt8)(p:List Nat)(out:List UInt8),aa.length<n->ab.length+aa.length<100000000->p.length<8->(∀x∈p,x<=1)->out.length+aa.length<=1000000000 ->
  xh fu n ((ck 0 p:Nat):Int) (p.length:Int) (ab++aa) ((ab.length+aa.length:Nat):Int) (ab.length:Int) m16 out=some ((0,0),out++by8 (p++dbits aa)):=by
 induction n with
 |zero=>intro ab aa p out h;omega|succ n ih=>
  intro ab aa p out h hb hp h1 ho
  cases aa with
  |nil=>
   rw[xh,qj4,au]
   simp[ci,dbits,by8_short p hp]
  |cons c aa=>
   simp only[qL]at h hb ho;have nxt:∀(p:List Nat)(out:List UInt8),p.length<8->(∀x∈p,x<=1)->out.length+aa.length<=1000000000->xh fu n ((ck 0 p:Nat):Int) (p.length:Int) (ab++c::aa) ((ab.length+(aa.length+1):Nat):Int) ((ab.length+1:Nat):Int) m16 out=some ((0,0),out++by8 (p++dbits aa)):=by
    intro p out h2 h3 h4;have:=ih (ab++[c]) aa p out (by omega) (by simp;omega) h2 h3 h4
    simp only[qM,qL,qZ,wO,qS,wK,List.nil_append]at this;rw[show ab.length+(aa.length+1)=ab.length+1+aa.length by omega]
    exact this
   rw[xh,qj4,ag,bt,qB,kg]
   simp only[qL];by_cases k:c=61
   ·rw[qX k];simp[ci,dbits,k,by8_short p hp]
   ·rw[qW k,ag (by decide)]
    rw[show([65,66,67,68,69,70,71,72,73,74,75,76,77,78,79,80,81,82,83,84,85,86,87,88,89,90,97,98,99,100,101,102,103,104,105,106,107,108,109,110,111,112,113,114,115,116,117,118,119,120,121,122,48,49,50,51,52,53,54,55,56,57,43,47]:List UInt8)=mp from rfl,show sk mp c=some (iu c) from rfl,qB,ay _,cd]
    rcases zt6 c with hv|⟨hv,hv2⟩
    ·rw[hv,qX (by decide),nxt p out hp h1 (by omega)]
     simp[dbits,k,hv]
    ·obtain⟨v,hvv⟩:∃v:Nat,iu c=(v:Int):=⟨(iu c).toNat,by omega⟩
     have hv64:v<64:=by omega
     have hd:dbits (c::aa)=six v++dbits aa:=by
      rw[dbits,qW k,qW (by omega),hvv];rfl
     have hq:ck 0 (p++six v)=64*ck 0 p+v:=by rw[qzl,zsd _ _ hv64]
     have hpl:=qpe p 0 h1;have hp2:2 ^ p.length<=2 ^ 7:=Nat.pow_le_pow_right (by omega) (by omega)
     have hql:(p++six v).length=p.length+6:=by simp[six]
     have hq1:∀x∈p++six v,x<=1:=fun x hx=>by
      rcases List.mem_append.1 hx with hx|hx
      ·exact h1 x hx
      ·exact zsc v x hx
     rw[hvv,qW (by omega),or6 _ _ (by omega) hv64,← hq,hd,← qS]
     have e6:af ((p.length:Int)+6)=((p.length+6:Nat):Int):=by rw[cm];omega
     rw[e6,cd];by_cases h8:8<=p.length+6
     ·have e8:af (((p.length+6:Nat):Int)-8)=((p.length+6-8:Nat):Int):=by rw[cm];omega
      rw[qX,e8,ag,ag (by simp[ax];omega),ag]
      rw[zic _ _]
      obtain⟨s1,s2⟩:=zs3 (p++six v) 8 hq1;rw[hql]at s1 s2;rw[← s2,q5s _ _]
      have e9:Int.fdiv ((ck 0 (p++six v):Nat):Int) (2 ^ min (((p.length+6-8:Nat):Int)).toNat 64)=((ck 0 ((p++six v).take 8):Nat):Int):=by
       rw[s1,show min (((p.length+6-8:Nat):Int)).toNat 64=p.length+6-8 by omega,Int.fdiv_eq_ediv_of_nonneg _ (by exact Int.le_of_lt (Int.pow_pos (by decide)))]
       simp
      rw[e9];have:=nxt ((p++six v).drop 8) (out++[jy ((ck 0 ((p++six v).take 8):Nat):Int)]) (by simp[six];omega) (fun x hx=>hq1 x (List.mem_of_mem_drop hx)) (by simp;omega)
      rw[List.length_drop,hql]at this;rw[this];simp
     ·rw[qW (by omega)]
      have:=nxt (p++six v) out (by omega) hq1 (by omega)
      rw[hql]at this;exact this
end Go.Sym.Tr
namespace Go.Sym.Tr
end Go.Sym.Tr
namespace Go.Sym.Tr
end Go.Sym.Tr
namespace Go.Sym.Tr
end Go.Sym.Tr
namespace Go.Sym.Tr
def znz(fu:Nat)(b:List UInt8)(hb:b.length<=24000:=by omega)(hf:b.length<fu:=by omega):qj3 fu b=some ((0,0),by8 (dbits b)):=by
 unfold qj3;rw[au]
 have:=zn0 fu fu (0,0) [] b [] [] hf (by simp;omega) (by simp) (fun _ h=>by cases h) (by simp;omega)
 simpa [ck] using this
end Go.Sym.Tr
namespace Go.Sym.Tr
def qwr:∀(x y z:List UInt8),dbits y=dbits z->dbits (x++y)=dbits (x++z)
 |[],_,_,h=>h|c::x,y,z,h=>by
  simp only[wK,dbits];rw[qwr x y z h]
def q6l(y:List UInt8):dbits (13::10::y)=dbits y:=by
 have h1:iu 13<0:=by decide +kernel
 have h2:iu 10<0:=by decide +kernel
 rw[dbits,qW (by decide),qX h1,dbits,qW (by decide),qX h2]
def zk3:∀(n:Nat)(s:List UInt8),s.length<n->dbits (pt n s)=dbits s:=by
 intro n
 induction n with
 |zero=>intro s h;omega|succ n ih=>
  intro s h;rw[pt];by_cases c:76<s.length
  ·rw[qX c,qS];have e:dbits ([13,10]++pt n (s.drop 76))=dbits (s.drop 76):=by
    rw[show([13,10]:List UInt8)++pt n (s.drop 76)=13::10::pt n (s.drop 76) from rfl,q6l,ih _ (by simp;omega)]
   rw[qwr _ _ _ e,List.take_append_drop]
  ·rw[qW c];by_cases k:s=[]
   ·rw[qX k,k]
   ·rw[qW k];have:=qwr s [13,10] [] (q6l []);rw[List.append_nil]at this;exact this
def zk2(s:List UInt8):dbits (lines76 s)=dbits s:=zk3 _ s (by omega)
def zh4:∀n:_root_.Fin 64,iu (al n.val)=(n.val:Int)/\al n.val≠61/\32<=al n.val/\al n.val<=126:=by decide +kernel
def zh5(k:Nat)(h:k<64):iu (al k)=(k:Int)/\al k≠61/\32<=al k/\al k<=126:=zh4 ⟨k,h⟩
def q6k:∀(q:List Nat)(r:List UInt8),q.length%6=0->(∀x∈q,x<=1)->dbits (ve q++r)=q++dbits r
 |[],_,_,_=>rfl|[_],_,h,_=>by simp at h|[_,_],_,h,_=>by simp at h|[_,_,_],_,h,_=>by simp at h|[_,_,_,_],_,h,_=>by simp at h|[_,_,_,_,_],_,h,_=>by simp at h|a::b::c::d::e::f::q,r,h,h1=>by
  have hs:∀x∈[a,b,c,d,e,f],x<=1:=fun x hx=>h1 x (by simp at hx ⊢;omega)
  have hlt:=qpe [a,b,c,d,e,f] 0 hs;simp only[qL,qZ]at hlt;have hk:ck 0 [a,b,c,d,e,f]<64:=by omega
  obtain⟨k1,k2,_,_⟩:=zh5 _ hk;have ha:=hs a (by simp)
  have hb:=hs b (by simp)
  have hc:=hs c (by simp)
  have hd:=hs d (by simp)
  have he:=hs e (by simp)
  have hf:=hs f (by simp)
  rw[ve,wK,dbits,qW k2,qW (by rw[k1];omega),k1]
  rw[q6k q r (by simp only[qL]at h;omega) (fun x hx=>h1 x (by simp[hx]))]
  have e6:six ((ck 0 [a,b,c,d,e,f]:Nat):Int).toNat=[a,b,c,d,e,f]:=by
   rw[qY];simp only[six,ck,List.cons.injEq,and_true];refine⟨?_,?_,?_,?_,?_,?_⟩<;>omega
  rw[e6];rfl
def zk1(k:Nat):dbits (List.replicate k 61)=[]:=by
 cases k with|zero=>rfl|succ k=>rw[List.replicate_succ,dbits,qX rfl]
def zpb(s:List Nat):(ku s).length%6=0:=by
 unfold ku;rw[qM,List.length_replicate];omega
def zpc(s:List Nat)(h:∀x∈s,x<=1):∀x∈ku s,x<=1:=by
 intro x hx;unfold ku at hx;rcases List.mem_append.1 hx with hx|hx
 ·exact h x hx
 ·have:=List.eq_of_mem_replicate hx;omega
def zk0(b:List UInt8):dbits (e64 b)=ku (bits b):=by
 rw[← q6w,qc3,q6k _ _ (zpb _) (zpc _ (zjh b)),zk1,List.append_nil]
def zj1(c:UInt8)(r:List Nat):by8 (fh c++r)=c::by8 r:=by
 have hc:c.toNat<256:=c.toNat_lt;have e:ck 0 (fh c)=c.toNat:=by
  simp only[fh,ck];omega
 have:=q5s (fh c) r (by simp[fh])
 rw[this,show(fh c).take 8=fh c from rfl,show(fh c).drop 8=[] from rfl,List.nil_append,e]
 congr 1;show UInt8.ofNat ((c.toNat:Int)%256).toNat=c;rw[show((c.toNat:Int)%256).toNat=c.toNat by omega]
 simp
def q5t:∀(b:List UInt8)(k:Nat),k<8->by8 (bits b++List.replicate k 0)=b
 |[],k,h=>by
  rw[show bits []=[] from rfl,List.nil_append,by8_short _ (by simpa using h)]
 |c::b,k,h=>by
  rw[show bits (c::b)=fh c++bits b from rfl,qS,zj1,q5t b k h]
def zj2(b:List UInt8):by8 (dbits (lines76 (e64 b)))=b:=by
 rw[zk2,zk0,ku,q5t _ _ (by omega)]
end Go.Sym.Tr
namespace Go.Sym.Tr
def prt(x:UInt8):Prop:=x≠0/\x≠13/\x≠10/\¬(127:UInt8)<x
inductive OkL:Nat->List UInt8->Prop
 |nil (c:Nat):OkL c []
 |crlf (c:Nat) (r:List UInt8):OkL 0 r->OkL c (13::10::r)
 |chr (c:Nat) (x:UInt8) (r:List UInt8):prt x->c<998->OkL (c+1) r->OkL c (x::r)
def zsb:∀n:_root_.Fin 256,∀e:Bool,(sgn (UInt8.ofNat n.val) e).all (fun x=>x != 0&&x != 13&&x != 10 && !decide ((127:UInt8)<x))=true:=by decide +kernel
def zsa(c:UInt8)(e:Bool):∀x∈sgn c e,prt x:=by
 intro x hx;have:=List.all_eq_true.1 (iv (fun c=>∀e,(sgn c e).all (fun x=>x != 0&&x != 13&&x != 10 && !decide ((127:UInt8)<x))=true) zsb c e) x hx
 simp only[qA,bne_iff_ne,ne_eq,Bool.not_eq_true',decide_eq_false_iff_not]at this;exact⟨this.1.1.1,this.1.1.2,this.1.2,this.2⟩
end Go.Sym.Tr
