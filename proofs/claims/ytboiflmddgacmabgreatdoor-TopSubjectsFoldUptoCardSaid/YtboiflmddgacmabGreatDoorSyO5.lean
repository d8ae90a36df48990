/- What the claim rests on, part 5: gathered texts. -/
import Derived.Lib.CountLaws
import Derived.Lib.IndexLaws
import Derived.Lib.Join
import Derived.Test.YtboiflmddgacmabGreatDoorSyO3
set_option maxRecDepth 100000
set_option linter.defProp false
set_option linter.unusedSimpArgs false
set_option linter.unusedVariables false
namespace Go.Sym
def dr{x:Int}(h1 : -9223372036854775808<=x:=by omega)(h2:x<9223372036854775808:=by omega):af x=x:=by
 unfold af IntKind.wrap;simp[IntKind.signed,IntKind.bits];omega
def bh{α:Type}{b:Bool}{x y:α}(h:b=true:=by first|rfl|simp;done):(bif b then x else y)=x:=by subst h;rfl
def bi{α:Type}{b:Bool}{x y:α}(h:b=false):(bif b then x else y)=y:=by subst h;rfl
def dh{α:Type}{p:Prop}[Decidable p]{x y:α}:(bif decide p then x else y)=if p then x else y:=by by_cases h:p<;>simp[h]
def am{α:Type}{p:Prop}[Decidable p]{x y:α}(h:p:=by first|omega|simp;done|simp;omega):(bif decide p then x else y)=x:=bh (decide_eq_true h)
def be{α:Type}{p:Prop}[Decidable p]{x y:α}(h:¬p:=by first|omega|simp;done|simp;omega):(bif decide p then x else y)=y:=bi (decide_eq_false h)
def qcj{α:Type}{a b:Int}{x y:α}:(bif a != b then x else y)=if a≠b then x else y:=by
 by_cases h:a=b
 ·rw[bi (by simp[h]),qW (by simp[h])]
 ·rw[bh (by simp[h]),qX h]
def nr{α:Type}{a b:Int}{x y:α}:(bif a==b then x else y)=if a=b then x else y:=by
 by_cases h:a=b
 ·rw[bh (by simp[h]),qX h]
 ·rw[bi (by simp[h]),qW h]
def qrc{α:Type}{a b:UInt8}{x y:α}:(bif a==b then x else y)=if a=b then x else y:=by
 by_cases h:a=b
 ·rw[bh (by simp[h]),qX h]
 ·rw[bi (by simp[h]),qW h]
def ze1{α:Type}{a b:UInt8}{x y:α}:(bif a != b then x else y)=if a≠b then x else y:=by
 by_cases h:a=b
 ·rw[bi (by simp[h]),qW (by simp[h])]
 ·rw[bh (by simp[h]),qX h]
def q76{α β:Type}(l:List α)(i:Int)(f:α->Option β):(bif decide (0<=i/\i.toNat<List.length l) then(l[i.toNat]?).bind f else none)=(ak l i).bind f:=by
 unfold ak;by_cases h:0<=i
 ·by_cases h2:i.toNat<l.length
  ·simp[h,h2]
  ·simp[h,h2]
 ·simp[h]
def qii{α:Type}(l:List α)(k:Nat)(h:k<l.length):ak l (k:Int)=some l[k]:=by
 unfold ak;rw[qX];simp[h]
def ej{α:Type}(ab:List α)(c:α)(aa:List α):ak (ab++c::aa) (ab.length:Int)=some c:=by
 unfold ak;rw[qX];simp
def qc2{α:Type}(ab:List α)(c:α)(aa:List α):(ab++c::aa)[((ab.length:Nat):Int).toNat]? = some c:=oC
def qud{α:Type}(ab:List α)(c d:α)(aa:List α):List.set (ab++c::aa) ((ab.length:Nat):Int).toNat d=ab++d::aa:=oC
def dd(k:Nat)(h:k<9223372036854775807:=by omega):af ((k:Int)+1)=((k+1:Nat):Int):=by rw[dr];omega
def yg(P:UInt8->Prop)(h:∀n:_root_.Fin 256,P (UInt8.ofNat n.val))(c:UInt8):P c:=by
 have:=h ⟨c.toNat,c.toNat_lt⟩;simpa using this
def lo(c:UInt8):UInt8:=if 65<=c/\c<=90 then c+32 else c
def bl(c:UInt8):Bool:=c==32||c==9
def jd(l:List UInt8):List UInt8:=(l.reverse.dropWhile bl).reverse
def mp(l:List UInt8):List UInt8:=l.dropWhile bl
def oh(l:List UInt8):List UInt8:=jd (mp l)
def qt8(t:List UInt8)(c:UInt8):jd (t++[c])=if bl c then jd t else t++[c]:=by
 unfold jd;rw[List.reverse_append,List.reverse_singleton,wM,List.dropWhile];cases bl c
 ·simp
 ·simp
def qjw(n:Nat)(h:n<1000000000:=by omega):af (((n+1:Nat):Int)-1)=(n:Int):=by rw[dr];omega
def qsw{α:Type}(t:List α)(c:α):ak (t++[c]) (t.length:Int)=some c:=ej t c []
def zln{α:Type}(t:List α)(c:α):List.take ((t.length:Nat):Int).toNat (t++[c])=t:=oC
def qin{α:Type}(t:List α)(c:α):((t++[c]).length:Int)=((t.length+1:Nat):Int):=oC
def zh4{α:Type}(ab:List α)(c:α)(aa:List α):((ab++c::aa).length:Int)=((ab.length+aa.length+1:Nat):Int):=by simp;omega
def zhc(k:UInt8)(t r:List UInt8)(h:∀x∈t,x≠k):Lib.indexByte (t++k::r) k=(t.length:Int):=by
 induction t with
 |nil=>simp[Lib.indexByte]|cons c t ih=>
  have hc:=h c qH;rw[wK,Lib.indexByte,ih (fun x hx=>h x (qE _ hx)),qW (by simpa using hc),qW (by simp<;>omega)]
  simp
def q5l(k:UInt8)(t:List UInt8)(h:∀x∈t,x≠k):Lib.indexByte t k = -1:=by
 induction t with
 |nil=>rfl|cons c t ih=>
  have hc:=h c qH;rw[Lib.indexByte,ih (fun x hx=>h x (qE _ hx)),qW (by simpa using hc),qX oE]
def q8z(k:UInt8):∀(s:List UInt8),(∃t r,s=t++k::r/\∀x∈t,x≠k)\/∀x∈s,x≠k
 |[] => .inr (fun _ h=>by cases h)
 |c::s=>by
  by_cases hc:c=k
  ·subst hc;exact .inl ⟨[],s,rfl,fun _ h=>by cases h⟩
  ·rcases q8z k s with⟨t,r,rfl,h⟩|h
   ·exact .inl ⟨c::t,r,rfl,fun x hx=>(List.mem_cons.1 hx).elim (fun e=>e▸hc) (h x)⟩
   ·exact .inr fun x hx=>(List.mem_cons.1 hx).elim (fun e=>e▸hc) (h x)
def q5k(k:UInt8)(s:List UInt8):(0<=Lib.indexByte s k)↔k∈s:=by
 rcases q8z k s with⟨t,r,rfl,h⟩|h
 ·rw[zhc k t r h];simp
 ·rw[q5l k s h];constructor
  ·intro h;omega
  ·intro hk;exact absurd rfl (h k hk)
def l7{α:Type}{x y:α}:(bif !false then x else y)=x:=rfl
def di{α:Type}{x y:α}:(bif !true then x else y)=y:=rfl
def q26{a b:Nat}(h:a<b):Nat.blt a b=true:=Nat.ble_eq_true_of_le h
def q25{a b:Nat}(h:¬a<b):Nat.blt a b=false:=by
 cases hq:Nat.blt a b
 ·rfl
 ·exact absurd (Nat.le_of_ble_eq_true hq) h
def qst(l:List UInt8)(k:Nat)(c:UInt8)(h:l[k]? = some c):(⟨l.toArray⟩:ByteArray).get! k=c:=by
 obtain⟨hk,rfl⟩:=List.getElem?_eq_some_iff.1 h;show(l.toArray)[k]! = _;simp[hk]
def zku(l:List UInt8):(⟨l.toArray⟩:ByteArray).size=l.length:=by simp[ByteArray.size]
def q7d(s:List UInt8)(p:Nat)(c:UInt8)(h:s[p]? = some c)(hc:c.toNat<128):bz s p=(c.toNat,1):=by
 unfold bz Utf8.decode;simp only[Nat.add_zero,qst s p c h,hc,if_true]
def zjr(s:List UInt8)(p:Nat)(c:UInt8)(h:s[p]? = some c)(hc:128<=c.toNat):128<=(bz s p).1/\1<=(bz s p).2/\∀j,j<(bz s p).2->∃d,s[p+j]? = some d/\128<=d.toNat:=by
 have hn:¬c.toNat<128:=oA
 have cont:∀k,(decide (p+k<(⟨s.toArray⟩:ByteArray).size)&&((⟨s.toArray⟩:ByteArray).get! (p+k)).toNat/64==2)=true->∃d,s[p+k]? = some d/\128<=d.toNat:=by
  intro k hk;simp only[qA,decide_eq_true_eq,beq_iff_eq,zku]at hk;obtain⟨h1,h2⟩:=hk;refine⟨s[p+k],by simp[h1],?_⟩
  rw[qst s (p+k) s[p+k] (by simp[h1])]at h2
  omega
 have z:∀j,j<1->∃d,s[p+j]? = some d/\128<=d.toNat:=fun j hj=>by
  obtain rfl:j=0:=oA
  exact⟨c,h,hc⟩
 unfold bz Utf8.decode;simp only[Nat.add_zero,qst s p c h,hn,if_false];split
 ·rename_i hk;simp only[qA]at hk;have c1:=cont 1 (by simpa using hk.2)
  split
  ·rename_i hge;refine⟨hge,oC,fun j hj => ?_⟩
   match j,hj with|0,_=>exact⟨c,h,hc⟩|1,_=>exact c1
  ·exact⟨oU,wF _,z⟩
 ·split
  ·rename_i hk;simp only[qA]at hk;have c1:=cont 1 (by simpa using hk.1.2)
   have c2:=cont 2 (by simpa using hk.2)
   split
   ·rename_i hge;simp only[qA,decide_eq_true_eq]at hge;refine⟨oW,oC,fun j hj => ?_⟩
    match j,hj with|0,_=>exact⟨c,h,hc⟩|1,_=>exact c1|2,_=>exact c2
   ·exact⟨oU,wF _,z⟩
  ·split
   ·rename_i hk;simp only[qA]at hk;have c1:=cont 1 (by simpa using hk.1.1.2)
    have c2:=cont 2 (by simpa using hk.1.2)
    have c3:=cont 3 (by simpa using hk.2)
    split
    ·rename_i hge;simp only[qA,decide_eq_true_eq]at hge;refine⟨oW,oC,fun j hj => ?_⟩
     match j,hj with|0,_=>exact⟨c,h,hc⟩|1,_=>exact c1|2,_=>exact c2|3,_=>exact c3
    ·exact⟨oU,wF _,z⟩
   ·exact⟨oU,wF _,z⟩
def zjt(n:Int)(h:128<=n):∃t c,ib n=t++[c]/\128<=c.toNat/\t.length<=3:=by
 unfold ib Utf8.encode;have hc:∀c:Nat,(if Utf8.valid n=true then n.toNat else Utf8.runeError)=c->128<=c:=by
  intro c hc;split at hc
  ·omega
  ·subst hc;decide
 have last:∀m:Nat,128<=(UInt8.ofNat (0x80+m%64)).toNat:=fun m=>by
  simp only[UInt8.toNat_ofNat'];omega
 generalize hq:(if Utf8.valid n=true then n.toNat else Utf8.runeError)=c
 have hc:=hc c hq;simp only[];rw[qW oA]
 split
 ·exact⟨[_],_,rfl,last _,oC⟩
 ·split
  ·exact⟨[_,_],_,rfl,last _,oC⟩
  ·exact⟨[_,_,_],_,rfl,last _,oC⟩
def qta(c:UInt8):(c+97)-65=c+32:=by
 rw[UInt8.sub_eq_add_neg,UInt8.add_assoc];rfl
def qda(fu:Nat):∀(n:Nat)(ab aa:List UInt8),aa.length<n->ab.length+aa.length<=9223372036854775807 ->
  ox fu n ((ab.length+aa.length:Nat):Int) (ab.length:Int) (ab++aa)=some (ab++aa.map lo)
 |0,_,_,h,_=>absurd h oA|n+1,ab,[],_,_=>by simp[ox,wv]|n+1,ab,c::aa,h,hb=>by
  simp only[qL]at h hb;have ih:=fun d=>qda fu n (ab++[d]) aa oA oD
  simp only[qM,qL,qZ,qS,wM,wO]at ih;have e:((ab.length+(c::aa).length:Nat):Int)=((ab.length+1+aa.length:Nat):Int):=by simp only[qL];omega
  have hl:0<=(ab.length:Int)/\(ab.length:Int).toNat<(ab++c::aa).length:=oC
  rw[e];simp only[ox,wv];rw[am,am hl,qc2,qB,qud,dd _,dh,dh,ih,ih,am hl,qB]
  unfold lo;simp only[List.map_cons,qta];by_cases h1:(65:UInt8)<=c
  ·by_cases h2:c<=90
   ·simp[h1,h2]
   ·simp[h1,h2]
  ·simp[h1]
def qir(fu:Nat)(s:List UInt8)(h:s.length<fu)(hb:s.length<=maxLen):qp fu s=some (s.map lo):=by
 unfold qp;rw[am hb];have:=qda fu fu [] s h (by simpa [maxLen] using hb)
 simpa using this
def q3a(fu:Nat)(a b:List UInt8)(ha:a.length<fu)(hb:b.length<fu)(ha':a.length<=maxLen)(hb':b.length<=maxLen):dj fu a b=some (a.map lo==b.map lo):=by
 unfold dj;rw[nr,qir fu a ha ha',qir fu b hb hb'];by_cases h:(a.length:Int)=b.length
 ·rw[qX h];rfl
 ·rw[qW h];have:(a.map lo==b.map lo)=false:=by
   rw[beq_eq_false_iff_ne];intro q;apply h;have:=congrArg List.length q;simp only[wC]at this;omega
  rw[this]
open Go.Lib (decodeL decodeN decodeL_N validD validD_step decodeL_le decodeL_width)
def qd1(a b:Nat)(h:a+b<9223372036854775808:=by omega):af ((a:Int)+(b:Int))=((a+b:Nat):Int):=by rw[dr];omega
def qd0(rep:Bs):∀(n:Nat)(b:Bool)(l:Bs),l.length<=n->vu rep n b l=vu rep l.length b l:=by
 intro n
 induction n using Nat.strongRecOn with
 |ind n ih=>
  intro b l h
  cases l with
  |nil=>cases n<;>rfl
  |cons c t=>
   obtain⟨m,rfl⟩:∃m,n=m+1:=⟨n-1,by simp only[qL]at h;omega⟩
   simp only[qL]at h ⊢;have hw:=decodeL_width (c::t);rw[vu,vu];have hd:((c::t).drop (decodeL (c::t)).2).length<=t.length:=by rw[List.length_drop];simp only[qL];omega
   rw[ih m oA true t oA,ih m oA false _ oA]
   by_cases hm:t.length<m+1
   ·rw[ih t.length oA true t (wF _),ih t.length oA false _ hd]
   ·omega
end Go.Sym
namespace Go.Sym
def zlo(c:UInt8):cd (c.toNat:Int)=c:=by
 unfold cd;have:=c.toNat_lt;rw[show((c.toNat:Int)%256).toNat=c.toNat by omega]
 simp
def q8r(s:List UInt8)(c:UInt8):qbl s c=some (Lib.indexByte s c):=rfl
def zhp(fu:Nat)(cs:List UInt8)(c:UInt8)(h:c.toNat<128):qu fu cs (c.toNat:Int)=some (Lib.indexByte cs c):=by
 unfold qu qbm;rw[am,am,zlo,q8r];rfl
def zhn(fu n:Nat):∀(cs:List UInt8)(p:Nat),(∀c∈cs,c.toNat<128)->cs.length-p<n->p<=cs.length->qbn fu n cs p=some (-1):=by
 induction n with
 |zero=>intro cs p _ h;omega|succ n ih=>
  intro cs p hA h hp;rw[qbn,qog];by_cases hlt:p<cs.length
  ·have e:cs[p]? = some cs[p]:=List.getElem?_eq_getElem hlt;have hc:=hA cs[p] (List.getElem_mem hlt);rw[bh (q26 hlt),q7d cs p _ e hc,nr,qW oW]
   exact ih cs (p+1) hA oA oA
  ·rw[bi (q25 hlt)]
def zho(fu:Nat)(cs:List UInt8)(r:Int)(hr:128<=r)(hA:∀c∈cs,c.toNat<128)(hfu:cs.length<fu)(hb:cs.length<1000):qu fu cs r=some (-1):=by
 unfold qu qbm;rw[am,be,nr]
 by_cases h1:r=65533
 ·rw[qX h1];exact zhn fu fu cs 0 hA oA oA
 rw[qW h1];have hv:∃b,qf5 r=some b:=by
  unfold qf5;simp only[dh]
  repeat' split
  all_goals exact⟨_,rfl⟩
 obtain⟨b,hv⟩:=hv;rw[hv,qB];cases b
 ·rfl
 rw[show(!true)=false from rfl,qF]
 obtain⟨t,c,e,hc,ht⟩:=zjt r hr;rw[e,qin,qjw _]
 obtain⟨n,rfl⟩:∃n,fu=n+1:=⟨fu-1,oA⟩
 rw[qfu,qoh];by_cases hl:t.length<cs.length
 ·have hcs:=hA cs[t.length] (List.getElem_mem hl);have hne:cs[t.length]≠c:=fun e=>by rw[e]at hcs;omega
  rw[am,qii _ _ hl,qB,qsw,qB,ze1,qX hne,dd _,am,qB,q8r,qB,q5l,am oE]
  intro x hx e;have:=hA x (List.mem_of_mem_drop hx);rw[e]at this;omega
 ·rw[be]
def iv(cs:List UInt8):List Bool:=cs.foldl (fun m c=>m.set c.toNat true) (List.replicate 256 false)
structure AC(cs:List UInt8):Prop where
 two:2<=cs.length
 few:cs.length<100
 low:∀c∈cs,c.toNat<128
 set:∀n,xl (n+100) cs=some (iv cs,true)
 get:∀c:UInt8,(iv cs)[c.toNat]? = some (cs.contains c)
 len:(iv cs).length=256
def qrv{cs:List UInt8}(A:AC cs)(c:UInt8):xj c (iv cs)=some (cs.contains c,iv cs):=by
 unfold xj;rw[A.get];rfl
def zhd{cs:List UInt8}(A:AC cs)(fu n:Nat):∀(ab aa:List UInt8),aa.length<n->ab.length+aa.length<1000000000 ->
  ∃r,qbj fu n (ab++aa) (ab.length:Int) (iv cs)=some r/\decide (0<=r)=aa.any cs.contains:=by
 induction n with
 |zero=>intro ab aa h;omega|succ n ih=>
  intro ab aa h hb;rw[qbj,qod]
  cases aa with
  |nil=>rw[be];exact⟨-1,rfl,rfl⟩|cons c aa=>
   simp only[qL]at h hb;rw[zh4,am,ej,qB,qrv A,qB]
   cases hc:cs.contains c
   ·obtain⟨r,h1,h2⟩:=ih (ab++[c]) aa oA oD
    refine⟨r,?_,by rw[h2,List.any_cons,hc,Bool.false_or]⟩
    rw[dd _]
    simpa using h1
   ·exact⟨_,rfl,by rw[List.any_cons,hc,Bool.true_or];exact decide_eq_true oA⟩
def zhe{cs:List UInt8}(A:AC cs)(fu:Nat)(hfu:100<=fu)(s:List UInt8):∀(n p:Nat),s.length-p<n->p<=s.length ->
  ∃r,qbk fu n cs s p=some r/\decide (0<=r)=(s.drop p).any cs.contains:=by
 intro n
 induction n with
 |zero=>intro p h;omega|succ n ih=>
  intro p h hp;rw[qbk,qoe];by_cases hlt:p<s.length
  ·have e:s[p]? = some s[p]:=List.getElem?_eq_getElem hlt;have hd:s.drop p=s[p]::s.drop (p+1):=List.drop_eq_getElem_cons hlt;rw[bh (q26 hlt)];by_cases hc:s[p].toNat<128
   ·rw[q7d s p _ e hc];simp only;rw[zhp fu cs _ hc,qB,dh,hd,List.any_cons];by_cases hm:s[p]∈cs
    ·rw[qX ((q5k _ _).2 hm)];exact⟨_,rfl,by rw[show cs.contains s[p]=true by simpa using hm,Bool.true_or];exact decide_eq_true oA⟩
    ·rw[qW (fun h=>hm ((q5k _ _).1 h))]
     obtain⟨r,h1,h2⟩:=ih (p+1) oA oA
     exact⟨r,h1,by rw[h2,show cs.contains s[p]=false by simpa using hm,Bool.false_or]⟩
   ·obtain⟨q1,q2,q3⟩:=zjr s p _ e oA
    rw[zho fu cs _ oA A.low (by have:=A.few;omega) (by have:=A.few;omega),qB,be oE]
    have hle:p+(bz s p).2<=s.length:=by
     obtain⟨d,hd,_⟩:=q3 ((bz s p).2-1) oA
     have:=(List.getElem?_eq_some_iff.1 hd).1;omega
    obtain⟨r,h1,h2⟩:=ih (p+(bz s p).2) oA hle
    refine⟨r,h1,?_⟩;rw[h2];have:∀w,(∀j,j<w->∃d,s[p+j]? = some d/\128<=d.toNat)->(s.drop (p+w)).any cs.contains=(s.drop p).any cs.contains:=by
     intro w
     induction w with
     |zero=>intro _;rfl|succ w ihw=>
      intro hw;rw[← ihw (fun j hj=>hw j oA)]
      obtain⟨d,hd,hd2⟩:=hw w oA
      obtain⟨k1,k2⟩:=List.getElem?_eq_some_iff.1 hd;rw[List.drop_eq_getElem_cons k1,k2,List.any_cons,show cs.contains d=false by
       simp only[List.contains_eq_mem,decide_eq_false_iff_not];intro hm;have:=A.low d hm;omega,Bool.false_or]
      rfl
    exact this _ q3
  ·rw[bi (q25 hlt)];exact⟨-1,rfl,by rw[List.drop_eq_nil_of_le oA];rfl⟩
def q3z{cs:List UInt8}(A:AC cs)(fu:Nat)(s:List UInt8)(hfu:100<=fu)(h:s.length<fu)(hb:s.length<1000000000):qfq fu s cs=some (s.any cs.contains):=by
 unfold qfq;have:∃r,qfs fu s cs=some r/\decide (0<=r)=s.any cs.contains:=by
  unfold qfs;have h2:=A.two;rw[bi (by cases cs with
   |nil=>simp at h2| cons a b=>rfl),nr,qW oA]
  unfold qo7;rw[qB,dh];split
  ·obtain⟨n,rfl⟩:∃n,fu=n+100:=⟨fu-100,oA⟩
   rw[A.set,qB];simp only[A.len];rw[bh (by rw[List.length_replicate];rfl),bh]
   have:=zhd A (n+100) (n+100) [] s oA (by simpa using hb)
   simpa using this
  ·have:=zhe A fu hfu s fu 0 oA oA
   simpa [qft] using this
 obtain⟨r,h1,h2⟩:=this;rw[h1,qB,h2]
def zds:∀n:_root_.Fin 256,(iv [13,10,0])[(UInt8.ofNat n.val).toNat]? = some (([13,10,0]:List UInt8).contains (UInt8.ofNat n.val)):=by decide +kernel
def ac1:AC [13,10,0]:=⟨oE,oE,oE,fun n=>oB,fun c=>yg (fun c=>(iv [13,10,0])[c.toNat]? = some (([13,10,0]:List UInt8).contains c)) zds c,by decide +kernel⟩
def zdt:∀n:_root_.Fin 256,(iv [32,9])[(UInt8.ofNat n.val).toNat]? = some (([32,9]:List UInt8).contains (UInt8.ofNat n.val)):=by decide +kernel
def ac3:AC [32,9]:=⟨oE,oE,oE,fun n=>oB,fun c=>yg (fun c=>(iv [32,9])[c.toNat]? = some (([32,9]:List UInt8).contains c)) zdt c,by decide +kernel⟩
def q24(c:UInt8):([32,9]:List UInt8).contains c=bl c:=by rw[Bool.eq_iff_iff];simp[bl]
open Go.Lib (decodeL decodeN decodeL_N decodeL_le decodeL_width validD validD_step)
def cg(c:Nat):Bs:=if c<128 then[UInt8.ofNat c] else if c<2048 then[UInt8.ofNat (192+c/64),UInt8.ofNat (128+c%64)] else if c<65536 then[UInt8.ofNat (224+c/4096),UInt8.ofNat (128+c/64%64),UInt8.ofNat (128+c%64)] else[UInt8.ofNat (240+c/262144),UInt8.ofNat (128+c/4096%64),UInt8.ofNat (128+c/64%64),UInt8.ofNat (128+c%64)]
def zjs(r:Int):ib r=cg (if Utf8.valid r then r.toNat else 65533):=by
 have key:∀c:Nat,(if c<128 then(⟨#[UInt8.ofNat c]⟩:ByteArray) else if c<2048 then⟨#[UInt8.ofNat (192+c/64),UInt8.ofNat (128+c%64)]⟩ else if c<65536 then⟨#[UInt8.ofNat (224+c/4096),UInt8.ofNat (128+c/64%64),UInt8.ofNat (128+c%64)]⟩ else⟨#[UInt8.ofNat (240+c/262144),UInt8.ofNat (128+c/4096%64),UInt8.ofNat (128+c/64%64),UInt8.ofNat (128+c%64)]⟩).data.toList=cg c:=fun c=>by
  unfold cg;split
  ·rfl
  ·split
   ·rfl
   ·split<;>rfl
 exact key _
def g9(c:Nat):Prop:=c<55296\/(57344<=c/\c<=1114111)
def q7j{c:Nat}(h:g9 c):ib (c:Int)=cg c:=by
 rw[zjs];have:Utf8.valid (c:Int)=true:=by
  unfold g9 at h;unfold Utf8.valid;simp only[Bool.or_eq_true,qA,decide_eq_true_eq];omega
 rw[qX this];simp
def kw{c:Nat}:1<=(cg c).length/\(cg c).length<=4:=by
 unfold cg;repeat' split
 all_goals simp
def qsc{c:Nat}:cg c≠[]:=fun q=>by have:=kw (c:=c);rw[q]at this;simp at this
def mq(n:Nat)(h:n<256:=by omega):(UInt8.ofNat n).toNat=n:=by rw[UInt8.toNat_ofNat'];omega
def qr5{c:Nat}(h:g9 c)(t:Bs):decodeL (cg c++t)=(c,(cg c).length):=by
 unfold g9 at h;rw[decodeL_N];unfold cg;by_cases h1:c<128
 ·rw[qX h1];show decodeN (t.length+1) (UInt8.ofNat c).toNat _ _ _=_;rw[mq c]
  unfold decodeN;rw[qX h1];rfl
 rw[qW h1];by_cases h2:c<2048
 ·rw[qX h2];show decodeN (t.length+1+1) (UInt8.ofNat (192+c/64)).toNat (UInt8.ofNat (128+c%64)).toNat _ _=_;rw[mq _,mq _]
  unfold decodeN;rw[qW oA,qX ⟨oA,oA,oA⟩,qX,show(192+c/64)%32*64+(128+c%64)%64=c by omega];rfl
 rw[qW h2];by_cases h3:c<65536
 ·rw[qX h3];show decodeN (t.length+1+1+1) (UInt8.ofNat (224+c/4096)).toNat (UInt8.ofNat (128+c/64%64)).toNat (UInt8.ofNat (128+c%64)).toNat _=_;rw[mq _,mq _,mq _]
  have e:(224+c/4096)%16*4096+(128+c/64%64)%64*64+(128+c%64)%64=c:=oA
  unfold decodeN;rw[qW oA,qW oA,qX ⟨oA,⟨oA,oA⟩,oA,oA⟩,e,qX ⟨oA,oA⟩];rfl
 ·rw[qW h3];show decodeN (t.length+1+1+1+1) (UInt8.ofNat (240+c/262144)).toNat (UInt8.ofNat (128+c/4096%64)).toNat (UInt8.ofNat (128+c/64%64)).toNat (UInt8.ofNat (128+c%64)).toNat=_;rw[mq _,mq _,mq _,mq _]
  have e:(240+c/262144)%8*262144+(128+c/4096%64)%64*4096+(128+c/64%64)%64*64+(128+c%64)%64=c:=oA
  unfold decodeN;rw[qW oA,qW oA,qW oA,qX ⟨oA,⟨oA,oA⟩,⟨oA,oA⟩,oA,oA⟩,e,qX ⟨oA,oA⟩];rfl
def tx(R:List Nat):Bs:=R.flatMap cg
def qjp:tx []=[]:=rfl
def ic(c:Nat)(R:List Nat):tx (c::R)=cg c++tx R:=by simp[tx]
def ti(R S:List Nat):tx (R++S)=tx R++tx S:=by simp[tx]
def ia(R:List Nat):Prop:=∀c∈R,g9 c
def vp{c:Nat}{R:List Nat}(h:ia (c::R)):g9 c/\ia R:=⟨h c qH,fun d hd=>h d (qE _ hd)⟩
def qur(R:List Nat):R.length<=(tx R).length:=by
 induction R with|nil=>simp|cons c R ih=>rw[ic,qM,qL];have:=kw (c:=c);omega
def mz(R:List Nat):(tx R).length<=4*R.length:=by
 induction R with|nil=>simp[tx]|cons c R ih=>rw[ic,qM,qL];have:=kw (c:=c);omega
def qus{R:List Nat}(h:R≠[]):tx R≠[]:=by
 cases R with|nil=>exact absurd rfl h|cons c R=>rw[ic];intro q;exact qsc (List.append_eq_nil_iff.1 q).1
def zgd(l:Bs)(hne:l≠[])(hv:¬((decodeL l).1=65533/\(decodeL l).2=1)):g9 (decodeL l).1:=by
 have k:=Lib.decodeL_rune l;rw[decodeL_N]at *;unfold g9;unfold decodeN at *
 repeat' split at hv
 all_goals repeat' split
 all_goals simp only at *
 all_goals omega
def zgp{c:Nat}(h:g9 c):Lib.encodeRune (c:Int)=cg c:=by
 unfold g9 at h;unfold Lib.encodeRune cg;by_cases h1:c<128
 ·rw[Lib.encodeRuneZ_one oA oA,qX h1];rfl
 rw[qW h1];by_cases h2:c<2048
 ·rw[Lib.encodeRuneZ_two oA oA,qX h2];rfl
 rw[qW h2];by_cases h3:c<65536
 ·rw[Lib.encodeRuneZ_three oA,qX h3];rfl
 ·rw[Lib.encodeRuneZ_four oA oA,qW h3];rfl
def zl9:∀(n:Nat)(l:Bs),l.length<=n->validD l=true->∃R,ia R/\l=tx R:=by
 intro n
 induction n with
 |zero=>
  intro l hl _;have:l=[]:=List.eq_nil_of_length_eq_zero oA
  exact⟨[],(fun c hc=>by cases hc),this⟩
 |succ n ih=>
  intro l hl hv;by_cases hne:l=[]
  ·exact⟨[],(fun c hc=>by cases hc),hne⟩
  ·rw[validD_step l hne]at hv;split at hv
   ·cases hv
   ·rename_i hg;have w:=decodeL_width l;have wl:=decodeL_le l hne;obtain⟨R,h1,h2⟩:=ih (l.drop (decodeL l).2) (by rw[List.length_drop];omega) hv
    have ho:=zgd l hne hg;refine⟨(decodeL l).1::R,?_,?_⟩
    ·intro c hc;rcases List.mem_cons.1 hc with rfl|hc
     ·exact ho
     ·exact h1 c hc
    ·rw[ic,← h2];have e:=Lib.encode_decode l hne hg;rw[zgp ho]at e;rw[e,List.take_append_drop]
def qdm(ab:Bs){c:Nat}(h:g9 c)(t:Bs):bz (ab++(cg c++t)) ab.length=(c,(cg c).length):=by
 unfold bz;rw[← Lib.decodeL_drop];simp only[List.drop_left];exact qr5 h t
def qt6(R:List Nat)(h:ia R):gd (R.map fun c:Nat=>(c:Int))=tx R:=by
 induction R with
 |nil=>rfl|cons c R ih=>
  obtain⟨h1,h2⟩:=vp h;have e:gd ((c::R).map fun c:Nat=>(c:Int))=ib (c:Int)++gd (R.map fun c:Nat=>(c:Int)):=by simp[gd]
  rw[e,q7j h1,ih h2,ic]
def qcl{a b:Nat}(h:¬a<b):Nat.blt a b=false:=by
 cases q:Nat.blt a b
 ·rfl
 ·exact absurd (by simpa using q) h
def qcm{a b:Nat}(h:a<b):Nat.blt a b=true:=by
 cases q:Nat.blt a b
 ·exact absurd (by simpa using q) (by simpa using h)
 ·rfl
def zkn(f:Nat):∀(ab:Bs)(R:List Nat),ia R->R.length<=f->qe (ab++tx R) f ab.length=R.map fun c:Nat=>(c:Int):=by
 induction f with
 |zero=>
  intro ab R _ h;have:R=[]:=List.eq_nil_of_length_eq_zero oA
  subst this;rfl
 |succ f ih=>
  intro ab R hR h;rw[qe]
  cases R with
  |nil=>rw[qcl (by simp[tx])];rfl|cons c R=>
   obtain⟨h1,h2⟩:=vp hR;have ih:=ih (ab++cg c) R h2 (by simpa using h)
   have hl:=kw (c:=c);rw[ic,qcm oJ,bh rfl,qdm ab h1,List.map_cons]
   rw[qS,qM]at ih;rw[ih]
end Go.Sym
namespace Go.Sym
def q8b(c:UInt8)(s:List UInt8):jd (c::s)=if jd s=[] then(if bl c then[] else[c]) else c::jd s:=by
 unfold jd;rw[List.reverse_cons];generalize s.reverse=r
 induction r with
 |nil=>simp[List.dropWhile];cases bl c<;>rfl
 |cons x r ih=>
  rw[wK,List.dropWhile,List.dropWhile];cases bl x
  ·simp
  ·simpa using ih
def vj(c:UInt8)(s:List UInt8):mp (c::s)=if bl c then mp s else c::s:=by
 unfold mp;rw[List.dropWhile];cases bl c<;>rfl
def quq:∀s:List UInt8,mp (jd s)=oh s
 |[]=>rfl|c::s=>by
  unfold oh;have ih:=quq s;unfold oh at ih;rw[q8b,vj];cases hc:bl c
  ·simp only[wJ,if_false];rw[q8b,hc];simp only[wJ,if_false];split
   ·rw[vj,hc];rfl
   ·rw[vj,hc];rfl
  ·simp only[if_true];rw[← ih];split
   ·rename_i h;rw[h]
   ·rw[vj,hc];rfl
def qt7(s:List UInt8):(jd s).length<=s.length:=by
 unfold jd;rw[List.length_reverse];have:=(List.dropWhile_sublist bl (l:=s.reverse)).length_le;simpa using this
def q58(s:List UInt8):(mp s).length<=s.length:=(List.dropWhile_sublist bl).length_le
def qhn(s:List UInt8):Bool := !(s.head?.any bl) && !(s.getLast?.any bl)
def zlv(s:List UInt8):decide (oh s=s)=qhn s:=by
 unfold qhn;cases hf:s.head?.any bl
 ·cases hl:s.getLast?.any bl
  ·rw[decide_eq_true];rfl;unfold oh;have h1:mp s=s:=by
    cases s with|nil=>rfl|cons c s=>rw[vj];simp at hf;rw[hf];rfl
   rw[h1];rcases List.eq_nil_or_concat s with rfl|⟨t,c,rfl⟩
   ·rfl
   ·rw[List.concat_eq_append]at *;rw[qt8];simp at hl;rw[hl];rfl
  ·rw[decide_eq_false];rfl;rw[← quq];rcases List.eq_nil_or_concat s with rfl|⟨t,c,rfl⟩
   ·simp at hl
   ·rw[List.concat_eq_append]at *;simp at hl;rw[qt8,hl,qX rfl];intro e;have:=Nat.le_trans (q58 (jd t)) (qt7 t);rw[e]at this;simp at this;omega
 ·rw[decide_eq_false];rfl
  cases s with
  |nil=>simp at hf|cons c s=>
   simp at hf;unfold oh;rw[vj,hf,qX rfl];intro e;have:=Nat.le_trans (qt7 (mp s)) (q58 s);rw[e]at this;simp at this;omega
def qg7(c:UInt8):gl c=some (bl c):=by unfold gl bl;cases c==32<;>rfl
def zgx(f:Int×Int):cy f=some (f.1 != 0):=rfl
def qdf(c:UInt8):Bool:=decide (33<=c)&&decide (c<=126)&&c != 58
def sg(s:List UInt8):Bool:=s != []&&decide (s.length<=60)&&s.all qdf
def zik(c:UInt8):qe5 c=some (qdf c):=by
 unfold qe5 qdf;cases decide (33<=c)<;>cases decide (c<=126)<;>rfl
def zd0(fu n:Nat):∀(ab aa:List UInt8),aa.length<n->ab.length+aa.length<1000000000 ->
  qap fu n (ab++aa) ((ab.length+aa.length:Nat):Int) (ab.length:Int)=some (aa.all qdf):=by
 induction n with
 |zero=>intro ab aa h;omega|succ n ih=>
  intro ab aa h hb;rw[qap,qkv]
  cases aa with
  |nil=>rw[be];rfl|cons c aa=>
   simp only[qL]at h hb ⊢;rw[am,ej,qB,zik,qB,List.all_cons]
   cases hc:qdf c
   ·rfl
   ·have:=ih (ab++[c]) aa oA oD
    rw[dd _]
    simp only[qS,wM,qM,qL,qZ]at this;rw[show ab.length+0+1+aa.length=ab.length+(aa.length+1) by omega]at this
    simpa using this
def q43(fu:Nat)(s:List UInt8)(h:61<fu:=by omega):w3 fu s=some (sg s):=by
 unfold w3 sg
 cases s with
 |nil=>rfl|cons c s=>
  rw[show(!c::s==([]:List UInt8))=true from rfl,show(c::s != ([]:List UInt8))=true from rfl,qT,dh]
  split
  ·rename_i hl;simp only[qL]at hl;unfold qku;have:=zd0 fu fu [] (c::s) oH oI
   simp only[List.nil_append,qZ,wO]at this;rw[show(0:Int)=((0:Nat):Int) from rfl,this,decide_eq_true oH]
   rfl
  ·rename_i hl;rw[decide_eq_false oA]
   rfl
def vd(s:List UInt8):Bool := !(s.any ([13,10,0]:List UInt8).contains)&&qhn s
def q5c(fu:Nat)(s:List UInt8)(hfu:100<=fu)(h:s.length<fu)(hb:s.length<1000000000):qe8 fu s=some (vd s):=by
 unfold qe8 wz vd;rw[q3z ac1 fu s hfu h hb,qB,qB];cases s.any ([13,10,0]:List UInt8).contains
 ·rw[l7];unfold qhn
  cases s with
  |nil=>rfl|cons c t=>
   rw[bi (by rfl),show ak (c::t) (0:Int)=some c from rfl,qB,qg7,qB]
   rw[show(c::t).head?.any bl=bl c from rfl]
   cases bl c
   ·rw[l7];rcases List.eq_nil_or_concat (c::t) with e|⟨u,d,e⟩
    ·cases e
    ·rw[List.concat_eq_append]at e;rw[e]at hb ⊢;simp only[qM,qL,qZ]at hb;rw[qin,qjw _,qsw,qB,qg7,qB]
     simp
   ·rfl
 ·rfl
def zls(fu n:Nat):∀(s:List UInt8),s.length<n->s.length<1000000000->qbr fu n s (iv [32,9])=some (jd s,iv [32,9]):=by
 induction n with
 |zero=>intro s h;omega|succ n ih=>
  intro s h hb;rw[qbr,qpd];rcases List.eq_nil_or_concat s with rfl|⟨t,c,rfl⟩
  ·rw[be];rfl
  ·rw[List.concat_eq_append]at *;simp only[qM,qL,qZ]at h hb;rw[qin,am,qjw _,qsw,qB,qrv ac3,qB,zln,am,ih t oA oA,qt8,q24]
   cases bl c<;>rfl
def pt(n v:List UInt8):Int:=if sg n then(if 4000<v.length then 1 else if vd v then 0 else 11) else 10

open Go.Lib (validD)
abbrev Prm:Type:=Bs×Bs
def SmP(l:List Prm):Prop:=l.length<=4000000/\∀x∈l,x.1.length<=4000000/\x.2.length<=4000000
def lk(a b:Bs):Bool:=a.map lo==b.map lo
def li(fu:Nat)(hfu:90000000<=fu)(a b:Bs)(ha:a.length<=4000000)(hb:b.length<=4000000):dj fu a b=some (lk a b):=
 q3a fu a b oA oA (by simp[maxLen];omega) (by simp[maxLen];omega)
def SmP.mono{l l':List Prm}(h:SmP l)(h1:l'.length<=l.length)(h2:∀x∈l',x∈l):SmP l':=⟨Nat.le_trans h1 h.1,fun x hx=>h.2 x (h2 x hx)⟩
end Go.Sym
namespace Go.Sym
def qi1:(∀n:_root_.Fin 32,(192:UInt8)|||UInt8.ofNat n.val=UInt8.ofNat (192+n.val))/\(∀n:_root_.Fin 16,(224:UInt8)|||UInt8.ofNat n.val=UInt8.ofNat (224+n.val))/\(∀n:_root_.Fin 8,(240:UInt8)|||UInt8.ofNat n.val=UInt8.ofNat (240+n.val)) /\
  (∀n:_root_.Fin 256,(128:UInt8)|||(UInt8.ofNat n.val&&&63)=UInt8.ofNat (128+n.val%64)):=by decide +kernel
def mw(n:Nat):cd (n:Int)=UInt8.ofNat n:=by
 unfold cd;apply UInt8.toNat.inj;rw[show((n:Int)%256).toNat=n%256 by omega,UInt8.toNat_ofNat',UInt8.toNat_ofNat']
 simp
def ziw(n:Nat):UInt8.ofNat n=UInt8.ofNat (n%256):=by
 apply UInt8.toNat.inj;rw[UInt8.toNat_ofNat',UInt8.toNat_ofNat'];simp
def ziz(n:Nat)(h:n<32:=by omega):(192:UInt8)|||UInt8.ofNat n=UInt8.ofNat (192+n):=qi1.1 ⟨n,h⟩
def zi0(n:Nat)(h:n<16:=by omega):(224:UInt8)|||UInt8.ofNat n=UInt8.ofNat (224+n):=qi1.2.1 ⟨n,h⟩
def zi1(n:Nat)(h:n<8:=by omega):(240:UInt8)|||UInt8.ofNat n=UInt8.ofNat (240+n):=qi1.2.2.1 ⟨n,h⟩
def y7(n:Nat):(128:UInt8)|||(UInt8.ofNat n&&&63)=UInt8.ofNat (128+n%64):=by
 rw[ziw n,qi1.2.2.2 ⟨n%256,Nat.mod_lt _ oA⟩]
 congr 2;show n%256%64=n%64;omega
def qsk(c k:Nat):Int.fdiv (c:Int) (k:Int)=((c/k:Nat):Int):=by
 rw[Int.fdiv_eq_ediv_of_nonneg _ oA];rfl
def zd7{c:Nat}(h:g9 c):qf4 (c:Int)=some (cg c):=by
 unfold g9 at h;have hu:IntKind.u32.wrap (c:Int)=(c:Int):=by rw[IntKind.wrap_u32];omega
 have f6:Int.fdiv (c:Int) (2 ^ min (6:Int).toNat 32)=((c/64:Nat):Int):=qsk c 64;have f12:Int.fdiv (c:Int) (2 ^ min (12:Int).toNat 32)=((c/4096:Nat):Int):=qsk c 4096;have f18:Int.fdiv (c:Int) (2 ^ min (18:Int).toNat 32)=((c/262144:Nat):Int):=qsk c 262144;unfold qf4 cg;rw[hu];by_cases h1:c<128
 ·rw[am,qX h1,mw,am oQ]
 rw[be,qW h1]
 unfold qpv;rw[hu,f6,mw,mw,y7];by_cases h2:c<2048
 ·rw[am,qX h2,ziz _,am oQ,qB]
 rw[be,qW h2]
 have p0:qw (c:Int) (c:Int) true=some [UInt8.ofNat (224+c/4096),UInt8.ofNat (128+c/64%64),UInt8.ofNat (128+c%64)]\/65536<=c:=by
  by_cases h3:c<65536
  ·left;unfold qw;rw[bh rfl,f12,f6,mw,mw,mw,zi0 _,y7,y7,am oQ]
  ·right;omega
 by_cases h3:c<65536
 ·have p0:qw (c:Int) (c:Int) true=some [UInt8.ofNat (224+c/4096),UInt8.ofNat (128+c/64%64),UInt8.ofNat (128+c%64)]:=by
   rcases p0 with p0|p0
   ·exact p0
   ·omega
  rw[qX h3,dh];by_cases h4:(c:Int)<55296
  ·rw[qX h4,p0];rfl
  ·rw[qW h4,am,decide_eq_true oA,p0];rfl
 ·rw[qW h3,be,am,decide_eq_false oA]
  unfold qw;rw[bi rfl,am,decide_eq_true oA]
  unfold qf6;rw[bh rfl,f18,f12,f6,mw,mw,mw,mw,zi1 _,y7,y7,y7,am oQ];rfl
def zgo(fu n:Nat)(z:Int×Int)(nm:Bs):∀(ab:Bs)(R:List Nat)(out:Bs),ia R->R.length<n->out.length+4*R.length<=1000000000 ->
  qax fu n z nm (ab++tx R) ab.length out=some ((0,0),out++tx R):=by
 induction n with
 |zero=>intro ab R out _ h;omega|succ n ih=>
  intro ab R out hR h ho;rw[qax,qlr]
  cases R with
  |nil=>rw[qcl (by simp[tx]),bi rfl,qjp,List.append_nil];rfl|cons c R=>
   obtain⟨h1,h2⟩:=vp hR;have hl:=kw (c:=c);simp only[qL]at h ho;have ih:=ih (ab++cg c) R (out++cg c) h2 oA oJ
   rw[qS,qM,qS]at ih;unfold qlv;rw[ic,qcm oJ,bh rfl,qdm ab h1]
   dsimp only;rw[zd7 h1,qB,qB,di,am oV]
   exact ih
def q4h(fu n:Nat)(m:Nat)(z:Int×Int)(nm:Bs):∀(ab:Bs)(R:List Nat)(out:Bs),ia R->(∀c∈R,c<m)->R.length<n->out.length+R.length<=1000000000 ->
  qaw fu n z nm (ab++tx R) ab.length (m:Int) out=some ((0,0),out++R.map UInt8.ofNat):=by
 induction n with
 |zero=>intro ab R out _ _ h;omega|succ n ih=>
  intro ab R out hR hm h ho;rw[qaw,qlq]
  cases R with
  |nil=>rw[qcl (by simp[tx]),bi rfl,List.map_nil,List.append_nil];rfl|cons c R=>
   obtain⟨h1,h2⟩:=vp hR;have hl:=kw (c:=c);have hc:=hm c qH;simp only[qL]at h ho;have ih:=ih (ab++cg c) R (out++[UInt8.ofNat c]) h2 (fun d hd=>hm d (qE _ hd)) oA oK
   rw[qS,qM,qS]at ih;unfold qlx;rw[ic,qcm oJ,bh rfl,qdm ab h1]
   dsimp only;rw[qB,decide_eq_true (show(c:Int)<(m:Int) by omega),di,mw,am (by simp only[aq,qM,wD];omega),List.map_cons]
   exact ih
def ch1(m:Int)(c:UInt8):Int:=if m<=(c.toNat:Int) then 65533 else(c.toNat:Int)
def zkr(fu n:Nat)(m:Int):∀(ab aa:Bs)(out:List Int),aa.length<n->ab.length+aa.length<100000000->out.length+aa.length<=100000000 ->
  qa0 fu n (ab++aa) ((ab.length+aa.length:Nat):Int) (ab.length:Int) m out=some (m,out++aa.map (ch1 m)):=by
 induction n with
 |zero=>intro ab aa out h;omega|succ n ih=>
  intro ab aa out h hb ho;rw[qa0,qlw]
  cases aa with
  |nil=>rw[be];simp|cons c aa=>
   simp only[qL]at h hb ho;have ih:=fun out=>ih (ab++[c]) aa out oA oD
   simp only[qM,qL,qZ,qS,wM,wO]at ih;rw[am oH,ej,qB,dd _,show ab.length+(c::aa).length=ab.length+1+aa.length by simp only[qL];omega,dh,List.map_cons,ch1]
   split
   ·rw[am oS,ih _ oG,qS];rfl
   ·rw[am oS,ih _ oG,qS];rfl
end Go.Sym
namespace Go.Sym.Tr
def lo(c:UInt8):UInt8:=if 65<=c/\c<=90 then c+32 else c
def qta(c:UInt8):(c+97)-65=c+32:=by
 rw[UInt8.sub_eq_add_neg,UInt8.add_assoc];rfl
def qda(fu:Nat):∀(n:Nat)(ab aa:List UInt8),aa.length<n->ab.length+aa.length<=9223372036854775807 ->
  ox fu n ((ab.length+aa.length:Nat):Int) (ab.length:Int) (ab++aa)=some (ab++aa.map lo)
 |0,_,_,h,_=>absurd h oA|n+1,ab,[],_,_=>by simp[ox,wv]|n+1,ab,c::aa,h,hb=>by
  simp only[qL]at h hb;have ih:=fun d=>qda fu n (ab++[d]) aa oA oD
  simp only[qM,qL,qZ,qS,wM,wO]at ih;have e:((ab.length+(c::aa).length:Nat):Int)=((ab.length+1+aa.length:Nat):Int):=by simp only[qL];omega
  have hl:0<=(ab.length:Int)/\(ab.length:Int).toNat<(ab++c::aa).length:=oC
  rw[e];simp only[ox,wv];rw[am,am hl,qc2,qB,qud,dd _,dh,dh,ih,ih,am hl,qB]
  unfold lo;simp only[List.map_cons,qta];by_cases h1:(65:UInt8)<=c
  ·by_cases h2:c<=90
   ·simp[h1,h2]
   ·simp[h1,h2]
  ·simp[h1]
def qir(fu:Nat)(s:List UInt8)(h:s.length<fu)(hb:s.length<=maxLen):qp fu s=some (s.map lo):=by
 unfold qp;rw[am hb];have:=qda fu fu [] s h (by simpa [maxLen] using hb)
 simpa using this
end Go.Sym.Tr
namespace Go.Sym.Tr
def wr(m:UInt8)(col i:Nat):List UInt8->Int|[] => -1|c::r=>if(c==13&&r.head? == some 10)=true then wr m 0 (i+2) r.tail else if c=0\/c=13\/c=10\/m<c\/col=998 then(i:Int) else wr m (col+1) (i+1) r
termination_by l=>l.length
decreasing_by all_goals (simp only[qL,List.length_tail];omega)
end Go.Sym.Tr
namespace Go.Sym.Tr
def jq:List UInt8:=[65,66,67,68,69,70,71,72,73,74,75,76,77,78,79,80,81,82,83,84,85,86,87,88,89,90,97,98,99,100,101,102,103,104,105,106,107,108,109,110,111,112,113,114,115,116,117,118,119,120,121,122,48,49,50,51,52,53,54,55,56,57,43,47]
def al(k:Nat):UInt8:=jq.getD k 0
def qgu(k:Nat)(h:k<64:=by omega):ak jq (k:Int)=some (al k):=by
 have h':k<jq.length:=h;rw[qii _ _ h'];unfold al;simp[h']
def c0(x:Nat):UInt8:=al (x/262144%64)
def c1(x:Nat):UInt8:=al (x/4096%64)
def c2(x:Nat):UInt8:=al (x/64%64)
def c3(x:Nat):UInt8:=al (x%64)
def e64:List UInt8->List UInt8|[]=>[]|[a]=>[c0 (a.toNat*65536),c1 (a.toNat*65536),61,61]|[a,b]=>[c0 (a.toNat*65536+b.toNat*256),c1 (a.toNat*65536+b.toNat*256),c2 (a.toNat*65536+b.toNat*256),61]|a::b::c::r=>c0 (a.toNat*65536+b.toNat*256+c.toNat)::c1 (a.toNat*65536+b.toNat*256+c.toNat)::c2 (a.toNat*65536+b.toNat*256+c.toNat)::c3 (a.toNat*65536+b.toNat*256+c.toNat)::e64 r
def ob(x:Nat)(h:x<18446744073709551616:=by omega):(BitVec.ofInt 64 (x:Int)).toNat=x:=by
 rw[BitVec.toNat_ofInt];omega
def qjh(x:Nat)(h:x<1099511627776:=by omega):af ((x:Int)*2 ^ min (8:Int).toNat 64)=((256*x:Nat):Int):=by
 rw[show(2:Int) ^ min (8:Int).toNat 64=256 by decide,dr];omega
def or8(x y:Nat)(h:x<1099511627776:=by omega)(hy:y<256:=by omega):af (((BitVec.ofInt 64 (af ((x:Int)*2 ^ min (8:Int).toNat 64))|||BitVec.ofInt 64 (y:Int)).toNat:Int))=((256*x+y:Nat):Int):=by
 rw[qjh x h,BitVec.toNat_or,ob _,ob _]
 have:=Nat.two_pow_add_eq_or_of_lt (i:=8) (b:=y) (by simpa using hy) x
 rw[← show 2 ^ 8*x+y=256*x|||y from this]
 rw[dr]
def or0(y:Nat)(hy:y<256:=by omega):af (((BitVec.ofInt 64 (0:Int)|||BitVec.ofInt 64 (y:Int)).toNat:Int))=(y:Int):=by
 have h0:(BitVec.ofInt 64 (0:Int)).toNat=0:=ob 0
 rw[BitVec.toNat_or,h0,ob _,Nat.zero_or,dr]
def qgw(x k:Nat)(p:Int)(hp:p=(k:Int))(hk:k<=30)(h:x<1099511627776):af (((BitVec.ofInt 64 (Int.fdiv (x:Int) (2 ^ min p.toNat 64))&&&BitVec.ofInt 64 (63:Int)).toNat:Int))=((x/2 ^ k%64:Nat):Int):=by
 subst hp;have e1:min (k:Int).toNat 64=k:=oA
 have e2:Int.fdiv (x:Int) (2 ^ k)=((x/2 ^ k:Nat):Int):=by
  rw[Int.fdiv_eq_ediv_of_nonneg _ (by exact Int.le_of_lt (Int.pow_pos oE))]
  simp
 have hle:x/2 ^ k<=x:=Nat.div_le_self _ _;have h63:(BitVec.ofInt 64 (63:Int)).toNat=63:=ob 63
 rw[e1,e2,BitVec.toNat_and,ob _,h63]
 have:=Nat.and_two_pow_sub_one_eq_mod (x/2 ^ k) 6;rw[show(63:Nat)=2 ^ 6-1 by decide,this,show(2:Nat) ^ 6=64 by decide]
 rw[dr]
def qqz(x:Nat)(h:x<1099511627776):ak jq (af (((BitVec.ofInt 64 (Int.fdiv (x:Int) (2 ^ min (18:Int).toNat 64))&&&BitVec.ofInt 64 (63:Int)).toNat:Int)))=some (c0 x):=by
 rw[qgw x 18 18 rfl oA h,qgu _];rfl
def qqy(x:Nat)(h:x<1099511627776):ak jq (af (((BitVec.ofInt 64 (Int.fdiv (x:Int) (2 ^ min (12:Int).toNat 64))&&&BitVec.ofInt 64 (63:Int)).toNat:Int)))=some (c1 x):=by
 rw[qgw x 12 12 rfl oA h,qgu _];rfl
def qq0(x:Nat)(h:x<1099511627776):ak jq (af (((BitVec.ofInt 64 (Int.fdiv (x:Int) (2 ^ min (6:Int).toNat 64))&&&BitVec.ofInt 64 (63:Int)).toNat:Int)))=some (c2 x):=by
 rw[qgw x 6 6 rfl oA h,qgu _];rfl
def qqx(x:Nat)(h:x<1099511627776):ak jq (af (((BitVec.ofInt 64 (Int.fdiv (x:Int) (2 ^ min (0:Int).toNat 64))&&&BitVec.ofInt 64 (63:Int)).toNat:Int)))=some (c3 x):=by
 rw[qgw x 0 0 rfl oA h,qgu _];unfold c3;simp
def s7(r0:List UInt8->Int->List UInt8->Option (List UInt8×Int×List UInt8))(k:Nat)(p0 p1 p2 p3:UInt8)(m1:List UInt8)(m3:Int)(m16:List UInt8):Option (List UInt8×Int×List UInt8):=
 (e7 p0 p1 p2 p3 m3 m16).bind fun v=>r0 (m1.drop k) v.1 v.2
def zi3(fu:Nat)(r0:List UInt8->Int->List UInt8->Option (List UInt8×Int×List UInt8))(x:Nat)(hx:x<1099511627776)(m1:List UInt8)(h:1<=m1.length)(m3:Int)(m16:List UInt8) :
  ov fu r0 1 (x:Int) m1 m3 m16=s7 r0 1 (c0 x) (c1 x) 61 61 m1 m3 m16:=by
 unfold ov;rw[show([65,66,67,68,69,70,71,72,73,74,75,76,77,78,79,80,81,82,83,84,85,86,87,88,89,90,97,98,99,100,101,102,103,104,105,106,107,108,109,110,111,112,113,114,115,116,117,118,119,120,121,122,48,49,50,51,52,53,54,55,56,57,43,47]:List UInt8)=jq from rfl]
 rw[qqz x hx,qqy x hx,qq0 x hx,qqx x hx];simp only[qB,be (show ¬(1:Int)<0 by decide),be (show ¬(1:Int)<1 by decide),am (show(1:Int)<2 by decide),am (show(1:Int)<3 by decide),am (show 0<=(1:Int)/\(1:Int)<=(m1.length:Int) by omega)]
 rfl
def zi4(fu:Nat)(r0:List UInt8->Int->List UInt8->Option (List UInt8×Int×List UInt8))(x:Nat)(hx:x<1099511627776)(m1:List UInt8)(h:2<=m1.length)(m3:Int)(m16:List UInt8) :
  ov fu r0 2 (x:Int) m1 m3 m16=s7 r0 2 (c0 x) (c1 x) (c2 x) 61 m1 m3 m16:=by
 unfold ov;rw[show([65,66,67,68,69,70,71,72,73,74,75,76,77,78,79,80,81,82,83,84,85,86,87,88,89,90,97,98,99,100,101,102,103,104,105,106,107,108,109,110,111,112,113,114,115,116,117,118,119,120,121,122,48,49,50,51,52,53,54,55,56,57,43,47]:List UInt8)=jq from rfl]
 rw[qqz x hx,qqy x hx,qq0 x hx,qqx x hx];simp only[qB,be (show ¬(2:Int)<0 by decide),be (show ¬(2:Int)<1 by decide),be (show ¬(2:Int)<2 by decide),am (show(2:Int)<3 by decide),am (show 0<=(2:Int)/\(2:Int)<=(m1.length:Int) by omega)]
 rfl
def zi5(fu:Nat)(r0:List UInt8->Int->List UInt8->Option (List UInt8×Int×List UInt8))(x:Nat)(hx:x<1099511627776)(m1:List UInt8)(h:3<=m1.length)(m3:Int)(m16:List UInt8) :
  ov fu r0 3 (x:Int) m1 m3 m16=s7 r0 3 (c0 x) (c1 x) (c2 x) (c3 x) m1 m3 m16:=by
 unfold ov;rw[show([65,66,67,68,69,70,71,72,73,74,75,76,77,78,79,80,81,82,83,84,85,86,87,88,89,90,97,98,99,100,101,102,103,104,105,106,107,108,109,110,111,112,113,114,115,116,117,118,119,120,121,122,48,49,50,51,52,53,54,55,56,57,43,47]:List UInt8)=jq from rfl]
 rw[qqz x hx,qqy x hx,qq0 x hx,qqx x hx];simp only[qB,be (show ¬(3:Int)<0 by decide),be (show ¬(3:Int)<1 by decide),be (show ¬(3:Int)<2 by decide),be (show ¬(3:Int)<3 by decide),am (show 0<=(3:Int)/\(3:Int)<=(m1.length:Int) by omega)]
 rfl
def zes(fu:Nat)(r0:List UInt8->Int->List UInt8->Option (List UInt8×Int×List UInt8))(a:UInt8)(m3:Int)(m16:List UInt8) :
  ou fu r0 [a] m3 m16=s7 r0 1 (c0 (a.toNat*65536)) (c1 (a.toNat*65536)) 61 61 [a] m3 m16:=by
 have ha:=a.toNat_lt;unfold ou;have hm:(if(List.length [a]:Int)<3 then(List.length [a]:Int) else 3)=1:=rfl
 rw[hm,am (show(0:Int)<(List.length [a]:Int) by simp),am (show(0:Int)<1 by decide)]
 rw[show ak [a] 0=some a from rfl,qB,or0 _]
 unfold wt;rw[be (show ¬(1:Int)<1 by decide),qjh _]
 unfold wu;rw[be (show ¬(2:Int)<1 by decide),qjh _,zi3 _ _ _ oA _ oC]
 rw[show 256*(256*a.toNat)=a.toNat*65536 by omega]
def zet(fu:Nat)(r0:List UInt8->Int->List UInt8->Option (List UInt8×Int×List UInt8))(a b:UInt8)(m3:Int)(m16:List UInt8) :
  ou fu r0 [a,b] m3 m16=s7 r0 2 (c0 (a.toNat*65536+b.toNat*256)) (c1 (a.toNat*65536+b.toNat*256)) (c2 (a.toNat*65536+b.toNat*256)) 61 [a,b] m3 m16:=by
 have ha:=a.toNat_lt;have hb:=b.toNat_lt;unfold ou;have hm:(if(List.length [a,b]:Int)<3 then(List.length [a,b]:Int) else 3)=2:=rfl
 rw[hm,am (show(0:Int)<(List.length [a,b]:Int) by simp),am (show(0:Int)<2 by decide)]
 rw[show ak [a,b] 0=some a from rfl,qB,or0 _]
 unfold wt;rw[am (show(1:Int)<2 by decide),show ak [a,b] 1=some b from rfl,qB,or8 _ _]
 unfold wu;rw[be (show ¬(2:Int)<2 by decide),qjh _,zi4 _ _ _ oA _ oC]
 rw[show 256*(256*a.toNat+b.toNat)=a.toNat*65536+b.toNat*256 by omega]
def zeu(fu:Nat)(r0:List UInt8->Int->List UInt8->Option (List UInt8×Int×List UInt8))(a b c:UInt8)(r:List UInt8)(m3:Int)(m16:List UInt8) :
  ou fu r0 (a::b::c::r) m3 m16=s7 r0 3 (c0 (a.toNat*65536+b.toNat*256+c.toNat)) (c1 (a.toNat*65536+b.toNat*256+c.toNat)) (c2 (a.toNat*65536+b.toNat*256+c.toNat)) (c3 (a.toNat*65536+b.toNat*256+c.toNat)) (a::b::c::r) m3 m16:=by
 have ha:=a.toNat_lt;have hb:=b.toNat_lt;have hc:=c.toNat_lt;unfold ou;have hl:((a::b::c::r).length:Int)=(r.length:Int)+3:=by simp;omega
 have hm:(if((a::b::c::r).length:Int)<3 then((a::b::c::r).length:Int) else 3)=3:=by rw[qW oA]
 rw[hm,am (show(0:Int)<((a::b::c::r).length:Int) by omega),am (show(0:Int)<3 by decide)]
 rw[show ak (a::b::c::r) 0=some a from rfl,qB,or0 _]
 unfold wt;rw[am (show(1:Int)<3 by decide),show ak (a::b::c::r) 1=some b from rfl,qB,or8 _ _]
 unfold wu;rw[am (show(2:Int)<3 by decide),show ak (a::b::c::r) 2=some c from rfl,qB,or8 _ _,zi5 _ _ _ oA _ oC]
 rw[show 256*(256*a.toNat+b.toNat)+c.toNat=a.toNat*65536+b.toNat*256+c.toNat by omega]
end Go.Sym.Tr
namespace Go.Sym.Tr
def mn:Nat->List UInt8->List UInt8|0,_=>[]|n+1,s=>if 76<s.length then s.take 76++[13,10]++mn n (s.drop 76) else if s=[] then[] else s++[13,10]
def q54:∀(n m:Nat)(s:List UInt8),s.length<n->s.length<m->mn n s=mn m s
 |0,_,_,h,_=>absurd h oA|_,0,_,_,h=>absurd h oA|n+1,m+1,s,h,k=>by
  unfold mn;by_cases c:76<s.length
  ·rw[qX c,qX c,q54 n m (s.drop 76) oD oD]
  ·rw[qW c,qW c]
def lines76(s:List UInt8):List UInt8:=mn (s.length+1) s
def lines76_eq(s:List UInt8):lines76 s=if 76<s.length then s.take 76++[13,10]++lines76 (s.drop 76) else if s=[] then[] else s++[13,10]:=by
 unfold lines76;rw[mn];by_cases c:76<s.length
 ·rw[qX c,qX c,q54 s.length ((s.drop 76).length+1) (s.drop 76) oD oA]
 ·rw[qW c,qW c]
def mt(col:Nat)(s:List UInt8):List UInt8:=
 if 76<col+s.length then s.take (76-col)++[13,10]++lines76 (s.drop (76-col)) else if col=0/\s=[] then[] else s++[13,10]
def q7z(s:List UInt8):mt 0 s=lines76 s:=by
 unfold mt
 conv=>rhs;rw[lines76_eq]
 simp
def zj6(s:List UInt8)(h:s≠[]):mt 76 s=[13,10]++mt 0 s:=by
 rw[q7z];unfold mt;have:0<s.length:=List.length_pos_iff.2 h;rw[qX]
 simp
def q70(col:Nat)(p0 p1 p2 p3:UInt8)(s:List UInt8)(h:col+4<=76:=by omega):mt col (p0::p1::p2::p3::s)=[p0,p1,p2,p3]++mt (col+4) s:=by
 unfold mt;simp only[qL];by_cases c:76<col+4+s.length
 ·rw[qX,qX]
  obtain⟨k,hk⟩:∃k,76-col=k+4:=⟨76-col-4,oA⟩
  have hk2:76-(col+4)=k:=oA
  rw[hk,hk2];simp[List.take_succ_cons,List.drop_succ_cons]
 ·rw[qW (show ¬76<col+(s.length+1+1+1+1) by omega),qW c,qW (show ¬(col=0/\p0::p1::p2::p3::s=[]) by simp),qW (show ¬(col+4=0/\s=[]) by omega)]
  simp
def yq:∀(b:List UInt8),(e64 b).length=4*((b.length+2)/3)
 |[]=>rfl|[_]=>by simp[e64]|[_,_]=>by simp[e64]|a::b::c::r=>by
  simp only[e64,qL,yq r];omega
def zgq(p0 p1 p2 p3:UInt8)(col:Nat)(out:List UInt8)(hc:col<=76)(ho:out.length+6<=aq) :
  e7 p0 p1 p2 p3 (col:Int) out=some (if col=76 then((4:Int),out++[13,10]++[p0,p1,p2,p3]) else(((col+4:Nat):Int),out++[p0,p1,p2,p3])):=by
 unfold e7;rw[nr];by_cases c:col=76
 ·subst c;rw[qX (show((76:Nat):Int)=76 from rfl),qX rfl,am,am]
 ·rw[qW oA,qW c,am,dr]
  simp
def zg3(fu n:Nat):∀(b:List UInt8)(col:Nat)(out:List UInt8),b.length<n->col<=76->col%4=0->out.length+2*(e64 b).length+8<=aq ->
  ∃col':Nat,∃out',kj fu n b (col:Int) out=some ([],((col':Int),out'))/\out'.length+2<=aq/\out'++(if 0<col' then[13,10] else[])=out++mt col (e64 b):=by
 induction n with
 |zero=>intro b col out h;omega|succ n ih=>
  intro b col out h hc hm ho;have four:∀(k:Nat)(p0 p1 p2 p3:UInt8)(r:List UInt8),b.drop k=r->e64 b=p0::p1::p2::p3::e64 r->r.length<n->kj fu (n+1) b (col:Int) out=s7 (kj fu n) k p0 p1 p2 p3 b (col:Int) out ->
    ∃col':Nat,∃out',kj fu (n+1) b (col:Int) out=some ([],((col':Int),out'))/\out'.length+2<=aq/\out'++(if 0<col' then[13,10] else[])=out++mt col (e64 b):=by
   intro k p0 p1 p2 p3 r hd he hr hp;rw[he,qL,qL,qL,qL]at ho;rw[hp,he];unfold s7;rw[zgq _ _ _ _ _ _ hc oA,qB,hd]
   by_cases c:col=76
   ·rw[qX c];obtain⟨col',out',h1,h2,h3⟩:=ih r 4 (out++[13,10]++[p0,p1,p2,p3]) hr oA oA oD
    refine⟨col',out',h1,h2,?_⟩;rw[h3,c,zj6 _ oC,q70 _ _ _ _ _ _]
    simp
   ·rw[qW c];obtain⟨col',out',h1,h2,h3⟩:=ih r (col+4) (out++[p0,p1,p2,p3]) hr oA oA oD
    refine⟨col',out',h1,h2,?_⟩;rw[h3,q70 _ _ _ _ _ _]
    simp
  match b,four with
  |[],_=>
   refine⟨col,out,?_,oA,?_⟩
   ·rw[kj,ou,be]
   ·unfold mt;simp only[e64,qZ];rw[qW (show ¬76<col+0 by omega)]
    by_cases c:col=0
    ·subst c;simp
    ·rw[qX (show 0<col by omega)];simp[c]
  |[a],four=>exact four 1 (c0 (a.toNat*65536)) (c1 (a.toNat*65536)) 61 61 [] rfl (by simp only[e64]) (by simp at h;simp;omega) (by rw[kj];exact zes fu _ a _ _)|[a,b],four=>exact four 2 (c0 (a.toNat*65536+b.toNat*256)) (c1 (a.toNat*65536+b.toNat*256)) (c2 (a.toNat*65536+b.toNat*256)) 61 [] rfl (by simp only[e64]) (by simp at h;simp;omega) (by rw[kj];exact zet fu _ a b _ _)|a::b::c::r,four=>exact four 3 (c0 (a.toNat*65536+b.toNat*256+c.toNat)) (c1 (a.toNat*65536+b.toNat*256+c.toNat)) (c2 (a.toNat*65536+b.toNat*256+c.toNat)) (c3 (a.toNat*65536+b.toNat*256+c.toNat)) r rfl (by simp only[e64]) (by simp at h;omega) (by rw[kj];exact zeu fu _ a b c r _ _)
def enc64_eq(fu:Nat)(b:List UInt8)(hf:b.length<fu)(hb:b.length<=12000):qep fu b=some ((0,0),lines76 (e64 b)):=by
 unfold qep qks;rw[be,qB]
 unfold qkt;obtain⟨col',out',h1,h2,h3⟩:=zg3 fu fu b 0 [] hf oA rfl (by rw[yq];simp only[aq,qZ];omega)
 rw[show kj fu fu b (0:Int) []=some ([],((col':Int),out')) from h1,qB]
 rw[q7z,List.nil_append]at h3;simp only[bq,qB];rw[← h3,dh];by_cases c:0<col'
 ·rw[qX (show(0:Int)<(col':Int) by omega),qX c,am]
 ·rw[qW (show ¬(0:Int)<(col':Int) by omega),qW c];simp
end Go.Sym.Tr
namespace Go.Sym.Tr
def ee(c:UInt8):List Nat:=[c.toNat/128%2,c.toNat/64%2,c.toNat/32%2,c.toNat/16%2,c.toNat/8%2,c.toNat/4%2,c.toNat/2%2,c.toNat%2]
def bits(b:List UInt8):List Nat:=b.flatMap ee
def b9(a:Nat):List Nat->Nat|[]=>a|x::l=>b9 (2*a+x) l
def qjl:∀(l:List Nat)(a:Nat),(∀x∈l,x<=1)->b9 a l+1<=(a+1)*2 ^ l.length
 |[],a,_=>by simp[b9]|x::l,a,h=>by
  have:=qjl l (2*a+x) (fun y hy=>h y (qE _ hy))
  have hx:=h x qH;unfold b9;refine Nat.le_trans this ?_;rw[qL,Nat.pow_succ,Nat.mul_comm (2 ^ l.length) 2,← Nat.mul_assoc];exact Nat.mul_le_mul_right _ oA
def rq:List Nat->List UInt8|a::b::c::d::e::f::r=>al (b9 0 [a,b,c,d,e,f])::rq r|_=>[]
def y8(s:List UInt8):List UInt8:=s++List.replicate ((4-s.length%4)%4) 61
def ik(s:List Nat):List Nat:=s++List.replicate ((6-s.length%6)%6) 0
def zi7(a s:List Nat)(h:a.length%6=0):ik (a++s)=a++ik s:=by
 unfold ik;have:(a++s).length%6=s.length%6:=by simp;omega
 rw[this,qS]
def zi6(p0 p1 p2 p3:UInt8)(s:List UInt8):y8 (p0::p1::p2::p3::s)=p0::p1::p2::p3::y8 s:=by
 unfold y8;have:(p0::p1::p2::p3::s).length%4=s.length%4:=by simp;omega
 rw[this];rfl
def n6(a:Nat)(h:a<256):2*(2*(2*(2*(2*(2*0+a/128%2)+a/64%2)+a/32%2)+a/16%2)+a/8%2)+a/4%2=a/4:=oA
def n2(a:Nat):2*(2*0+a/2%2)+a%2=a%4:=oA
def n4(t b:Nat)(h:b<256):2*(2*(2*(2*t+b/128%2)+b/64%2)+b/32%2)+b/16%2=16*t+b/16:=oA
def n4'(b:Nat):2*(2*(2*(2*0+b/8%2)+b/4%2)+b/2%2)+b%2=b%16:=oA
def n2'(t c:Nat)(h:c<256):2*(2*t+c/128%2)+c/64%2=4*t+c/64:=oA
def n6'(c:Nat):2*(2*(2*(2*(2*(2*0+c/32%2)+c/16%2)+c/8%2)+c/4%2)+c/2%2)+c%2=c%64:=oA
def x0(a b c:Nat)(h:a<256)(hb:b<256)(hc:c<256):(a*65536+b*256+c)/262144%64=a/4:=oA
def x1(a b c:Nat)(h:a<256)(hb:b<256)(hc:c<256):(a*65536+b*256+c)/4096%64=16*(a%4)+b/16:=oA
def x2(a b c:Nat)(h:a<256)(hb:b<256)(hc:c<256):(a*65536+b*256+c)/64%64=4*(b%16)+c/64:=oA
def x3(a b c:Nat)(h:a<256)(hb:b<256)(hc:c<256):(a*65536+b*256+c)%64=c%64:=oA
def q4g:∀(b:List UInt8),y8 (rq (ik (bits b)))=e64 b
 |[]=>by simp[bits,ik,rq,y8,e64]|[a]=>by
  have ha:a.toNat<256:=a.toNat_lt;have e:ik (bits [a])=ee a++[0,0,0,0]:=by simp[bits,ik,ee]
  rw[e];simp only[ee,wK,List.nil_append,rq,b9,e64];rw[n6 _ ha,n2];have k0:=x0 a.toNat 0 0 ha oA oA
  have k1:=x1 a.toNat 0 0 ha oA oA
  simp only[Nat.zero_mul,Nat.add_zero,Nat.zero_div]at k0 k1;unfold c0 c1;rw[k0,k1,show 2*(2*(2*(2*(a.toNat%4)+0)+0)+0)+0=16*(a.toNat%4) by omega]
  rfl
 |[a,b]=>by
  have ha:a.toNat<256:=a.toNat_lt;have hb:b.toNat<256:=b.toNat_lt;have e:ik (bits [a,b])=ee a++ee b++[0,0]:=by simp[bits,ik,ee]
  rw[e];simp only[ee,wK,List.nil_append,rq,b9,e64];rw[n6 _ ha,n2,n4 _ _ hb,n4'];have k0:=x0 a.toNat b.toNat 0 ha hb oA
  have k1:=x1 a.toNat b.toNat 0 ha hb oA
  have k2:=x2 a.toNat b.toNat 0 ha hb oA
  simp only[Nat.add_zero,Nat.zero_div]at k0 k1 k2;unfold c0 c1 c2;rw[k0,k1,k2,show 2*(2*(b.toNat%16)+0)+0=4*(b.toNat%16) by omega]
  rfl
 |a::b::c::r=>by
  have ha:a.toNat<256:=a.toNat_lt;have hb:b.toNat<256:=b.toNat_lt;have hc:c.toNat<256:=c.toNat_lt;have e:bits (a::b::c::r)=(ee a++ee b++ee c)++bits r:=by simp[bits]
  rw[e,zi7 _ _ (by simp[ee])]
  simp only[ee,wK,List.nil_append,rq,b9,e64];rw[zi6,q4g r,n6 _ ha,n2,n4 _ _ hb,n4',n2' _ _ hc,n6'];unfold c0 c1 c2 c3;rw[x0 _ _ _ ha hb hc,x1 _ _ _ ha hb hc,x2 _ _ _ ha hb hc,x3 _ _ _ ha hb hc]
def ze2(b:List UInt8):∀x∈bits b,x<=1:=by
 intro x hx;obtain⟨c,_,hx⟩:=List.mem_flatMap.1 hx;simp only[ee,wE,List.not_mem_nil,or_false]at hx;omega
end Go.Sym.Tr
namespace Go.Sym.Tr
def yg(P:UInt8->Prop)(h:∀n:_root_.Fin 256,P (UInt8.ofNat n.val))(c:UInt8):P c:=by
 have:=h ⟨c.toNat,c.toNat_lt⟩;simpa using this
def isL:List UInt8->Bool|a::b::_=>a==13&&b==10|_=>false
end Go.Sym.Tr
namespace Go.Sym.Tr
end Go.Sym.Tr
namespace Go.Sym.Tr
def sp:List UInt8->List UInt8×List UInt8|[]=>([],[])|c::r=>if isL (c::r) then([],c::r) else(c::(sp r).1,(sp r).2)
end Go.Sym.Tr
namespace Go.Sym.Tr
end Go.Sym.Tr
namespace Go.Sym.Tr
def gf(c:UInt8):Int:=Lib.indexByte jq c
def zl5:∀n:_root_.Fin 256,gf (UInt8.ofNat n.val) = -1\/(0<=gf (UInt8.ofNat n.val)/\gf (UInt8.ofNat n.val)<64):=by decide +kernel
def zl6(c:UInt8):gf c = -1\/(0<=gf c/\gf c<64):=yg (fun c=>gf c = -1\/(0<=gf c/\gf c<64)) zl5 c
def fh(v:Nat):List Nat:=[v/32%2,v/16%2,v/8%2,v/4%2,v/2%2,v%2]
def cv:List UInt8->List Nat|[]=>[]|c::r=>if c=61 then[] else if gf c<0 then cv r else fh (gf c).toNat++cv r
def kv:List Nat->List UInt8|a::b::c::d::e::f::g::h::r=>cd ((b9 0 [a,b,c,d,e,f,g,h]:Nat):Int)::kv r|_=>[]
def quk:∀(l:List Nat)(a:Nat),b9 a l=a*2 ^ l.length+b9 0 l
 |[],a=>by simp[b9]|x::l,a=>by
  rw[b9,b9,quk l (2*a+x),quk l (2*0+x),qL,Nat.pow_succ,Nat.add_mul,Nat.add_mul];have:2*a*2 ^ l.length=a*(2 ^ l.length*2):=by rw[Nat.mul_comm 2 a,Nat.mul_assoc,Nat.mul_comm 2]
  omega
def quj:∀(l m:List Nat)(a:Nat),b9 a (l++m)=b9 (b9 a l) m|[],_,_=>rfl|x::l,m,a=>quj l m (2*a+x)
def zkt(a v:Nat)(h:v<64):b9 a (fh v)=64*a+v:=by
 simp only[fh,b9];omega
def zks(v:Nat):∀x∈fh v,x<=1:=by
 intro x hx;simp only[fh,wE,List.not_mem_nil,or_false]at hx;omega
def q3h(q r:List Nat)(h:8<=q.length:=by omega):kv (q++r)=cd ((b9 0 (q.take 8):Nat):Int)::kv (q.drop 8++r):=by
 match q,h with|a::b::c::d::e::f::g::i::t,_=>simp[kv]
def qri(q:List Nat)(h:q.length<8):kv q=[]:=by
 match q,h with|[],_=>rfl|[_],_=>rfl|[_,_],_=>rfl|[_,_,_],_=>rfl|[_,_,_,_],_=>rfl|[_,_,_,_,_],_=>rfl|[_,_,_,_,_,_],_=>rfl|[_,_,_,_,_,_,_],_=>rfl|_::_::_::_::_::_::_::_::_,h=>simp at h;omega
def or6(x v:Nat)(h:x<1099511627776)(hv:v<64):af (((BitVec.ofInt 64 (af ((x:Int)*2 ^ min (6:Int).toNat 64))|||BitVec.ofInt 64 (v:Int)).toNat:Int))=((64*x+v:Nat):Int):=by
 have e:af ((x:Int)*2 ^ min (6:Int).toNat 64)=((64*x:Nat):Int):=by
  rw[show(2:Int) ^ min (6:Int).toNat 64=64 by decide,dr];omega
 rw[e,BitVec.toNat_or,ob _,ob _]
 have:=Nat.two_pow_add_eq_or_of_lt (i:=6) (b:=v) (by simpa using hv) x
 rw[← show 2 ^ 6*x+v=64*x|||v from this]
 rw[dr]
def zd2(x k:Nat)(h:x<1099511627776:=by omega)(hk:k<=20:=by omega):af (((BitVec.ofInt 64 (x:Int)&&&BitVec.ofInt 64 (af ((af ((1:Int)*2 ^ min (k:Int).toNat 64))-(1:Int)))).toNat:Int))=((x%2 ^ k:Nat):Int):=by
 have e1:min (k:Int).toNat 64=k:=oA
 have hp:2 ^ k<=2 ^ 20:=Nat.pow_le_pow_right oA hk
 have hp1:1<=2 ^ k:=Nat.one_le_two_pow;have e2:af ((1:Int)*2 ^ k)=((2 ^ k:Nat):Int):=by
  have:((2:Int) ^ k)=((2 ^ k:Nat):Int):=oC
  rw[this,dr];omega
 have e3:af (((2 ^ k:Nat):Int)-1)=((2 ^ k-1:Nat):Int):=by rw[dr];omega
 have hm:x%2 ^ k<=x:=Nat.mod_le _ _;rw[e1,e2,e3,BitVec.toNat_and,ob _,ob _,Nat.and_two_pow_sub_one_eq_mod,dr]
end Go.Sym.Tr
namespace Go.Sym.Tr
def zlh(q:List Nat)(k:Nat)(h1:∀x∈q,x<=1):b9 0 (q.take k)=b9 0 q/2 ^ (q.length-k)/\b9 0 (q.drop k)=b9 0 q%2 ^ (q.length-k):=by
 have e:b9 0 q=b9 0 (q.take k)*2 ^ (q.drop k).length+b9 0 (q.drop k):=by
  rw[← quk,← quj,List.take_append_drop]
 have hd:=qjl (q.drop k) 0 (fun x hx=>h1 x (List.mem_of_mem_drop hx))
 rw[List.length_drop]at e hd;have hlt:b9 0 (q.drop k)<2 ^ (q.length-k):=oA
 rw[e,Nat.mul_comm,Nat.mul_add_div oA,Nat.mul_add_mod,Nat.div_eq_of_lt hlt,Nat.mod_eq_of_lt hlt]
 simp
def zh6(fu n:Nat)(m16:Int×Int):∀(ab aa:List UInt8)(p:List Nat)(out:List UInt8),aa.length<n->ab.length+aa.length<100000000->p.length<8->(∀x∈p,x<=1)->out.length+aa.length<=1000000000 ->
  t8 fu n ((b9 0 p:Nat):Int) (p.length:Int) (ab++aa) ((ab.length+aa.length:Nat):Int) (ab.length:Int) m16 out=some ((0,0),out++kv (p++cv aa)):=by
 induction n with
 |zero=>intro ab aa p out h;omega|succ n ih=>
  intro ab aa p out h hb hp h1 ho
  cases aa with
  |nil=>
   rw[t8,qeq,be]
   simp[bq,cv,qri p hp]
  |cons c aa=>
   simp only[qL]at h hb ho;have nxt:∀(p:List Nat)(out:List UInt8),p.length<8->(∀x∈p,x<=1)->out.length+aa.length<=1000000000->t8 fu n ((b9 0 p:Nat):Int) (p.length:Int) (ab++c::aa) ((ab.length+(aa.length+1):Nat):Int) ((ab.length+1:Nat):Int) m16 out=some ((0,0),out++kv (p++cv aa)):=by
    intro p out h2 h3 h4;have:=ih (ab++[c]) aa p out oA oD h2 h3 h4
    simp only[qM,qL,qZ,wO,qS,wK,List.nil_append]at this;rw[show ab.length+(aa.length+1)=ab.length+1+aa.length by omega]
    exact this
   rw[t8,qeq,am,ej,qB,qrc]
   simp only[qL];by_cases k:c=61
   ·rw[qX k];simp[bq,cv,k,qri p hp]
   ·rw[qW k,am oE]
    rw[show([65,66,67,68,69,70,71,72,73,74,75,76,77,78,79,80,81,82,83,84,85,86,87,88,89,90,97,98,99,100,101,102,103,104,105,106,107,108,109,110,111,112,113,114,115,116,117,118,119,120,121,122,48,49,50,51,52,53,54,55,56,57,43,47]:List UInt8)=jq from rfl,show qar jq c=some (gf c) from rfl,qB,dd _,dh]
    rcases zl6 c with hv|⟨hv,hv2⟩
    ·rw[hv,qX oE,nxt p out hp h1 oA]
     simp[cv,k,hv]
    ·obtain⟨v,hvv⟩:∃v:Nat,gf c=(v:Int):=⟨(gf c).toNat,oA⟩
     have hv64:v<64:=oA
     have hd:cv (c::aa)=fh v++cv aa:=by
      rw[cv,qW k,qW oA,hvv];rfl
     have hq:b9 0 (p++fh v)=64*b9 0 p+v:=by rw[quj,zkt _ _ hv64]
     have hpl:=qjl p 0 h1;have hp2:2 ^ p.length<=2 ^ 7:=Nat.pow_le_pow_right oA oA
     have hql:(p++fh v).length=p.length+6:=by simp[fh]
     have hq1:∀x∈p++fh v,x<=1:=fun x hx=>by
      rcases List.mem_append.1 hx with hx|hx
      ·exact h1 x hx
      ·exact zks v x hx
     rw[hvv,qW oA,or6 _ _ oA hv64,← hq,hd,← qS]
     have e6:af ((p.length:Int)+6)=((p.length+6:Nat):Int):=by rw[dr];omega
     rw[e6,dh];by_cases h8:8<=p.length+6
     ·have e8:af (((p.length+6:Nat):Int)-8)=((p.length+6-8:Nat):Int):=by rw[dr];omega
      rw[qX,e8,am,am (by simp[aq];omega),am]
      rw[zd2 _ _]
      obtain⟨s1,s2⟩:=zlh (p++fh v) 8 hq1;rw[hql]at s1 s2;rw[← s2,q3h _ _]
      have e9:Int.fdiv ((b9 0 (p++fh v):Nat):Int) (2 ^ min (((p.length+6-8:Nat):Int)).toNat 64)=((b9 0 ((p++fh v).take 8):Nat):Int):=by
       rw[s1,show min (((p.length+6-8:Nat):Int)).toNat 64=p.length+6-8 by omega,Int.fdiv_eq_ediv_of_nonneg _ (by exact Int.le_of_lt (Int.pow_pos oE))]
       simp
      rw[e9];have:=nxt ((p++fh v).drop 8) (out++[cd ((b9 0 ((p++fh v).take 8):Nat):Int)]) (by simp[fh];omega) (fun x hx=>hq1 x (List.mem_of_mem_drop hx)) oD
      rw[List.length_drop,hql]at this;rw[this];simp
     ·rw[qW oA]
      have:=nxt (p++fh v) out oA hq1 oA
      rw[hql]at this;exact this
end Go.Sym.Tr
namespace Go.Sym.Tr
end Go.Sym.Tr
namespace Go.Sym.Tr
end Go.Sym.Tr
namespace Go.Sym.Tr
end Go.Sym.Tr
namespace Go.Sym.Tr
def lenient_eq(fu:Nat)(b:List UInt8)(hb:b.length<=24000)(hf:b.length<fu):qao fu b=some ((0,0),kv (cv b)):=by
 unfold qao;rw[be]
 have:=zh6 fu fu (0,0) [] b [] [] hf oD oC (fun _ h=>by cases h) oD
 simpa [b9] using this
end Go.Sym.Tr
namespace Go.Sym.Tr
def qr2:∀(x y z:List UInt8),cv y=cv z->cv (x++y)=cv (x++z)
 |[],_,_,h=>h|c::x,y,z,h=>by
  simp only[wK,cv];rw[qr2 x y z h]
def q39(y:List UInt8):cv (13::10::y)=cv y:=by
 have h1:gf 13<0:=by decide +kernel
 have h2:gf 10<0:=by decide +kernel
 rw[cv,qW oE,qX h1,cv,qW oE,qX h2]
def zf8:∀(n:Nat)(s:List UInt8),s.length<n->cv (mn n s)=cv s:=by
 intro n
 induction n with
 |zero=>intro s h;omega|succ n ih=>
  intro s h;rw[mn];by_cases c:76<s.length
  ·rw[qX c,qS];have e:cv ([13,10]++mn n (s.drop 76))=cv (s.drop 76):=by
    rw[show([13,10]:List UInt8)++mn n (s.drop 76)=13::10::mn n (s.drop 76) from rfl,q39,ih _ oD]
   rw[qr2 _ _ _ e,List.take_append_drop]
  ·rw[qW c];by_cases k:s=[]
   ·rw[qX k,k]
   ·rw[qW k];have:=qr2 s [13,10] [] (q39 []);rw[List.append_nil]at this;exact this
def dbits_lines(s:List UInt8):cv (lines76 s)=cv s:=zf8 _ s oA
def zdx:∀n:_root_.Fin 64,gf (al n.val)=(n.val:Int)/\al n.val≠61/\32<=al n.val/\al n.val<=126:=by decide +kernel
def zdz(k:Nat)(h:k<64):gf (al k)=(k:Int)/\al k≠61/\32<=al k/\al k<=126:=zdx ⟨k,h⟩
def q38:∀(q:List Nat)(r:List UInt8),q.length%6=0->(∀x∈q,x<=1)->cv (rq q++r)=q++cv r
 |[],_,_,_=>rfl|[_],_,h,_=>by simp at h|[_,_],_,h,_=>by simp at h|[_,_,_],_,h,_=>by simp at h|[_,_,_,_],_,h,_=>by simp at h|[_,_,_,_,_],_,h,_=>by simp at h|a::b::c::d::e::f::q,r,h,h1=>by
  have hs:∀x∈[a,b,c,d,e,f],x<=1:=fun x hx=>h1 x (by simp at hx ⊢;omega)
  have hlt:=qjl [a,b,c,d,e,f] 0 hs;simp only[qL,qZ]at hlt;have hk:b9 0 [a,b,c,d,e,f]<64:=oA
  obtain⟨k1,k2,_,_⟩:=zdz _ hk;have ha:=hs a oC
  have hb:=hs b oC
  have hc:=hs c oC
  have hd:=hs d oC
  have he:=hs e oC
  have hf:=hs f oC
  rw[rq,wK,cv,qW k2,qW (by rw[k1];omega),k1]
  rw[q38 q r (by simp only[qL]at h;omega) (fun x hx=>h1 x (by simp[hx]))]
  have e6:fh ((b9 0 [a,b,c,d,e,f]:Nat):Int).toNat=[a,b,c,d,e,f]:=by
   rw[qY];simp only[fh,b9,List.cons.injEq,and_true];refine⟨?_,?_,?_,?_,?_,?_⟩<;>omega
  rw[e6];rfl
def zf7(k:Nat):cv (List.replicate k 61)=[]:=by
 cases k with|zero=>rfl|succ k=>rw[List.replicate_succ,cv,qX rfl]
def zi8(s:List Nat):(ik s).length%6=0:=by
 unfold ik;rw[qM,List.length_replicate];omega
def zi9(s:List Nat)(h:∀x∈s,x<=1):∀x∈ik s,x<=1:=by
 intro x hx;unfold ik at hx;rcases List.mem_append.1 hx with hx|hx
 ·exact h x hx
 ·have:=List.eq_of_mem_replicate hx;omega
def zf6(b:List UInt8):cv (e64 b)=ik (bits b):=by
 rw[← q4g,y8,q38 _ _ (zi8 _) (zi9 _ (ze2 b)),zf7,List.append_nil]
def zff(c:UInt8)(r:List Nat):kv (ee c++r)=c::kv r:=by
 have hc:c.toNat<256:=c.toNat_lt;have e:b9 0 (ee c)=c.toNat:=by
  simp only[ee,b9];omega
 have:=q3h (ee c) r (by simp[ee])
 rw[this,show(ee c).take 8=ee c from rfl,show(ee c).drop 8=[] from rfl,List.nil_append,e]
 congr 1;show UInt8.ofNat ((c.toNat:Int)%256).toNat=c;rw[show((c.toNat:Int)%256).toNat=c.toNat by omega]
 simp
def q3i:∀(b:List UInt8)(k:Nat),k<8->kv (bits b++List.replicate k 0)=b
 |[],k,h=>by
  rw[show bits []=[] from rfl,List.nil_append,qri _ (by simpa using h)]
 |c::b,k,h=>by
  rw[show bits (c::b)=ee c++bits b from rfl,qS,zff,q3i b k h]
def by8_e64(b:List UInt8):kv (cv (lines76 (e64 b)))=b:=by
 rw[dbits_lines,zf6,ik,q3i _ _ oA]
end Go.Sym.Tr
namespace Go.Sym
abbrev sAs:Bs:=[97,115,99,105,105]
abbrev sLa:Bs:=[108,97,116,105,110,49]
abbrev sU8:Bs:=[117,116,102,56]
def az:Nat->Bs|0=>sAs|1=>sLa|_=>sU8
def f9(k:Nat)(R:List Nat):Prop:=ia R/\(k=0->∀c∈R,c<128)/\(k=1->∀c∈R,c<256)
def nz(k:Nat)(R:List Nat):Bs:=if k=0\/k=1 then R.map UInt8.ofNat else tx R
def q9j:∀(R:List Nat),ia R->Lib.validD (tx R)=true
 |[],_=>rfl|c::R,h=>by
  obtain⟨h1,h2⟩:=vp h;have hl:=kw (c:=c);have d:=qr5 h1 (tx R);rw[ic,Lib.validD_step _ (by intro q;exact qsc (List.append_eq_nil_iff.1 q).1),d]
  simp only;rw[qW (by
   rintro⟨q1,q2⟩
   subst q1;revert q2;decide),List.drop_left]
  exact q9j R h2
def zl8(R:List Nat)(h:ia R)(hl:R.length<=1000000:=by omega):gy (tx R)=some true:=by
 have:=mz R;unfold gy;rw[am,q9j R h]
def zfn(fu:Nat)(hfu:90000000<=fu)(k:Nat)(hk:k<3)(R:List Nat)(h:f9 k R)(hl:R.length<=3000):qe1 fu (az k) (tx R)=some ((0,0),nz k R):=by
 have ht:=mz R;have hv:=zl8 R h.1
 unfold qe1 qay qaz nz;rw[be]
 simp only[qB]
 match k,hk,h with
 |0,_,h=>
  have g:=q4h fu fu 128 (0,0) sAs [] R [] h.1 (h.2.1 rfl) oA oD
  rw[li fu hfu _ _ oC oN,qB,show lk [97,115,99,105,105] (az 0)=true from rfl,bh rfl,qB]
  simp only[cm];rw[di,hv,qB,di,qX]
  exact g
 |1,_,h=>
  have g:=q4h fu fu 256 (0,0) sLa [] R [] h.1 (h.2.2 rfl) oA oD
  rw[li fu hfu _ _ oC oN,qB,show lk [97,115,99,105,105] (az 1)=false from rfl,bi rfl,li fu hfu _ _ oC oN,qB,show lk [108,97,116,105,110,49] (az 1)=true from rfl,bh rfl,qB]
  simp only[cm];rw[di,hv,qB,di,qX]
  exact g
 |2,_,h=>
  have g:=zgo fu fu (0,0) sU8 [] R [] h.1 oA oD
  rw[li fu hfu _ _ oC oN,qB,show lk [97,115,99,105,105] (az 2)=false from rfl,bi rfl,li fu hfu _ _ oC oN,qB,show lk [108,97,116,105,110,49] (az 2)=false from rfl,bi rfl,
   li fu hfu _ _ oC oN,qB,show lk [117,116,102,56] (az 2)=true from rfl,bh rfl,qB]
  simp only[cm];rw[di,hv,qB,di,qW oA]
  exact g
def qrn(m:Nat)(hm:m<=256):∀R:List Nat,(∀c∈R,c<m)->(R.map UInt8.ofNat).map (ch1 (m:Int))=R.map fun c:Nat=>(c:Int)
 |[],_=>rfl|c::R,h=>by
  have hc:=h c qH;rw[List.map_cons,List.map_cons,List.map_cons,qrn m hm R (fun d hd=>h d (qE _ hd))]
  unfold ch1;rw[mq c,qW oA]
def zfk(fu:Nat)(hfu:90000000<=fu)(k:Nat)(hk:k<3)(R:List Nat)(h:f9 k R)(hl:R.length<=3000:=by omega):qe0 fu (az k) (nz k R)=some (tx R,(0,0)):=by
 have ht:=mz R;have htl:=qur R;have hs:∀(b:Bs)(m:Int),b.length<=12000->qe2 fu b m=some (m,b.map (ch1 m)):=fun b m hb=>by
  have:=zkr fu fu m [] b [] oA oD oD
  unfold qe2;simpa using this
 unfold qe0 qay qaz nz;rw[be (by split<;>simp<;>omega)]
 simp only[qB]
 match k,hk,h with
 |0,_,h=>
  rw[li fu hfu _ _ oC oN,qB,show lk [97,115,99,105,105] (az 0)=true from rfl,bh rfl,qB]
  simp only[cm];rw[di,qX,hs _ _ oD,qB]
  simp only[];rw[show(128:Int)=((128:Nat):Int) from rfl,qrn 128 oA R (h.2.1 rfl),qt6 R h.1];rfl
 |1,_,h=>
  rw[li fu hfu _ _ oC oN,qB,show lk [97,115,99,105,105] (az 1)=false from rfl,bi rfl,li fu hfu _ _ oC oN,qB,show lk [108,97,116,105,110,49] (az 1)=true from rfl,bh rfl,qB]
  simp only[cm];rw[di,qX,hs _ _ oD,qB]
  simp only[];rw[show(256:Int)=((256:Nat):Int) from rfl,qrn 256 oA R (h.2.2 rfl),qt6 R h.1];rfl
 |2,_,h=>
  rw[li fu hfu _ _ oC oN,qB,show lk [97,115,99,105,105] (az 2)=false from rfl,bi rfl,li fu hfu _ _ oC oN,qB,show lk [108,97,116,105,110,49] (az 2)=false from rfl,bi rfl,
   li fu hfu _ _ oC oN,qB,show lk [117,116,102,56] (az 2)=true from rfl,bh rfl,qB]
  simp only[cm];unfold qlu;have hr:eg (tx R)=R.map fun c:Nat=>(c:Int):=zkn (tx R).length [] R h.1 htl
  rw[di,qW oA,am,qB,hr,qt6 R h.1];rfl
-- base64 without line ends
def mu(s:Bs):Bs:=Lib.replaceK [13,10] [] (Lib.count s [13,10]) s
def zkb(c:UInt8)(r:Bs)(h:c≠13):mu (c::r)=c::mu r:=by
 have h:¬([13,10]:Bs).isPrefixOf (c::r)=true:=by
  simp[List.isPrefixOf];intro q;exact absurd q.symm h
 have hi:Lib.index (c::r) [13,10]=if Lib.index r [13,10] == -1 then -1 else Lib.index r [13,10]+1:=by rw[Lib.index,qW h]
 have hg:=Lib.index_ge r [13,10];unfold mu;by_cases q:Lib.index r [13,10] = -1
 ·rw[q]at hi;rw[Lib.count_miss q,Lib.count_miss (hi.trans rfl)];rfl
 ·obtain⟨i,e⟩:∃i:Nat,Lib.index r [13,10]=i:=⟨(Lib.index r [13,10]).toNat,oA⟩
  have e1:Lib.index (c::r) [13,10]=((i+1:Nat):Int):=by
   rw[hi,qW (by simpa using q),e];omega
  rw[Lib.count_hit oC e,Lib.count_hit oC e1,Nat.add_comm 1,Nat.add_comm 1,Lib.replaceK_hit _ _ _ _ _ e,Lib.replaceK_hit _ _ _ _ _ e1]
  simp[show i+1+2=i+2+1 by omega]
def q79(r:Bs):mu (13::10::r)=mu r:=by
 have h:([13,10]:Bs).isPrefixOf (13::10::r)=true:=by simp[List.isPrefixOf]
 have e0:Lib.index (13::10::r) [13,10]=((0:Nat):Int):=by rw[Lib.index,qX h];rfl
 unfold mu;rw[Lib.count_hit oC e0,Nat.add_comm 1,Lib.replaceK_hit _ _ _ _ _ e0]
 simp
def qt5:∀(s r:Bs),(∀c∈s,c≠13)->mu (s++r)=s++mu r|[],_,_=>rfl|c::s,r,h=>by rw[wK,zkb c _ (h c qH),qt5 s r (fun d hd=>h d (qE _ hd))];rfl
def zkc:∀(n:Nat)(s:Bs),s.length<n->(∀c∈s,c≠13)->mu (Tr.lines76 s)=s:=by
 intro n
 induction n with
 |zero=>intro s h;omega|succ n ih=>
  intro s h hs;rw[Tr.lines76_eq];by_cases h76:76<s.length
  ·rw[qX h76,qS,qt5 _ _ (fun c hc=>hs c (List.mem_of_mem_take hc))]
   show _++mu (13::10::Tr.lines76 (s.drop 76))=_;rw[q79,ih _ (by rw[List.length_drop];omega) (fun c hc=>hs c (List.mem_of_mem_drop hc)),List.take_append_drop]
  ·rw[qW h76];by_cases h0:s=[]
   ·subst h0;rw[qX rfl];rfl
   ·rw[qW h0,qt5 _ _ hs];show s++mu (13::10::[])=s;rw[q79];show s++[]=s;simp
def zdy:∀n:_root_.Fin 64,33<=(Tr.al n.val).toNat/\(Tr.al n.val).toNat<=126/\Tr.al n.val≠63:=by decide +kernel
def pf(k:Nat)(h:k<64):33<=(Tr.al k).toNat/\(Tr.al k).toNat<=126/\Tr.al k≠63:=zdy ⟨k,h⟩
def qsb:∀b:Bs,∀c∈Tr.e64 b,33<=c.toNat/\c.toNat<=126/\c≠63
 |[],c,h=>by cases h
 |[x],c,h=>by
  simp only[Tr.e64,Tr.c0,Tr.c1,wE,List.not_mem_nil,or_false]at h;rcases h with rfl|rfl|rfl|rfl
  ·exact pf _ (Nat.mod_lt _ oA)
  ·exact pf _ (Nat.mod_lt _ oA)
  ·decide
  ·decide
 |[x,y],c,h=>by
  simp only[Tr.e64,Tr.c0,Tr.c1,Tr.c2,wE,List.not_mem_nil,or_false]at h;rcases h with rfl|rfl|rfl|rfl
  ·exact pf _ (Nat.mod_lt _ oA)
  ·exact pf _ (Nat.mod_lt _ oA)
  ·exact pf _ (Nat.mod_lt _ oA)
  ·decide
 |x::y::z::r,c,h=>by
  simp only[Tr.e64,Tr.c0,Tr.c1,Tr.c2,Tr.c3,wE]at h;rcases h with rfl|rfl|rfl|rfl|h
  ·exact pf _ (Nat.mod_lt _ oA)
  ·exact pf _ (Nat.mod_lt _ oA)
  ·exact pf _ (Nat.mod_lt _ oA)
  ·exact pf _ (Nat.mod_lt _ oA)
  ·exact qsb r c h
def yq:∀b:Bs,(Tr.e64 b).length<=4*b.length
 |[]=>by simp[Tr.e64]|[x]=>by simp[Tr.e64]|[x,y]=>by simp[Tr.e64]|x::y::z::r=>by
  have:=yq r;simp only[Tr.e64,qL];omega
def zia:∀(n:Nat)(s:Bs),s.length<n->(Tr.lines76 s).length<=2*s.length+2:=by
 intro n
 induction n with
 |zero=>intro s h;omega|succ n ih=>
  intro s h;rw[Tr.lines76_eq];by_cases h76:76<s.length
  ·have:=ih (s.drop 76) (by rw[List.length_drop];omega)
   rw[qX h76];simp only[qM,List.length_take,qL,qZ];rw[List.length_drop]at this;omega
  ·rw[qW h76];split
   ·simp
   ·simp only[qM,qL,qZ];omega
def q4x(fu:Nat)(hfu:90000000<=fu)(b:Bs)(hb:b.length<=12000:=by omega):qbz fu b=some (Tr.e64 b):=by
 have hl:=yq b;unfold qbz;rw[Tr.enc64_eq fu b oA hb,qB]
 unfold xh;have h76:(Tr.lines76 (Tr.e64 b)).length<=1000000:=by have:=zia _ (Tr.e64 b) (Nat.lt_succ_self _);omega
 rw[am oI,qB]
 have:=zkc _ (Tr.e64 b) (Nat.lt_succ_self _) (fun c hc q=>by have:=qsb b c hc;rw[q]at this;revert this;decide)
 unfold Lib.replaceAll Lib.replace Lib.replaceNum;rw[qW oE,qX (.inl oE)]
 exact congrArg some this
end Go.Sym
namespace Go.Sym
def vi(c:UInt8):Bool:=decide (97<=c/\c<=122)||decide (65<=c/\c<=90)||decide (48<=c/\c<=57)
abbrev hxD:Bs:=[48,49,50,51,52,53,54,55,56,57,65,66,67,68,69,70]
def pw(c:UInt8):UInt8:=hxD.getD (c.toNat/16) 0
def px(c:UInt8):UInt8:=hxD.getD (c.toNat%16) 0
def dq(c:UInt8):Bs:=if c=32 then[95] else if vi c=true then[c] else[61,pw c,px c]
def p9{α:Type}[BEq α](a:Option α)(b:α):Bool:=match a with|some x=>x==b|none=>false
def qio(c:UInt8):Bool:=p9 (qes c) (vi c)&&p9 (ow (qg c (min (4:Int).toNat 8))) (pw c)&&p9 (ow c) (px c)&&(match oy [pw c,px c] with|some (x,y)=>x==c&&y|none=>false) &&
 (dq c).all (fun d=>decide (33<=d.toNat/\d.toNat<=126/\d≠63))&&(!vi c||(c != 95&&c != 61&&decide (33<=c)&&decide (c<=126)))
def zh8:∀n:_root_.Fin 256,qio (UInt8.ofNat n.val)=true:=by decide +kernel
def zh7(c:UInt8):qio c=true:=yg (fun c=>qio c=true) zh8 c
def q62{a:Option UInt8}{b:UInt8}(h:p9 a b=true):a=some b:=by
 cases a with
 |none=>cases h
 |some x=>exact congrArg some (by simpa [p9] using h)
def q61{a:Option Bool}{b:Bool}(h:p9 a b=true):a=some b:=by
 cases a with
 |none=>cases h
 |some x=>exact congrArg some (by simpa [p9] using h)
def qs9(c:UInt8):qes c=some (vi c)/\ow (qg c (min (4:Int).toNat 8))=some (pw c)/\ow c=some (px c)/\oy [pw c,px c]=some (c,true)/\(∀d∈dq c,33<=d.toNat/\d.toNat<=126/\d≠63)/\(vi c=true->c≠95/\c≠61/\33<=c/\c<=126):=by
 have h:=zh7 c;unfold qio at h;simp only[qA]at h;obtain⟨⟨⟨⟨⟨h1,h2⟩,h3⟩,h4⟩,h5⟩,h6⟩:=h;refine⟨q61 h1,q62 h2,q62 h3,?_,?_,?_⟩
 ·split at h4
  ·rename_i x y e;simp only[qA,beq_iff_eq]at h4;rw[e,h4.1,h4.2]
  ·cases h4
 ·intro d hd;have:=List.all_eq_true.1 h5 d hd;simpa using this
 ·intro hl;rw[hl]at h6;have h6:((¬c=95/\¬c=61)/\33<=c)/\c<=126:=by simpa using h6
  exact⟨h6.1.1.1,h6.1.1.2,h6.1.2,h6.2⟩
def zja(a b:UInt8)(r:Bs):oy (a::b::r)=oy [a,b]:=by
 unfold oy;rw[be oH,be]
 rfl
def qu2(c:UInt8)(out:Bs)(h:out.length<=1000000000:=by omega):xf c out=some (out++[c]):=by
 unfold xf lj;rw[qB,am oS]
def qu4(t out:Bs)(h:out.length<=1000000000:=by omega)(ht:t.length<=1000000:=by omega):xg t out=some ((List.length t:Int),out++t):=by
 unfold xg lj;rw[qB,am oV]
def zmg(t out:Bs)(h:out.length<=1000000000)(ht:t.length<=1000000):qfp t out=some ((List.length t:Int),(t,out++t)):=by
 unfold qfp lj;rw[qB,am oV]
def qhm(c:UInt8):1<=(dq c).length/\(dq c).length<=3:=by
 unfold dq;repeat' split
 all_goals simp
def q36(fu n:Nat):∀(ab aa out:Bs),aa.length<n->ab.length+aa.length<100000000->out.length+3*aa.length<=900000000 ->
  qby fu n (ab++aa) ((ab.length+aa.length:Nat):Int) (ab.length:Int) out=some (out++aa.flatMap dq):=by
 induction n with
 |zero=>intro ab aa out h;omega|succ n ih=>
  intro ab aa out h hb ho;rw[qby,qp2]
  cases aa with
  |nil=>rw[be];simp;rfl|cons c aa=>
   simp only[qL]at h hb ho;have hd:=qhm c;have ih:=fun out=>ih (ab++[c]) aa out oA oD
   simp only[qM,qL,qZ,qS,wM,wO]at ih;obtain⟨l1,l2,l3,_⟩:=qs9 c;have e:out++List.flatMap dq (c::aa)=(out++dq c)++List.flatMap dq aa:=oC
   rw[am oH,ej,qB,dd _,show ab.length+(c::aa).length=ab.length+1+aa.length by simp only[qL];omega,qrc,e]
   unfold dq;by_cases h1:c=32
   ·rw[qX h1,qX h1,qu2 _ _,qB,ih _ oK];rfl
   ·rw[qW h1,qW h1,l1,qB];cases hl:vi c
    ·rw[bi rfl,l2,qB,l3,qB,zmg _ _ oA oC,qB,qW oC,ih _ oG];rfl
    ·rw[bh rfl,qu2 _ _,qB,qX rfl,ih _ oK];rfl
def zl0(fu n:Nat):∀(b ab out:Bs),b.length<n->ab.length+(b.flatMap dq).length<100000000->out.length+b.length<=900000000 ->
  qbx fu n (ab++b.flatMap dq) (ab.length:Int) out=some (true,out++b):=by
 induction n with
 |zero=>intro b ab out h;omega|succ n ih=>
  intro b ab out h hb ho;rw[qbx,qp1]
  cases b with
  |nil=>rw[be];simp|cons c b=>
   have e:List.flatMap dq (c::b)=dq c++List.flatMap dq b:=oC
   rw[e,qM]at hb;simp only[qL]at h ho;have hd:=qhm c;have ih:=ih b (ab++dq c) (out++[c]) oA (by rw[qM];omega) oK
   rw[qS,qM,qS]at ih;obtain⟨l1,l2,l3,l4,l5,l6⟩:=qs9 c;rw[e,am oJ]
   have hrow:(out++[c]).length<=aq:=by simp only[aq,qM,wD];omega
   clear e;generalize List.flatMap dq b=t at ih hb ⊢;unfold dq at ih ⊢;by_cases h1:c=32
   ·subst h1;rw[qX rfl]at ih ⊢;rw[show ab++([95]++t)=ab++95::t from rfl]at ih ⊢
    rw[ej,qB,bh,am hrow,dd _]
    exact ih
   ·rw[qW h1]at ih ⊢;cases hl:vi c
    ·rw[hl,qW oC]at ih
     rw[qW oC]
     rw[show ab++([61,pw c,px c]++t)=ab++61::pw c::px c::t from rfl]at ih ⊢
     have hdrop:List.drop (((ab.length+1:Nat):Int)).toNat (ab++61::pw c::px c::t)=pw c::px c::t:=by
      rw[show(((ab.length+1:Nat):Int)).toNat=ab.length+1 by omega,← List.drop_drop,List.drop_left];rfl
     rw[ej,qB,bi (by rfl),qB,bh,dd _,am oM,hdrop,zja,l4,qB,di]
     dsimp only;rw[am hrow,show af ((ab.length:Int)+2)=((ab.length+2:Nat):Int) from qd1 _ 2,dd _]
     exact ih
    ·rw[hl,qX rfl]at ih;rw[qX rfl];obtain⟨n1,n2,n3,n4⟩:=l6 hl;rw[show ab++([c]++t)=ab++c::t from rfl]at ih ⊢
     rw[ej,qB,bi (by simpa using n1),qB,bi (by simpa using n2),qB,am n3,qB,decide_eq_true n4]
     unfold qga;rw[bh rfl,ej,qB,am hrow,dd _]
     exact ih
open Go.Lib (indexByte)
def du(k:Nat)(R:List Nat):Bs:=if k=2 then Tr.e64 (tx R) else(R.map UInt8.ofNat).flatMap dq
def gc(k:Nat):UInt8:=if k=2 then 66 else 81
def ax(k:Nat)(R:List Nat):Bs:=61::63::(az k++63::gc k::63::(du k R++[63,61]))
def qjx(k:Nat)(R:List Nat):(ax k R).length=(az k).length+(du k R).length+7:=by
 unfold ax;simp only[qL,qM,qZ];omega
def q4e(b:Bs):(b.flatMap dq).length<=3*b.length:=by
 induction b with|nil=>simp|cons c b ih=>have:=qhm c;simp only[List.flatMap_cons,qM,qL];omega
def qr1(k:Nat)(R:List Nat):(du k R).length<=16*R.length:=by
 unfold du;split
 ·have:=yq (tx R);have:=mz R;omega
 ·have:=q4e (R.map UInt8.ofNat);rw[wC]at this;omega
def zf4(k:Nat)(R:List Nat):∀c∈du k R,33<=c.toNat/\c.toNat<=126/\c≠63:=by
 unfold du;split
 ·exact qsb _
 ·intro c hc;obtain⟨d,_,hd⟩:=List.mem_flatMap.1 hc;exact(qs9 d).2.2.2.2.1 c hd
def qti(k:Nat):(az k).length<=6:=by unfold az;split<;>simp
def zio(k:Nat):∀c∈az k,33<=c.toNat/\c.toNat<=126/\c≠63:=by
 unfold az;split<;>decide
def qjy(fu:Nat)(hfu:90000000<=fu)(k:Nat)(hk:k<3)(R:List Nat)(h:f9 k R)(hl:R.length<=3000:=by omega):ul fu (az k) (tx R)=some (ax k R):=by
 have hc:=zfn fu hfu k hk R h hl;have hn:=qti k;have hd:=qr1 k R;have ht:=mz R;unfold ul;rw[hc,qB];dsimp only;have sm:bf ≥ 1000000:=by simp only[bf];omega
 match k,hk,h with
 |2,_,h=>
  have e:nz 2 R=tx R:=qW oA
  rw[bh (show(az 2==([117,116,102,56]:Bs))=true from rfl),am oI,am oG,e,q4x fu hfu _,qB]
  have hd:(Tr.e64 (tx R)).length<=16*R.length:=hd;rw[am oG,am oG]
  refine congrArg some ?_;unfold ax du gc;simp
 |0,_,h=>
  have e:nz 0 R=R.map UInt8.ofNat:=qX
  have g:=q36 fu fu [] (R.map UInt8.ofNat) [] (by rw[wC];omega) oD oD
  rw[bi (show(az 0==([117,116,102,56]:Bs))=false from rfl),am oI,am oG,e]
  unfold qgb;simp only[List.nil_append,qZ,wO]at g;rw[show((0:Nat):Int)=0 from rfl]at g
  have hd:((R.map UInt8.ofNat).flatMap dq).length<=16*R.length:=hd;rw[g,qB,am oG,am oG]
  refine congrArg some ?_;unfold ax du gc;simp
 |1,_,h=>
  have e:nz 1 R=R.map UInt8.ofNat:=qX
  have g:=q36 fu fu [] (R.map UInt8.ofNat) [] (by rw[wC];omega) oD oD
  rw[bi (show(az 1==([117,116,102,56]:Bs))=false from rfl),am oI,am oG,e]
  unfold qgb;simp only[List.nil_append,qZ,wO]at g;rw[show((0:Nat):Int)=0 from rfl]at g
  have hd:((R.map UInt8.ofNat).flatMap dq).length<=16*R.length:=hd;rw[g,qB,am oG,am oG]
  refine congrArg some ?_;unfold ax du gc;simp
def zfg(fu:Nat)(hfu:90000000<=fu)(k:Nat)(hk:k<3)(R:List Nat)(hl:R.length<=1000):qf7 fu [gc k] (du k R)=some (true,nz k R):=by
 have ht:=mz R;have hd:=qr1 k R;unfold qf7 qf8 gc;by_cases h2:k=2
 ·subst h2;have e:nz 2 R=tx R:=qW oA
  have hdt:du 2 R=Tr.e64 (tx R):=qX rfl;rw[qX rfl,bh,bh rfl,am oL,hdt,e]
  rw[hdt]at hd;have h8:=Tr.by8_e64 (tx R);rw[Tr.dbits_lines]at h8;rw[Tr.lenient_eq fu _ oA oA,qB]
  dsimp only;rw[h8,q4x fu hfu _,qB]
  simp
 ·rw[qW h2,bi (by rfl),show(([81]:Bs)==[98])=false from rfl,bi rfl,bh]
  have hdt:du k R=(R.map UInt8.ofNat).flatMap dq:=qW h2;have e:nz k R=R.map UInt8.ofNat:=qX
  have g:=zl0 fu fu (R.map UInt8.ofNat) [] [] (by rw[wC];omega) (by have:=q4e (R.map UInt8.ofNat);rw[wC]at this;simp only[qZ];omega) oD
  unfold qf9;rw[bh rfl,hdt,e];exact g
-- a text cut at question marks
def ixl:∀(w r:Bs),(∀c∈w,c≠63)->Lib.index (w++63::r) [63]=(w.length:Int)
 |[],r,_=>by rw[List.nil_append,Lib.index,qX (by simp[List.isPrefixOf])];rfl|c::w,r,h=>by
  have hc:=h c qH;rw[wK,Lib.index,qW (by simp[List.isPrefixOf];intro q;exact hc q.symm),ixl w r (fun d hd=>h d (qE _ hd)),qW (by rw[beq_iff_eq];omega)]
  simp
def zhi(w r:Bs)(h:∀c∈w,c≠63)(hl:w.length+r.length<=1000000:=by omega):uh (w++63::r) [63]=some (w.length:Int):=by
 unfold uh nf;rw[am oM,qB,ixl w r h]
def qry(fu n:Nat)(w r:Bs)(h:∀c∈w,c≠63)(h0:w≠[])(hw:w.length<=100000)(hr:r.length<=100000)(i:Nat)(hi:i<3)(L:List Bs)(hL:L.length=4) :
  qv fu (n+1) (w++63::r) [63] 0 3 (i:Int) L=qv fu n r [63] 0 3 ((i+1:Nat):Int) (L.set i w):=by
 have ac:(w++63::r).length=w.length+r.length+1:=by simp;omega
 have hg:L[((i:Nat):Int).toNat]? = some L[i]:=by rw[show((i:Nat):Int).toNat=i by omega];exact List.getElem?_eq_getElem oA
 rw[qv,qf0,am,zhi w r h,qB,be,Int.add_zero,dr (x:=(w.length:Int)) oA oA,am,am,hg,qB,
  show((List.length ([63]:Bs):Nat):Int)=1 from rfl,dd _,am,dd _]
 congr 1
 ·rw[show((w.length+1:Nat):Int).toNat=w.length+1 by omega,← List.drop_drop,List.drop_left];rfl
 ·rw[show((i:Nat):Int).toNat=i by omega,show((w.length:Nat):Int).toNat=w.length by omega,List.take_left]
def zkz(fu:Nat)(hfu:100<=fu)(a b c r:Bs)(ha:∀x∈a,x≠63)(hb:∀x∈b,x≠63)(hc:∀x∈c,x≠63)(a0:a≠[])(b0:b≠[])(c0:c≠[])(hl:a.length+b.length+c.length+r.length<=10000) :
  qfv fu (a++63::(b++63::(c++63::r))) [63] 4=some [a,b,c,r]:=by
 obtain⟨n,rfl⟩:∃n,fu=n+4:=⟨fu-4,oA⟩
 have ac:(a++63::(b++63::(c++63::r))).length=a.length+b.length+c.length+r.length+3:=by simp;omega
 have l2:(b++63::(c++63::r)).length=b.length+c.length+r.length+2:=by simp;omega
 have l3:(c++63::r).length=c.length+r.length+1:=by simp;omega
 have la:1<=a.length:=by cases a with|nil=>exact absurd rfl a0|cons _ _=>simp
 unfold qfv qo5;rw[bi (by rfl),bi (by rfl),be oE]
 unfold qf1;have e4:(if af ((List.length (a++63::(b++63::(c++63::r))):Int)+(1:Int))<(4:Int) then af ((List.length (a++63::(b++63::(c++63::r))):Int)+(1:Int)) else(4:Int))=4:=by
  rw[dd _,qW oA]
 rw[e4,am,show af ((4:Int)-1)=3 from rfl,show List.replicate (4:Int).toNat ([]:Bs)=[[],[],[],[]] from rfl]
 have s1:=qry (n+4) (n+3) a (b++63::(c++63::r)) ha a0 oA oA 0 oA [[],[],[],[]] rfl
 have s2:=qry (n+4) (n+2) b (c++63::r) hb b0 oA oA 1 oA [a,[],[],[]] rfl
 have s3:=qry (n+4) (n+1) c r hc c0 oA oA 2 oA [a,b,[],[]] rfl
 have s4:qv (n+4) (n+1) r [63] 0 3 ((2+1:Nat):Int) [a,b,c,[]]=some [a,b,c,r]:=by
  rw[qv,qf0,bi (by rfl)];rfl
 have:=((s1.trans s2).trans s3).trans s4;exact congrArg (fun x=>Option.bind x some) this
def zjk(x y:UInt8)(r:Bs):jk (x::y::r) [61,63]=some ([x,y]==([61,63]:Bs)):=by
 unfold jk w9;rw[am oI,am ⟨oC,oI⟩];rfl
def zf5(k:Nat)(R:List Nat)(h:R≠[]):du k R≠[]:=by
 cases R with
 |nil=>exact absurd rfl h|cons c R=>
  unfold du;split
  ·intro q;have h1:=qus (R:=c::R) oC
   cases e:tx (c::R) with
   |nil=>exact h1 e|cons x t=>
    rw[e]at q
    match t,q with
    |[],q=>cases q
    |[_],q=>cases q
    |_::_::_,q=>cases q
  ·intro q;have h1:=qhm (UInt8.ofNat c);simp only[List.map_cons,List.flatMap_cons]at q;have h2:=(List.append_eq_nil_iff.1 q).1;rw[h2]at h1;exact absurd h1.1 oC
def q7h(fu:Nat)(hfu:90000000<=fu)(k:Nat)(hk:k<3)(R:List Nat)(h:f9 k R)(hl:R.length<=1000)(h0:R≠[])(h75:(ax k R).length<=75)(rest:Bs)(hr:rest.length<=10000) :
  xn fu (ax k R++rest)=some (tx R,(((ax k R).length:Int),true)):=by
 have hwl:=qjx k R;have hn:=qti k;have ac:(ax k R++rest).length=(ax k R).length+rest.length:=qM;have hd:=zfk fu hfu k hk R h
 have hb:=zfg fu hfu k hk R hl
 -- what is cut
 have hmin:(if(75:Int)<((ax k R++rest).length:Int) then(75:Int) else((ax k R++rest).length:Int))=((min 75 (ax k R++rest).length:Nat):Int):=by split<;>omega
 obtain⟨M,hM⟩:∃M,M=min 75 (ax k R++rest).length:=⟨_,rfl⟩;have hM1:(ax k R).length<=M:=oA
 have hM2:M<=75:=oA
 have htake:List.take (((M:Nat):Int).toNat-(2:Int).toNat) (List.drop (2:Int).toNat (ax k R++rest))=az k++63::([gc k]++63::(du k R++63::(61::rest.take (M-(ax k R).length)))):=by
  have e1:List.drop (2:Int).toNat (ax k R++rest)=(az k++63::gc k::63::(du k R++[63,61]))++rest:=rfl;rw[e1,show((M:Nat):Int).toNat-(2:Int).toNat=M-2 by show((M:Nat):Int).toNat-2=M-2;omega,List.take_append]
  have e2:(az k++63::gc k::63::(du k R++[63,61])).length=(ax k R).length-2:=by rw[hwl];simp only[qM,qL,qZ];omega
  rw[List.take_of_length_le oA,e2,show M-2-((ax k R).length-2)=M-(ax k R).length by omega]
  simp
 have hs:=zkz fu oA (az k) [gc k] (du k R) (61::rest.take (M-(ax k R).length)) (fun c hc=>(zio k c hc).2.2) (fun c hc=>by rw[List.mem_singleton]at hc;subst hc;unfold gc;split<;>decide) (fun c hc=>(zf4 k R c hc).2.2)
  (by unfold az;split<;>simp) oC (zf5 k R h0) (by simp only[qL,qZ,List.length_take];omega)
 have hp1:jk (61::rest.take (M-(ax k R).length)) [61]=some true:=by
  unfold jk w9;rw[am oI,am ⟨oC,oI⟩]
  rfl
 unfold xn;rw[show jk (ax k R++rest) [61,63]=some true from zjk 61 63 _,qB,di,hmin,← hM,am,htake,hs,qB,be,show ak [az k,[gc k],du k R,61::rest.take (M-(ax k R).length)] 3=some (61::rest.take (M-(ax k R).length)) from rfl,qB,hp1,qB]
 unfold qgd qp4;rw[di];rw[show ak [az k,[gc k],du k R,61::rest.take (M-(ax k R).length)] 1=some [gc k] from rfl,show ak [az k,[gc k],du k R,61::rest.take (M-(ax k R).length)] 2=some (du k R) from rfl,show ak [az k,[gc k],du k R,61::rest.take (M-(ax k R).length)] 0=some (az k) from rfl]
 simp only[qB];rw[hb,qB];dsimp only;rw[hd,qB];dsimp only;rw[bh rfl,show cy ((0:Int),(0:Int))=some false from rfl,qB]
 have w:af ((af ((af ((af ((2:Int)+(List.length (az k):Int)))+(List.length [gc k]:Int)))+(List.length (du k R):Int)))+(4:Int))=((ax k R).length:Int):=by
  rw[show((List.length [gc k]:Nat):Int)=1 from rfl,dr (x:=(2:Int)+(List.length (az k):Int)) oA oA,dr (x:=(2:Int)+(List.length (az k):Int)+1) oA oA,dr (x:=(2:Int)+(List.length (az k):Int)+1+(List.length (du k R):Int)) oA oA,dr]
  omega
 rw[w];rfl
end Go.Sym
namespace Go.Sym
def jh:List Bs->Bs|[]=>[]|[w]=>w|w::v::ws=>w++(32::jh (v::ws))
def q7g(fu:Nat)(s:Bs)(h:([61,63]:Bs).isPrefixOf s=false):xn fu s=some ([],((0:Int),false)):=by
 have hp:jk s [61,63]=some false:=by
  unfold jk w9
  match s,h with
  |[],_=>rfl|[_],_=>rfl|x::y::r,h=>
   rw[am oI,am ⟨oC,oI⟩,qB]
   refine congrArg some ?_;show([x,y]==([61,63]:Bs))=false;simp[List.isPrefixOf]at h;simp;intro q;exact fun q2=>h q.symm q2.symm
 unfold xn;rw[hp,qB,l7]
def q4b(fu n:Nat)(z:Int×Int)(s:Bs)(g:Int)(hg:g = -1\/g=(s.length:Int))(out:Bs)(ho:out.length<=1000000000)(hs:s.length<=1000000):ll fu (n+1) s g (s.length:Int) z out=some (out,(0,0)):=by
 rw[ll,ui,be]
 rcases hg with rfl|rfl
 ·rw[be oE];rfl
 ·rw[am,am,show((s.length:Nat):Int).toNat=s.length by omega,List.drop_length,qu4 _ _ oA oC,qB,List.append_nil];rfl
def q4c(fu:Nat)(hfu:90000000<=fu)(k:Nat)(hk:k<3)(z:Int×Int):∀(Gs:List (List Nat)),Gs≠[]->(∀G∈Gs,f9 k G/\G.length<=1000/\G≠[]/\(ax k G).length<=75)->∀(n:Nat)(ab:Bs)(g:Int)(out:Bs),2*Gs.length<n->ab.length+(jh (Gs.map (ax k))).length<=10000->out.length+4000*Gs.length<=100000000 ->
  ll fu n (ab++jh (Gs.map (ax k))) g (ab.length:Int) z out=some (out++Gs.flatMap tx,(0,0))
 |[],h0,_,_,_,_,_,_,_,_=>absurd rfl h0|[G],_,h,n,ab,g,out,hn,hl,ho=>by
  obtain⟨h1,h2,h3,h4⟩:=h G qH;have hw:=qjx k G;have ht:=mz G;obtain⟨n,rfl⟩:∃m,n=m+2:=⟨n-2,by simp only[qL,qZ]at hn;omega⟩
  have hr:=q7h fu hfu k hk G h1 h2 h3 h4 [] oC
  rw[List.append_nil]at hr;simp only[List.map_cons,List.map_nil,jh]at hl ⊢;rw[ll,ui,am oJ,am oJ,show((ab.length:Nat):Int).toNat=ab.length by omega,List.drop_left,hr,qB]
  dsimp only;rw[di,qu4 _ _,qB,qd1 _ _]
  have he:=q4b fu n z (ab++ax k G) ((ab.length+(ax k G).length:Nat):Int) (.inr oC) (out++tx G) (by simp only[qM,qL,qZ]at ho ⊢;omega) oJ
  rw[qM]at he;rw[he];simp
 |G::G2::Gs,_,h,n,ab,g,out,hn,hl,ho=>by
  obtain⟨h1,h2,h3,h4⟩:=h G qH;have hw:=qjx k G;have ht:=mz G;simp only[qL]at hn ho;obtain⟨n,rfl⟩:∃m,n=m+2:=⟨n-2,oA⟩
  have e0:jh ((G::G2::Gs).map (ax k))=ax k G++(32::jh ((G2::Gs).map (ax k))):=by simp only[List.map_cons,jh]
  have ih0:=q4c fu hfu k hk z (G2::Gs) oC (fun x hx=>h x (qE _ hx))
  rw[e0]at hl ⊢;generalize jh ((G2::Gs).map (ax k))=t at hl ih0 ⊢;simp only[qM,qL]at hl;have hr:=q7h fu hfu k hk G h1 h2 h3 h4 (32::t) oH
  have lp:List.length (ab++(ax k G++[32]):Bs)=ab.length+(ax k G).length+1:=by simp only[qM,qL,qZ];omega
  have lo:List.length (out++tx G)=out.length+(tx G).length:=qM;have l3:List.length (G2::Gs)=Gs.length+1:=rfl;have q1:2*List.length (G2::Gs)<n:=oA
  have q2:List.length (ab++(ax k G++[32]):Bs)+t.length<=10000:=oA
  have q3:List.length (out++tx G)+4000*List.length (G2::Gs)<=100000000:=oA
  have ih:=ih0 n (ab++(ax k G++[32])) ((ab.length+(ax k G).length:Nat):Int) (out++tx G) q1 q2 q3;have e1:ab++(ax k G++[32])++t=ab++(ax k G++(32::t)):=oC
  rw[e1]at ih;rw[ll,ui,am oJ,am oJ,show((ab.length:Nat):Int).toNat=ab.length by omega,List.drop_left,hr,qB]
  dsimp only;rw[di,qu4 _ _,qB,qd1 _ _]
  have ei:ab++(ax k G++32::t)=(ab++ax k G)++32::t:=oC
  have hd:List.drop ((ab.length+(ax k G).length:Nat):Int).toNat (ab++(ax k G++32::t))=32::t:=by
   rw[ei,show((ab.length+(ax k G).length:Nat):Int).toNat=(ab++ax k G).length by rw[qM];omega,List.drop_left]
  have hi:ak (ab++(ax k G++32::t)) ((ab.length+(ax k G).length:Nat):Int)=some 32:=by
   rw[ei,show((ab.length+(ax k G).length:Nat):Int)=(((ab++ax k G).length:Nat):Int) by rw[qM]]
   exact ej _ _ _
  rw[ll,ui,am oM,am oM,hd,q7g fu _ (by rfl),qB]
  dsimp only;rw[l7,be]
  unfold qbs;rw[am,hi,qB,show gl 32=some true from rfl,qB]
  unfold qbt qbu;rw[bi (by rfl),dd _]
  have e5:List.length (ab++(ax k G++[32]):Bs)=ab.length+(ax k G).length+1:=by rw[qM,qM,wD];omega
  rw[e5]at ih;rw[ih];simp
def zgc(fu n:Nat)(z:Int×Int):∀(ab aa out:Bs),aa.length<n->ab.length+aa.length<=10000->out.length+aa.length<=1000000->(∀p r,aa=p++r->([61,63]:Bs).isPrefixOf r=false) ->
  ll fu n (ab++aa) (-1) (ab.length:Int) z out=some (out++aa,(0,0)):=by
 induction n with
 |zero=>intro ab aa out h;omega|succ n ih=>
  intro ab aa out h hb ho hp
  cases aa with
  |nil=>
   have:=q4b fu n z (ab++[]) (-1) (.inl rfl) out (by simp at ho;omega) (by simp at hb ⊢;omega)
   simpa using this
  |cons c aa=>
   simp only[qL]at h hb ho;have ih:=ih (ab++[c]) aa (out++[c]) oA oD oD (fun p r e=>hp (c::p) r (by rw[e];rfl))
   simp only[qM,qL,qZ,qS,wM,wO]at ih;rw[ll,ui,am oM,am oM,show((ab.length:Nat):Int).toNat=ab.length by omega,List.drop_left,q7g fu _ (hp [] _ rfl),qB]
   dsimp only;rw[l7,am oE,ej,qB,qu2 _ _,qB]
   unfold qbs;rw[be oE]
   unfold qbt qbu;rw[bi rfl,dd _]
   exact ih
def zhh(fu n:Nat)(c:Int):∀ab aa:List (Int×Int×Int),aa.length<n->ab.length+aa.length<1000000->∃k b,w7 fu n c (ab++aa) ((ab.length+aa.length:Nat):Int) (ab.length:Int)=some (k,b):=by
 induction n with
 |zero=>intro ab aa h;omega|succ n ih=>
  intro ab aa h hb;rw[w7,qma]
  cases aa with
  |nil=>rw[be];exact⟨_,_,rfl⟩|cons y aa=>
   simp only[qL]at h hb;obtain⟨k,b,ih⟩:=ih (ab++[y]) aa oA oD
   simp only[qM,qL,qZ,qS,wM,wO]at ih;rw[am oH,ej,qB,dd _,show ab.length+(y::aa).length=ab.length+1+aa.length by simp only[qL];omega,ih,dh,dh]
   repeat' split
   all_goals exact⟨_,_,rfl⟩
def zfs(fu:Nat)(hfu:100<=fu)(c:Int):∃k,qa7 fu c=some k:=by
 unfold qa7 ql9;have:=zhh fu fu c [] [((13:Int),(13:Int),(1:Int)),((10:Int),(10:Int),(2:Int)),((0:Int),(31:Int),(3:Int)),((127:Int),(159:Int),(3:Int)),((768:Int),(879:Int),(4:Int)),((6832:Int),(6911:Int),(4:Int)),((7616:Int),(7679:Int),(4:Int)),((8400:Int),(8447:Int),(4:Int)),((65024:Int),(65039:Int),(4:Int)),((65056:Int),(65071:Int),(4:Int)),((127995:Int),(127999:Int),(4:Int)),((8205:Int),(8205:Int),(5:Int)),((127462:Int),(127487:Int),(6:Int)),((4352:Int),(4447:Int),(7:Int)),((4448:Int),(4519:Int),(8:Int)),((4520:Int),(4607:Int),(9:Int))] oD oC
 obtain⟨k,b,e⟩:=this;refine⟨k,?_⟩;have e:w7 fu fu c _ _ _=some (k,b):=e;exact(congrArg (fun x=>Option.bind x _) e).trans rfl
def zf9(s:Bs)(h:s≠[]):jl s=some (((Lib.decodeL s).1:Int),((Lib.decodeL s).2:Int)):=by
 unfold jl uz;rw[qW h]
def q4v(fu:Nat)(hfu:100<=fu){c:Nat}(h:g9 c)(t:Bs)(hl:t.length<=90000:=by omega):∃k b,w6 fu (cg c++t)=some (k,(b,((cg c).length:Int))):=by
 have hle:=kw (c:=c);obtain⟨k,hk⟩:=zfs fu hfu (c:Int);unfold w6;rw[zf9 _ (by intro q;exact qsc (List.append_eq_nil_iff.1 q).1),qB,qr5 h]
 dsimp only;rw[hk];simp only[qB];by_cases h1:((c:Int)==(65533:Int))=true
 ·rw[bh h1];by_cases h2:(((cg c).length:Int)==(1:Int))=true
  ·rw[bh h2];exact⟨_,_,congrArg some (by rw[show((cg c).length:Int)=1 by simpa using h2])⟩
  ·rw[bi (by simpa using h2)];exact⟨_,_,rfl⟩
 ·rw[bi (by simpa using h1)];exact⟨_,_,rfl⟩
def q4o{α:Type}{b:Bool}{A B:Option α}(hA:∃x,A=some x)(hB:∃x,B=some x):∃x,(bif b then A else B)=some x:=by
 cases b
 ·exact hB
 ·exact hA
def q5e(k:Int):∃x,qa8 k=some x:=by
 unfold qa8
 repeat' (first|exact⟨_,rfl⟩|apply q4o)
def zfy(a b:Int×Bool×Int)(m:Int):∃x,qfa a b m=some x:=by
 obtain⟨h1,e1⟩:=q5e a.1;obtain⟨h2,e2⟩:=q5e b.1;unfold qfa qfb qfc qfd qfe ql8;rw[e1,e2];simp only[qB]
 repeat' (first|exact⟨_,rfl⟩|apply q4o)
def q8w(p:Bs)(L:List Bs)(h:L.length<=1000000):qa6 p L=some (L++[p]):=by
 unfold qa6;rw[am (by simp only[aq,qM,wD];omega)]
def zjb(fu:Nat)(hfu:100<=fu)(r0:Bs->List Bs->Option (Bs×List Bs))(n:Nat):∀(P Q:List Nat)(m:Int)(a:Int×Bool×Int)(L:List Bs),ia (P++Q)->Q.length<n->(tx (P++Q)).length<=80000->L.length<=1000000 ->
  ∃P' Q',P++Q=P'++Q'/\P.length<=P'.length/\oz fu r0 n ((tx P).length:Int) m (tx (P++Q)) a L=r0 (tx Q') (L++[tx P']):=by
 induction n with
 |zero=>intro P Q m a L _ h;omega|succ n ih=>
  intro P Q m a L hR hn hl hL;have ac:(tx (P++Q)).length=(tx P).length+(tx Q).length:=by rw[ti,qM]
  have hdrop:List.drop (((tx P).length:Nat):Int).toNat (tx (P++Q))=tx Q:=by
   rw[ti,show(((tx P).length:Nat):Int).toNat=(tx P).length by omega,List.drop_left]
  have htake:List.take (((tx P).length:Nat):Int).toNat (tx (P++Q))=tx P:=by
   rw[ti,show(((tx P).length:Nat):Int).toNat=(tx P).length by omega,List.take_left]
  rw[oz,qme]
  cases Q with
  |nil=>
   refine⟨P,[],rfl,wF _,?_⟩;rw[be,am,htake,q8w _ _ hL,qB,am,hdrop]
  |cons c Q=>
   have hc:g9 c:=hR c oC
   have hce:=kw (c:=c);rw[ic,qM]at ac;obtain⟨k,b,hf⟩:=q4v fu hfu hc (tx Q)
   obtain⟨x,hx⟩:=zfy a (k,(b,((cg c).length:Int))) m;have step:∀m':Int,∃P' Q',P++c::Q=P'++Q'/\P.length<=P'.length/\qa9 fu r0 (oz fu r0 n) ((tx P).length:Int) m' (tx (P++c::Q)) a (k,(b,((cg c).length:Int))) L=r0 (tx Q') (L++[tx P']):=fun m'=>by
    have e:P++c::Q=(P++[c])++Q:=oC
    simp only[qL]at hn;obtain⟨P',Q',h1,h2,h3⟩:=ih (P++[c]) Q m' (k,(b,((cg c).length:Int))) L (by rw[← e];exact hR) oA (by rw[← e];exact hl) hL
    refine⟨P',Q',by rw[e];exact h1,by simp only[qM,wD]at h2;omega,?_⟩
    unfold qa9;dsimp only;rw[qd1 _ _]
    have e2:(tx (P++[c])).length=(tx P).length+(cg c).length:=by rw[ti,qM];simp[tx]
    rw[← e,e2]at h3;exact h3
   rw[am (by rw[ac];omega),am (by rw[ac];omega),hdrop,ic,hf,qB,hx,qB]
   cases x
   ·refine⟨P,c::Q,rfl,wF _,?_⟩;rw[l7,am (by rw[ac];omega),htake,q8w _ _ hL,qB,am (by rw[ac];omega),ic]
   ·rw[di,qcj];split
    ·exact step 0
    ·exact step _
def zjc(fu:Nat)(hfu:200000<=fu)(n:Nat):∀(R:List Nat)(L:List Bs),ia R->R.length<n->(tx R).length<=80000->L.length+R.length<=1000000 ->
  ∃Ps:List (List Nat),Ps.flatten=R/\(∀P∈Ps,P≠[])/\qt fu n (tx R) L=some ([],L++Ps.map tx):=by
 induction n with
 |zero=>intro R L _ h;omega|succ n ih=>
  intro R L hR hn hl hL;rw[qt,qmd]
  cases R with
  |nil=>exact⟨[],rfl,(fun P hP=>by cases hP),by rw[qjp];simp⟩
  |cons c R=>
   obtain⟨h1,h2⟩:=vp hR;have hce:=kw (c:=c);have htl:=qur R;have hl2:=hl;rw[ic,qM]at hl2;simp only[qL]at hn hL;obtain⟨k,b,hf⟩:=q4v fu oA h1 (tx R)
   have step:∀m:Int,∃Ps:List (List Nat),Ps.flatten=c::R/\(∀P∈Ps,P≠[])/\oz fu (qt fu n) fu ((cg c).length:Int) m (tx (c::R)) (k,(b,((cg c).length:Int))) L=some ([],L++Ps.map tx):=fun m=>by
    have e2:(tx [c]).length=(cg c).length:=by simp[tx]
    obtain⟨P',Q',g1,g2,g3⟩:=zjb fu oA (qt fu n) fu [c] R m (k,(b,((cg c).length:Int))) L hR oA hl oA
    rw[e2]at g3;have g1:c::R=P'++Q':=g1;simp only[wD]at g2;have ac:R.length+1=P'.length+Q'.length:=by have:=congrArg List.length g1;simpa using this
    have hQ:ia Q':=fun d hd=>hR d (by rw[g1];exact List.mem_append_right _ hd)
    obtain⟨Ps,q1,q2,q3⟩:=ih Q' (L++[tx P']) hQ oA (by rw[g1,ti,qM]at hl;omega) oK
    refine⟨P'::Ps,by rw[List.flatten_cons,q1,g1],?_,?_⟩
    ·intro P hP;rcases List.mem_cons.1 hP with rfl|hP
     ·intro q;rw[q]at g2;simp at g2
     ·exact q2 P hP
    ·show oz fu (qt fu n) fu ((cg c).length:Int) m (tx ([c]++R)) _ L=_;rw[g3,q3];simp
   rw[bh (by rw[Bool.not_eq_true',beq_eq_false_iff_ne];exact qus oC),show w6 fu (tx (c::R))=some (k,(b,((cg c).length:Int))) by rw[ic];exact hf,qB,nr]
   dsimp only;split
   ·exact step 1
   ·exact step 0
def zk0(fu:Nat)(hfu:200000<=fu)(R:List Nat)(hR:ia R)(hl:R.length<=20000:=by omega):∃Ps:List (List Nat),Ps.flatten=R/\(∀P∈Ps,P≠[])/\qe9 fu (tx R)=some (Ps.map tx):=by
 have ht:=mz R;obtain⟨Ps,h1,h2,h3⟩:=zjc fu hfu fu R [] hR oA oA oD
 refine⟨Ps,h1,h2,?_⟩;unfold qe9 qmb qmc;rw[qB,h3];simp
def zez(fu n:Nat):∀(ab:Bs)(R:List Nat)(j:Nat),ia R->R.length<n->j<2->∃k,k<3/\qav fu n (az j) (ab++tx R) ab.length=some (az k)/\(k=2\/(j<=k/\(k=0->∀c∈R,c<128)/\(k=1->∀c∈R,c<256))):=by
 induction n with
 |zero=>intro ab R j _ h;omega|succ n ih=>
  intro ab R j hR h hj;rw[qav,qlp]
  cases R with
  |nil=>rw[qcl (by simp[tx]),bi rfl];exact⟨j,oA,rfl,.inr ⟨wF _,fun _ c hc=>by(cases hc),fun _ c hc=>by(cases hc)⟩⟩
  |cons c R=>
   obtain⟨h1,h2⟩:=vp hR;have hl:=kw (c:=c);have ih:=ih (ab++cg c) R;rw[qS,qM]at ih;simp only[qL]at h;rw[ic,qcm oJ,bh rfl,qdm ab h1]
   dsimp only;rw[dh];by_cases c1:(255:Int)<(c:Int)
   ·rw[qX c1];exact⟨2,oA,rfl,.inl rfl⟩
   ·rw[qW c1,dh];by_cases c2:(127:Int)<(c:Int)
    ·rw[qX c2];obtain⟨k,k1,k2,k3⟩:=ih 1 h2 oA oA
     refine⟨k,k1,k2,?_⟩;rcases k3 with k3|⟨k3,k4,k5⟩
     ·exact .inl k3
     ·exact .inr ⟨oA,fun q=>oA,fun q d hd=>by
       rcases List.mem_cons.1 hd with rfl|hd
       ·omega
       ·exact k5 q d hd⟩
    ·rw[qW c2];obtain⟨k,k1,k2,k3⟩:=ih j h2 oA hj
     refine⟨k,k1,k2,?_⟩;rcases k3 with k3|⟨k3,k4,k5⟩
     ·exact .inl k3
     ·exact .inr ⟨k3,fun q d hd=>by
       rcases List.mem_cons.1 hd with rfl|hd
       ·omega
       ·exact k4 q d hd,fun q d hd=>by
       rcases List.mem_cons.1 hd with rfl|hd
       ·omega
       ·exact k5 q d hd⟩
def zey(fu:Nat)(hfu:100000<=fu)(R:List Nat)(hR:ia R)(hl:R.length<=3000:=by omega):∃k,k<3/\qlo fu (tx R)=some (az k)/\f9 k R:=by
 obtain⟨k,k1,k2,k3⟩:=zez fu fu [] R 0 hR oA oA
 refine⟨k,k1,k2,hR,?_,?_⟩
 ·intro q;rcases k3 with k3|⟨_,k4,_⟩
  ·omega
  ·exact k4 q
 ·intro q;rcases k3 with k3|⟨_,_,k5⟩
  ·omega
  ·exact k5 q
def vf{k:Nat}{R S:List Nat}(h:f9 k R)(hs:∀c∈S,c∈R):f9 k S:=⟨fun c hc=>h.1 c (hs c hc),fun q c hc=>h.2.1 q c (hs c hc),fun q c hc=>h.2.2 q c (hs c hc)⟩
structure o8(k:Nat)(R:List Nat)(Gs:List (List Nat))(N:List Nat):Prop where
 all:∀G∈Gs,G≠[]/\(ax k G).length<=75
 cur:N≠[]->(ax k N).length<=75
 flat:Gs.flatten++N=R
def qsp{Gs:List (List Nat)}(h:∀G∈Gs,G≠[]):Gs.length<=Gs.flatten.length:=by
 induction Gs with
 |nil=>simp|cons G Gs ih=>
  have h1:1<=G.length:=by
   have:=h G qH
   cases G with|nil=>exact absurd rfl this|cons _ _=>simp
  have:=ih (fun x hx=>h x (qE _ hx))
  simp only[qL,List.flatten_cons,qM];omega
def q7b(fu:Nat)(hfu:90000000<=fu)(k:Nat)(hk:k<3){R:List Nat}{Gs:List (List Nat)}{N U:List Nat}(h:o8 k R Gs N)(hin:f9 k (R++U))(hU:U≠[])(hU75:(ax k U).length<=75)(hl:R.length+U.length<=1000) :
  ∃Gs' N',o8 k (R++U) Gs' N'/\N'≠[]/\qbw fu (tx U) (az k) (tx N) (Gs.map (ax k))=some (az k,(tx N',Gs'.map (ax k))):=by
 obtain⟨h1,h2,h3⟩:=h;have hb:=qsp (fun G hG=>(h1 G hG).1)
 have ac:Gs.flatten.length+N.length=R.length:=by rw[← h3,qM]
 have tN:=mz N;have tU:=mz U;have sm:bf ≥ 1000000:=by simp only[bf];omega
 unfold qbw;by_cases hN:N=[]
 ·subst hN;rw[qjp,bi (by rfl),am (by simp only[qZ];omega)]
  refine⟨Gs,U,⟨h1,fun _=>hU75,?_⟩,hU,rfl⟩
  rw[← h3,List.append_nil]
 ·have hne:tx N≠[]:=qus hN;have hin2:f9 k (N++U):=vf hin (fun c hc=>by
   rw[← h3];rcases List.mem_append.1 hc with q|q
   ·exact List.mem_append_left _ (List.mem_append_right _ q)
   ·exact List.mem_append_right _ q)
  have hinN:f9 k N:=vf hin2 (fun c hc=>List.mem_append_left _ hc)
  have w1:=qjy fu hfu k hk (N++U) hin2 (by rw[qM];omega)
  have w2:=qjy fu hfu k hk N hinN
  rw[ti]at w1;rw[bh (by rw[Bool.not_eq_true',beq_eq_false_iff_ne];exact hne),am,w1,qB,dh]
  by_cases h75:(75:Int)<((ax k (N++U)).length:Int)
  ·rw[qX h75,w2,qB,am (by simp only[aq,qM,wC,wD];omega),am (by simp only[qZ];omega)]
   refine⟨Gs++[N],U,⟨?_,fun _=>hU75,?_⟩,hU,oC⟩
   ·intro G hG;rcases List.mem_append.1 hG with q|q
    ·exact h1 G q
    ·rw[List.mem_singleton]at q;subst q;exact⟨hN,h2 hN⟩
   ·rw[← h3];simp
  ·rw[qW h75,am]
   refine⟨Gs,N++U,⟨h1,fun _=>oA,?_⟩,by simp[hN],by rw[ti]⟩
   rw[← h3];simp
def zfp(fu:Nat)(hfu:90000000<=fu)(k:Nat)(hk:k<3)(r0:Int->Int->Bs->Bs->Bs->Bs->List Bs->List Bs->Option qgj)(s10 s11:Int)(m1 m2:Bs)(m32:List Bs)(n:Nat):∀(ab:Bs)(Q R:List Nat)(Gs:List (List Nat))(N:List Nat),Q.length<n->o8 k R Gs N->f9 k (R++Q)->R.length+Q.length<=1000->(Q=[]->N≠[]) ->
  ∃Gs' N',o8 k (R++Q) Gs' N'/\N'≠[]/\qb2 fu r0 n s10 s11 m1 m2 (az k) (tx N) m32 (ab++tx Q) ab.length (Gs.map (ax k))=r0 s10 (af (s11+(1:Int))) m1 m2 (az k) (tx N') m32 (Gs'.map (ax k)):=by
 induction n with
 |zero=>intro ab Q R Gs N h;omega|succ n ih=>
  intro ab Q R Gs N h hs hin hl hq;rw[qb2,qp7]
  cases Q with
  |nil=>
   refine⟨Gs,N,by simpa using hs,hq rfl,?_⟩
   rw[qcl (by simp[tx]),bi rfl]
  |cons c Q=>
   have hc:g9 c:=hin.1 c oC
   have hce:=kw (c:=c);simp only[qL]at h hl;have e1:tx [c]=cg c:=by simp[tx]
   have hw:=qjx k [c];have hd:=qr1 k [c];have hn:=qti k;simp only[wD]at hd;obtain⟨Gs1,N1,g1,g2,g3⟩:=q7b fu hfu k hk (U:=[c]) hs (vf hin (fun d hd=>by
    rcases List.mem_append.1 hd with q|q
    ·exact List.mem_append_left _ q
    ·rw[List.mem_singleton]at q;subst q;simp)) oC oA (by simp only[wD];omega)
   obtain⟨Gs2,N2,q1,q2,q3⟩:=ih (ab++cg c) Q (R++[c]) Gs1 N1 oA g1 (by simpa using hin) oK (fun _=>g2)
   refine⟨Gs2,N2,by simpa using q1,q2,?_⟩
   rw[qS,qM]at q3;rw[ic,qcm oJ,bh rfl,qdm ab hc]
   dsimp only;rw[q7j hc,← e1,g3,qB];dsimp only;rw[e1];exact q3
def zl3(fu:Nat)(hfu:90000000<=fu)(k:Nat)(hk:k<3)(m1 m2:Bs)(hm2:m2=az k)(n:Nat):∀(ab:List Bs)(Ps:List (List Nat))(R:List Nat)(Gs:List (List Nat))(N:List Nat),Ps.length<n->ab.length+Ps.length<=1000000->o8 k R Gs N->(∀P∈Ps,P≠[])->f9 k (R++Ps.flatten)->R.length+Ps.flatten.length<=1000->(Ps=[]->N≠[]) ->
  ∃Gs' N',o8 k (R++Ps.flatten) Gs' N'/\N'≠[]/\uk fu n ((ab.length+Ps.length:Nat):Int) (ab.length:Int) m1 m2 (az k) (tx N) (ab++Ps.map tx) (Gs.map (ax k))=some (m1,(m2,(az k,(tx N',Gs'.map (ax k))))):=by
 induction n with
 |zero=>intro ab Ps R Gs N h;omega|succ n ih=>
  intro ab Ps R Gs N h hb hs hne hin hl hq;rw[uk,qp6]
  cases Ps with
  |nil=>exact⟨Gs,N,by simpa using hs,hq rfl,by rw[be]⟩|cons P Ps=>
   simp only[qL,List.flatten_cons,qM]at h hb hl;have hP:=hne P qH;have hinP:f9 k P:=vf hin (fun c hc=>by simp[hc])
   have hw:=qjy fu hfu k hk P hinP
   have e0:∀S:List Nat,S++(P::Ps).flatten=(S++P)++Ps.flatten:=fun S=>oC
   have hinRP:f9 k (R++P):=vf hin (fun c hc=>by
    rcases List.mem_append.1 hc with q|q
    ·exact List.mem_append_left _ q
    ·simp[q])
   have next:∀Gs1 N1,o8 k (R++P) Gs1 N1->N1≠[]->∃Gs' N',o8 k (R++(P::Ps).flatten) Gs' N'/\N'≠[]/\uk fu n ((ab.length+(P::Ps).length:Nat):Int) (af ((ab.length:Int)+(1:Int))) m1 m2 (az k) (tx N1) (ab++(P::Ps).map tx) (Gs1.map (ax k))=some (m1,(m2,(az k,(tx N',Gs'.map (ax k))))):=fun Gs1 N1 g1 g2=>by
    obtain⟨Gs2,N2,q1,q2,q3⟩:=ih (ab++[tx P]) Ps (R++P) Gs1 N1 oA oK g1 (fun x hx=>hne x (qE _ hx)) (by rw[← e0];exact hin) (by rw[qM];omega) (fun _=>g2)
    refine⟨Gs2,N2,by rw[e0];exact q1,q2,?_⟩
    rw[dd _]
    rw[qM,wD,qS]at q3;rw[show ab.length+(P::Ps).length=ab.length+1+Ps.length by simp only[qL];omega]
    exact q3
   rw[am oH,q76,List.map_cons,ej,qB,hm2,hw,qB,dh]
   rw[hm2]at next
   by_cases h75:((ax k P).length:Int)<=75
   ·rw[qX h75];obtain⟨Gs1,N1,g1,g2,g3⟩:=q7b fu hfu k hk (U:=P) hs hinRP hP oA oA
    obtain⟨Gs2,N2,q1,q2,q3⟩:=next Gs1 N1 g1 g2
    refine⟨Gs2,N2,q1,q2,?_⟩;rw[g3,qB];exact q3
   ·rw[qW h75];obtain⟨Gs1,N1,g1,g2,g3⟩:=zfp fu hfu k hk (uk fu n) ((ab.length+(P::Ps).length:Nat):Int) (ab.length:Int) m1 (az k) (ab++tx P::Ps.map tx) fu [] P R Gs N oA hs hinRP oA (fun q=>absurd q hP)
    obtain⟨Gs2,N2,q1,q2,q3⟩:=next Gs1 N1 g1 g2
    refine⟨Gs2,N2,q1,q2,?_⟩;simp only[List.nil_append,qZ]at g3;rw[g3];exact q3
def zl2(fu:Nat)(hfu:90000000<=fu)(k:Nat)(hk:k<3)(R:List Nat)(h:f9 k R)(h0:R≠[])(hl:R.length<=1000):∃Gs' N',o8 k R Gs' N'/\N'≠[]/\qge fu (tx R) (az k) (az k) [] []=some (tx R,(az k,(az k,(tx N',Gs'.map (ax k))))):=by
 obtain⟨Ps,p1,p2,p3⟩:=zk0 fu oA R h.1
 have hb:=qsp p2;rw[p1]at hb;have hne:Ps≠[]:=fun q=>by subst q;exact h0 p1.symm
 obtain⟨Gs,N,q1,q2,q3⟩:=zl3 fu hfu k hk (tx R) (az k) rfl fu [] Ps [] [] [] oA oD ⟨(fun _ h=>by cases h),(fun h=>absurd rfl h),rfl⟩ p2 (by rw[p1];exact h) (by rw[p1];simpa using hl) (fun q=>absurd q hne)
 rw[p1,List.nil_append]at q1;refine⟨Gs,N,q1,q2,?_⟩;unfold qge;rw[p3,qB];simp only[qZ,wO,List.nil_append,List.map_nil]at q3;rw[wC];exact q3
def q5z:∀ws:List Bs,Lib.join ws [32]=jh ws
 |[]=>rfl|[w]=>by rw[Lib.join_one];rfl|w::v::ws=>by
  rw[jh,← q5z (v::ws)];unfold Lib.join;simp[List.intercalate]
def q9t:∀(ws:List Bs)(m:Nat),(∀w∈ws,w.length<=m)->(jh ws).length<=(m+1)*ws.length
 |[],_,_=>by simp[jh]|[w],m,h=>by have:=h w qH;simp only[jh,qL,qZ];omega|w::v::ws,m,h=>by
  have h1:=h w qH;have h2:=q9t (v::ws) m (fun x hx=>h x (qE _ hx))
  simp only[jh,qM,qL]at h2 ⊢;rw[Nat.mul_add (m+1) (ws.length+1) 1];omega
def zdb(x a:Bs):Prop:=x.length<=4000->xm 100000000 x=some (a,(0,0))
def q6r:∀(s:Bs),Lib.index s [61,63] = -1->∀p r,s=p++r->([61,63]:Bs).isPrefixOf r=false
 |[],_,p,r,e=>by
  have:=(List.append_eq_nil_iff.1 e.symm).2;subst this;rfl
 |c::s,h,p,r,e=>by
  have hg:=Lib.index_ge s [61,63];rw[Lib.index]at h;split at h
  ·exact absurd h oE
  ·rename_i hp;split at h
   ·rename_i h2
    cases p with
    |nil=>rw[List.nil_append]at e;rw[← e];exact Bool.eq_false_iff.2 hp|cons d p=>
     rw[wK]at e;injection e with _ e
     exact q6r s (by simpa using h2) p r e
   ·omega
def zje(fu n:Nat)(hfu:100<=fu):∀(ab aa:Bs),aa.length<n->ab.length+aa.length<=10000->∃b,uj fu n (ab++aa) ((ab.length+aa.length:Nat):Int) (ab.length:Int)=some b/\(b=true->Lib.index (ab++aa) [61,63] = -1):=by
 induction n with
 |zero=>intro ab aa h;omega|succ n ih=>
  intro ab aa h hb;rw[uj,qgc]
  cases aa with
  |nil=>
   have hp:∃x,jk (ab++[]) [32]=some x:=by
    unfold jk w9;by_cases q:((List.length ([32]:Bs):Int)<=(List.length (ab++[]):Int))
    ·rw[am q,am ⟨oC,q⟩];exact⟨_,rfl⟩
    ·rw[be q];exact⟨_,rfl⟩
   have hs:∃x,qbi (ab++[]) [32]=some x:=by
    unfold qbi xa;have hl:(ab++[]).length=ab.length:=oC
    by_cases q:((List.length ([32]:Bs):Int)<=(List.length (ab++[]):Int))
    ·have q2:((List.length ([32]:Bs):Nat):Int)=1:=rfl;simp only[qZ]at hb;rw[am q,q2,dr,am];exact⟨_,rfl⟩
    ·rw[be q];exact⟨_,rfl⟩
   obtain⟨x1,e1⟩:=hp;obtain⟨x2,e2⟩:=hs;rw[be,e1,qB]
   cases x1
   ·rw[l7,e2,qB];cases x2
    ·unfold qob uh nf;have hg:=Lib.index_ge (ab++[]) [61,63];rw[l7,am (by simp at hb ⊢;omega),qB,qB,qB]
     exact⟨_,rfl,fun q=>by
      have:¬(0:Int)<=Lib.index (ab++[]) [61,63]:=by simpa using q
      omega⟩
    ·rw[di];exact⟨false,rfl,fun q=>by cases q⟩
   ·rw[di];exact⟨false,rfl,fun q=>by cases q⟩
  |cons c aa=>
   simp only[qL]at h hb;obtain⟨b,ih1,ih2⟩:=ih (ab++[c]) aa oA oD
   simp only[qM,qL,qZ,qS,wM,wO]at ih1 ih2;have p1:∀x:Bool,∃b,qb1 fu (uj fu n) (ab++c::aa) ((ab.length+(c::aa).length:Nat):Int) (ab.length:Int) x=some b/\(b=true->Lib.index (ab++c::aa) [61,63] = -1):=fun x=>by
    unfold qb1 qp3;cases x
    ·rw[bi rfl,dd _,show ab.length+(c::aa).length=ab.length+1+aa.length by simp only[qL];omega]
     exact⟨b,ih1,ih2⟩
    ·rw[bh rfl];exact⟨false,rfl,fun q=>by cases q⟩
   rw[am oH,ej,qB,qB,dh]
   split
   ·exact p1 true
   ·exact p1 _
def zjf(n:Nat):qb0 (n+1) []=some true:=by
 unfold qb0;rw[uj,qgc];rfl
def q4k(a:Bs):∃x f,qbv 100000000 a=some (x,f)/\(f.1≠0->x=[])/\(f.1=0->zdb x a/\x.length<=100000):=by
 have hfu:90000000<=100000000:=oA
 unfold qbv;by_cases h1:(1000:Int)<(a.length:Int)
 ·rw[am h1];exact⟨[],_,rfl,fun _=>rfl,fun q=>absurd q oE⟩
 rw[be h1];have hval:gy a=some (Lib.validD a):=by
  unfold gy;rw[am]
 rw[hval,qB];cases hv:Lib.validD a
 ·rw[l7];exact⟨[],_,rfl,fun _=>rfl,fun q=>absurd q oE⟩
 obtain⟨R,hR,rfl⟩:=zl9 _ a (wF _) hv;have htl:=qur R;obtain⟨b,hp,hpl⟩:=zje 100000000 100000000 oA [] (tx R) oA oD
 simp only[List.nil_append,qZ,wO]at hp hpl;rw[show((0:Nat):Int)=0 from rfl]at hp
 have hp:qb0 100000000 (tx R)=some b:=hp;rw[di,hp,qB];cases hb:b
 ·have h0:R≠[]:=fun q=>by
   subst q;have:=zjf 99999999;rw[qjp]at hp;rw[show(100000000:Nat)=99999999+1 from rfl,this,hb]at hp
   cases hp
  obtain⟨k,k1,k2,k3⟩:=zey 100000000 oA R hR
  obtain⟨Gs,N,q1,q2,q3⟩:=zl2 100000000 hfu k k1 R k3 h0 oA
  obtain⟨g1,g2,g3⟩:=q1;have hbd:=qsp (fun G hG=>(g1 G hG).1)
  have ac:Gs.flatten.length+N.length=R.length:=by rw[← g3,qM]
  have hinN:f9 k N:=vf k3 (fun c hc=>by rw[← g3];exact List.mem_append_right _ hc)
  have hw:=qjy 100000000 hfu k k1 N hinN
  have hall:∀G∈Gs++[N],f9 k G/\G.length<=1000/\G≠[]/\(ax k G).length<=75:=fun G hG=>by
   rcases List.mem_append.1 hG with q|q
   ·refine⟨vf k3 (fun c hc=>by rw[← g3];exact List.mem_append_left _ (List.mem_flatten.2 ⟨G,q,hc⟩)),?_,(g1 G q).1,(g1 G q).2⟩
    have:G.length<=Gs.flatten.length:=by
     obtain⟨s,t,e⟩:=List.append_of_mem q;rw[e];simp;omega
    omega
   ·rw[List.mem_singleton]at q;subst q;exact⟨hinN,oA,q2,g2 q2⟩
  have hm:∀w∈(Gs++[N]).map (ax k),w.length<=75:=fun w hw=>by
   obtain⟨G,hG,rfl⟩:=List.mem_map.1 hw;exact(hall G hG).2.2.2
  have hwl:=q9t _ 75 hm;rw[wC,qM,wD]at hwl;rw[bi rfl,k2,qB];unfold qp5;rw[qB];dsimp only;rw[q3,qB];dsimp only;rw[hw,qB,am (by simp only[aq,qM,wC,wD];omega)]
  have e:Gs.map (ax k)++[ax k N]=(Gs++[N]).map (ax k):=oC
  unfold o6;rw[e,q5z,am ⟨by rw[wC,qM,wD];omega,oA⟩,qB]
  refine⟨_,_,rfl,fun q=>absurd rfl q,fun _=>⟨fun hx => ?_,oA⟩⟩
  have hd:=q4c 100000000 hfu k k1 (0,0) (Gs++[N]) oC hall 100000000 [] (-1) [] (by rw[qM,wD];omega) (by simp only[qZ];omega) (by rw[qM,wD];simp only[qZ];omega)
  unfold xm;rw[be]
  simp only[List.nil_append,qZ]at hd;rw[show((0:Nat):Int)=0 from rfl]at hd
  rw[hd];have ef:(Gs++[N]).flatMap tx=tx R:=by
   rw[← g3];have:∀L:List (List Nat),L.flatMap tx=tx L.flatten:=fun L=>by
    induction L with|nil=>rfl|cons G L ih=>rw[List.flatMap_cons,List.flatten_cons,ti,ih]
   rw[this];simp
  rw[ef]
 ·rw[bh rfl];refine⟨_,_,rfl,fun q=>absurd rfl q,fun _=>⟨fun hx => ?_,oA⟩⟩
  have hd:=zgc 100000000 100000000 (0,0) [] (tx R) [] oA oD oD (q6r _ (hpl hb))
  unfold xm;rw[be]
  exact hd
def yz(s:List UInt8)(i:Nat):Bool:=bl (s.getD i 0) && !bl (s.getD (i-1) 0)
def cb(s:List UInt8):Nat->Nat->Nat->Nat|0,_,b=>b|m+1,i,b=>cb s m (i+1) (if yz s i && !(decide (0<b)&&decide (78<i)) then i else b)
def q3o(s:List UInt8):∀m i b,0<b->78<i->cb s m i b=b
 |0,_,_,_,_=>rfl|m+1,i,b,h1,h2=>by
  rw[cb,decide_eq_true h1,decide_eq_true h2];simp only[Bool.and_self,Bool.not_true,Bool.and_false,wJ,if_false];exact q3o s m (i+1) b h1 oA
def qrl(s:List UInt8):∀m i b,cb s m i b=b\/(i<=cb s m i b/\cb s m i b<i+m/\yz s (cb s m i b)=true)
 |0,_,_ => .inl rfl|m+1,i,b=>by
  rw[cb];split
  ·rename_i h;simp only[qA]at h;rcases qrl s m (i+1) i with e|⟨h1,h2,h3⟩
   ·rw[e];exact .inr ⟨wF _,oA,h.1⟩
   ·exact .inr ⟨oA,oA,h3⟩
  ·rcases qrl s m (i+1) b with e|⟨h1,h2,h3⟩
   ·exact .inl e
   ·exact .inr ⟨oA,oA,h3⟩
def q5d(s:List UInt8)(i:Nat)(h:i<s.length):s.getD i 0=s[i]:=by simp[List.getD_eq_getElem?_getD,h]
def zji(fu n:Nat):∀(s:List UInt8)(m i b:Nat),i+m=s.length->1<=i->m<n->s.length<1000000000->qa5 fu n s (b:Int) (i:Int)=some ((cb s m i b:Nat):Int):=by
 induction n with
 |zero=>intro s m i b _ _ h;omega|succ n ih=>
  intro s m i b hi h1 hm hb;rw[qa5,ql7]
  cases m with
  |zero=>rw[be];rfl|succ m=>
   have hlt:i<s.length:=oA
   have hlt':i-1<s.length:=oA
   rw[am,qii _ _ hlt,qB,qg7,qB,cb]
   unfold yz;rw[q5d _ _ hlt,q5d _ _ hlt'];unfold qe7;cases bl s[i]
   ·rw[l7,bh,dd _]
    exact ih s m (i+1) b oA oA oA hb
   ·rw[di,show af ((i:Int)-1)=((i-1:Nat):Int) by rw[dr];omega,qii _ _ hlt',qB,qg7,qB]
    cases bl s[i-1]
    ·rw[bi (by rfl),dd _,dh,dh]
     by_cases q1:0<b
     ·rw[qX,decide_eq_true q1]
      by_cases q2:78<i
      ·rw[qX,decide_eq_true q2]
       simp only[Bool.and_self,Bool.not_true,Bool.and_false,wJ,if_false];rw[q3o s m (i+1) b q1 oA]
      ·rw[qW oA,decide_eq_false q2]
       exact ih s m (i+1) i oA oA oA hb
     ·rw[qW oA,decide_eq_false q1]
      exact ih s m (i+1) i oA oA oA hb
    ·rw[bh,dd _]
     exact ih s m (i+1) b oA oA oA hb
def fa(s:List UInt8)(k:Nat):Nat:=cb s (s.length-k) k 0
def zjh(fu:Nat)(s:List UInt8)(k:Nat)(h:s.length<fu)(hb:s.length<1000000000)(hk:k<=s.length)(h0:1<=s.length):qe6 fu s (k:Int)=some ((fa s (max k 1):Nat):Int):=by
 unfold qe6 fa;have e:(if(1:Int)>(k:Int) then(1:Int) else(k:Int))=((max k 1:Nat):Int):=by
  split
  ·rename_i h;have:k=0:=oA
   subst this;rfl
  ·rename_i h;rw[Nat.max_eq_left oA]
 rw[e];exact zji fu fu s (s.length-max k 1) (max k 1) 0 oA oA oA hb
def mh:Nat->List UInt8->Nat->List (List UInt8)|0,s,_=>[s]|n+1,s,k=>if 78<s.length then(if fa s k=0 then[s] else s.take (fa s k)::mh n (s.drop (fa s k)) 1) else[s]
def q29(s:List UInt8)(k:Nat)(_h1:1<=k)(h:fa s k≠0):k<=fa s k/\fa s k<s.length/\yz s (fa s k)=true:=by
 unfold fa at *;rcases qrl s (s.length-k) k 0 with e|⟨h2,h3,h4⟩
 ·exact absurd e h
 ·exact⟨h2,oA,h4⟩
def qip:Nat->List (List UInt8)->Option Nat|_,[]=>none|i,l::ls=>if 998<l.length then some i else qip (i+1) ls
def qc9(ls:List (List UInt8)):(Int×Int)×List (List UInt8):=match qip 0 ls with|some i=>((1,(i:Int)),[])|none=>((0,0),ls)
def zfq(fu n:Nat)(m16:Int×Int):∀(ab aa:List (List UInt8)),aa.length<n->ab.length+aa.length<1000000000 ->
  qa3 fu n ((ab.length+aa.length:Nat):Int) (ab.length:Int) m16 (ab++aa)=some (match qip ab.length aa with|some i=>((1,(i:Int)),[])|none=>((0,0),ab++aa)):=by
 induction n with
 |zero=>intro ab aa h;omega|succ n ih=>
  intro ab aa h hb;rw[qa3,ql2]
  cases aa with
  |nil=>rw[be];rfl|cons c aa=>
   simp only[qL]at h hb ⊢;rw[am,q76,ej,qB,dh,qip]
   by_cases hc:998<c.length
   ·rw[qX,qX hc];rfl
   ·rw[qW oA,qW hc,dd _]
    have:=ih (ab++[c]) aa oA oD
    simp only[qS,wM,qM,qL,qZ]at this;rw[show ab.length+(0+1)+aa.length=ab.length+(aa.length+1) by omega]at this
    exact this
def q48(fu:Nat)(m16:Int×Int)(s:List UInt8)(out:List (List UInt8))(h:out.length+1<fu:=by omega)(hb:out.length<900000000:=by omega):qa2 fu s m16 out=some (qc9 (out++[s])):=by
 unfold qa2;rw[am (by simp[aq];omega)]
 have:=zfq fu fu m16 [] (out++[s]) (by simpa using h) oD
 simp only[List.nil_append,qZ,wO]at this;exact this
def zg1(fu n:Nat)(m16:Int×Int):∀(m:Nat)(s:List UInt8)(k k':Nat)(out:List (List UInt8)),s.length<=m->s.length<n->max k 1=k'->(78<s.length->k<=s.length)->s.length+out.length+1<fu->s.length+out.length<500000000 ->
  qa1 fu n s (k:Int) m16 out=some (qc9 (out++mh m s k')):=by
 induction n with
 |zero=>intro m s k k' out _ h;omega|succ n ih=>
  intro m s k k' out hm h hk hk2 hf hb;rw[qa1,ql1,dh];by_cases hl:78<s.length
  ·obtain⟨m,rfl⟩:∃j,m=j+1:=⟨m-1,oA⟩
   rw[qX,zjh fu s k oA oA (hk2 hl) oA,hk,qB,nr,mh,qX hl]
   by_cases h0:fa s k'=0
   ·rw[qX,qX h0]
    exact q48 fu m16 s out
   ·obtain⟨h1,h2,_⟩:=q29 s k' oA h0
    rw[qW oA,qW h0,am,am (by simp[aq];omega),am]
    have:=ih m (s.drop (fa s k')) 0 1 (out++[s.take (fa s k')]) (by rw[List.length_drop];omega) (by rw[List.length_drop];omega) rfl (by intro;omega) (by rw[List.length_drop,qM,wD];omega) (by rw[List.length_drop,qM,wD];omega)
    simpa using this
  ·rw[qW oA]
   have e:mh m s k'=[s]:=by cases m with|zero=>rfl|succ m=>rw[mh,qW hl]
   rw[e];exact q48 fu m16 s out
def fg(n v:List UInt8):List UInt8:=n++[58,32]++v
def vb(n v:List UInt8):List (List UInt8):=mh (fg n v).length (fg n v) (n.length+2)
def da(n v:List UInt8):(Int×Int)×List (List UInt8):=if pt n v=0 then qc9 (vb n v) else((pt n v,-1),[])
def zg0{s:List UInt8}(h:sg s=true):s.length<=60:=by
 unfold sg at h;simp only[qA,decide_eq_true_eq]at h;exact h.1.2
def qhz{n v:List UInt8}(h:pt n v=0):sg n=true/\v.length<=4000/\vd v=true:=by
 unfold pt at h;split at h
 ·rename_i h1;split at h
  ·exact absurd h oE
  ·rename_i h2;split at h
   ·rename_i h3;exact⟨h1,oA,h3⟩
   ·exact absurd h oE
 ·exact absurd h oE
def qsq(fu:Nat)(n v:List UInt8)(hfu:10000<=fu:=by omega)(hv:v.length<fu:=by omega)(hvb:v.length<1000000000:=by omega):qr fu n v=some (da n v):=by
 unfold qr da;rw[q43 fu n,qB]
 by_cases h0:pt n v=0
 ·obtain⟨h1,h2,h3⟩:=qhz h0;have hn:=zg0 h1;rw[qX h0,h1,di,be,q5c fu v oA hv hvb,qB,h3,di,am (by simp[bf];omega),am (by simp[bf];omega)]
  have:=zg1 fu fu (0,0) (fg n v).length (fg n v) (n.length+2) (n.length+2) [] (wF _) (by simp[fg]<;>omega) oA (by intro;simp[fg]<;>omega) (by simp[fg]<;>omega) (by simp[fg]<;>omega)
  rw[show af ((n.length:Int)+2)=((n.length+2:Nat):Int) by rw[dr];omega]
  exact this
 ·rw[qW h0];unfold pt at h0 ⊢;cases hn:sg n
  ·rfl
  ·rw[hn]at h0;simp only[if_true]at h0 ⊢;rw[di,dh];by_cases hl:4000<v.length
   ·rw[qX,qX hl];rfl
   ·rw[qW hl]at h0;rw[qW oA,qW hl,q5c fu v oA hv hvb,qB]
    cases hv3:vd v
    ·rfl
    ·rw[hv3]at h0;exact absurd rfl h0
def pts(s:List UInt8)(i m:Nat):List Nat:=(List.range' i m).filter (yz s)
def zlt(fu n:Nat):∀(s:List UInt8),s.length<n->s.length<1000000000->qbq fu n s (iv [32,9])=some (mp s,iv [32,9]):=by
 induction n with
 |zero=>intro s h;omega|succ n ih=>
  intro s h hb;rw[qbq,qo8]
  cases s with
  |nil=>rw[be];rfl|cons c s=>
   simp only[qL]at h hb;rw[am,show ak (c::s) (0:Int)=some c from rfl,qB,qrv ac3,qB,q24,vj]
   cases bl c
   ·rfl
   ·rw[di,am oH]
    exact ih s oA oA
def zko(fu:Nat)(s:List UInt8)(hfu:100<=fu)(h:s.length<fu)(hb:s.length<1000000000):xi fu s [32,9]=some (oh s):=by
 unfold xi
 cases s with
 |nil=>rfl|cons c s=>
  rw[bi (by rfl)]
  unfold qfx;rw[bi (by rfl)]
  unfold qox;rw[bi oE]
  unfold qfy;rw[bi (by rfl)]
  unfold qoy;obtain⟨n,rfl⟩:∃n,fu=n+100:=⟨fu-100,oA⟩
  rw[ac3.set,qB];simp only[ac3.len];rw[bh (by rw[List.length_replicate];rfl),bh]
  unfold qf3 qf2;have:=qt7 (c::s);rw[zls _ _ _ h hb,qB,zlt _ _ (jd (c::s)) oA oA,qB,quq]
abbrev ng:Type:=List UInt8×List UInt8
def SmF(l:List ng):Prop:=l.length<=10000000/\∀x∈l,x.1.length<=10000000/\x.2.length<=10000000
def SmF.tail{x:ng}{l:List ng}(h:SmF (x::l)):SmF l:=⟨by have:=h.1;simp only[qL]at this;omega,fun y hy=>h.2 y (qE _ hy)⟩
def ff:Nat->List ng->Int×Int|_,[]=>(0,0)|i,x::l=>if(da x.1 x.2).1.1≠0 then((da x.1 x.2).1.1,(i:Int)) else ff (i+1) l
def qh1(l:List ng):Int×Int:=if 60<l.length then(2,-1) else ff 0 l
def zhb(fu n:Nat)(hfu:90000000<=fu)(m16:Int×Int):∀(ab aa:List ng),aa.length<n->ab.length+aa.length<100000000->SmF aa ->
  qba fu n (ab++aa) ((ab.length+aa.length:Nat):Int) (ab.length:Int) m16=some (ff ab.length aa):=by
 induction n with
 |zero=>intro ab aa h;omega|succ n ih=>
  intro ab aa h hb hs;rw[qba,qmk]
  cases aa with
  |nil=>rw[be];rfl|cons x aa=>
   simp only[qL]at h hb ⊢;obtain⟨q1,q2⟩:=hs.2 x qH;rw[am,ej,qB,qsq fu x.1 x.2,qB,zgx,qB,qcj,ff]
   split
   ·rfl
   ·rw[dd _]
    have:=ih (ab++[x]) aa oA oD hs.tail
    simp only[qS,wM,qM,qL,qZ]at this;rw[show ab.length+(0+1)+aa.length=ab.length+(aa.length+1) by omega]at this
    exact this
def zha(fu:Nat)(hfu:90000000<=fu)(l:List ng)(hs:SmF l):w8 fu l=some (qh1 l):=by
 unfold w8 qh1;rw[dh];split
 ·rw[qX];rfl
 ·rw[qW oA]
  have:=zhb fu fu hfu (0,0) [] l (by have:=hs.1;omega) (by have:=hs.1;simp;omega) hs
  simp only[List.nil_append,qZ,wO]at this;exact this
def sq:Bool->Bs->Bs|_,[]=>[]|p,c::r=>if bl c then(if p then sq true r else 32::sq true r) else c::sq false r
def th(l:Bs):Bs:=if l.getLast? = some 32 then l.dropLast else l
def sqz(s:Bs):Bs:=th (sq false s)
def qjj:∀(p:Bool)(s:Bs),(sq p s).length<=s.length
 |_,[]=>wF _|p,c::r=>by
  unfold sq;split
  ·split
   ·have:=qjj true r;simp only[qL];omega
   ·have:=qjj true r;simp only[qL];omega
  ·have:=qjj false r;simp only[qL];omega
def zlw(l:Bs):(th l).length<=l.length:=by unfold th;split<;>simp
def q80(s:Bs):(sqz s).length<=s.length:=Nat.le_trans (zlw _) (qjj _ _)
def zlx(t:Bs)(c:UInt8):th (t++[c])=if c=32 then t else t++[c]:=by
 unfold th;simp
def q53(l:Bs):l=[]\/∃t c,l=t++[c]:=by
 rcases List.eq_nil_or_concat l with h|⟨t,c,h⟩
 ·exact .inl h
 ·exact .inr ⟨t,c,by rw[h,List.concat_eq_append]⟩
def ze3{c:UInt8}(h:bl c=false):c≠32:=by rintro rfl;cases h
def ze4(c:UInt8):gl c=some (bl c):=by unfold gl bl;cases c==32<;>rfl
def zlu(m:Bs)(hb:m.length<1000000000):qfw m [32]=some (th m):=by
 unfold qfw qmm xa;rcases q53 m with rfl|⟨t,c,rfl⟩
 ·rfl
 ·simp only[qM,wD]at hb;rw[zlx];have e:af (((t++[c]).length:Int)-(([32]:Bs).length:Int))=(t.length:Int):=by
   rw[dr (by simp<;>omega) (by simp<;>omega)];simp
  have g1:(1:Int)<=(t.length:Int)+1:=oA
  have g2:(t.length:Int)<=(t.length:Int)+1:=oA
  rw[e];by_cases hc:c=32
  ·subst hc;simp[g1,g2]
  ·have hcb:(c==32)=false:=beq_false_of_ne hc;simp[hc,g1,g2,hcb]
def zk2(fu n:Nat):∀(ab aa out:Bs)(p:Bool),aa.length<n->ab.length+aa.length<100000000->out.length+aa.length<1000000000->(p=true↔out.getLast? = some 32) ->
  ud fu n (ab++aa) ((ab.length+aa.length:Nat):Int) (ab.length:Int) out=some (th (out++sq p aa)):=by
 induction n with
 |zero=>intro _ _ _ _ h;omega|succ n ih=>
  intro ab aa out p h hb ho hp
  cases aa with
  |nil=>
   simp only[ud,qez];rw[be,zlu out (by simp at ho;omega)]
   simp[sq]
  |cons c r=>
   simp only[qL]at h hb ho;have nx:af ((ab.length:Int)+1)=((ab.length+1:Nat):Int):=dd _
   have ih':=fun(o:Bs)(q:Bool)(h1:o.length<=out.length+1)(h2:q=true↔o.getLast? = some 32)=>ih (ab++[c]) r o q oA oD oA h2
   simp only[qM,wD,qS,wM]at ih';have e:((ab.length+(c::r).length:Nat):Int)=((ab.length+1+r.length:Nat):Int):=by simp;omega
   have rm:∀d:UInt8,(out++[d]).length<=aq:=fun d=>by simp[aq];omega
   simp only[ud,qez];rw[e,am,ej,qB,ze4,qB,nx]
   unfold sq;cases hbl:bl c
   ·simp only[qF,wJ,if_false];rw[am (rm c),ih' (out++[c]) false oC (by simp[ze3 hbl])]
    simp
   ·simp only[qT,if_true];have app:ud fu n (ab++c::r) ((ab.length+1+r.length:Nat):Int) ((ab.length+1:Nat):Int) (out++[32])=some (th (out++32::sq true r)):=by
     rw[ih' (out++[32]) true oC oC];simp
    rcases q53 out with rfl|⟨t,d,rfl⟩
    ·have hp0:p=false:=by cases p;rfl;simp at hp
     subst hp0;rw[be,am (rm 32),app];simp
    ·have w1:af (((t++[d]).length:Int)-1)=(t.length:Int):=by
      rw[qin];exact qjw _ (by simp at ho;omega)
     rw[am (by simp<;>omega),w1,am,qc2,qB,qrc]
     have hd:(p=true)↔d=32:=by rw[hp];simp
     by_cases hd32:d=32
     ·have hpt:p=true:=hd.2 hd32;rw[qX hd32,ih' (t++[d]) true oC (by simp[hd32]),qX hpt]
     ·have hpf:¬p=true:=fun q=>hd32 (hd.1 q)
      rw[qW hd32,am (rm 32),app,qW hpf]
def zk1(fu:Nat)(s:Bs)(h:s.length<fu:=by omega)(hb:s.length<100000000:=by omega):qau fu s=some (sqz s):=by
 have:=zk2 fu fu [] s [] false h (by simpa using hb) oD oC
 simpa [qau,sqz] using this

abbrev fq:Type:=Bs×Bs
def d9(x:fq):Bs:=x.1.map lo
abbrev iq:Type:=Bs->Nat
def et(c:iq)(k:Bs):iq:=fun d=>if d=k then c d-1 else c d
def eu(c:iq)(k:Bs):iq:=fun d=>if d=k then c d+1 else c d
def q3q(c:iq)(k:Bs):et (eu c k) k=c:=by
 funext d;unfold et eu;by_cases h:d=k<;>simp[h]
def zfr(c:iq)(k:Bs)(h0:0<c k):eu (et c k) k=c:=by
 funext d;unfold et eu;by_cases h:d=k
 ·subst h;simp;omega
 ·simp[h]
def zfl(c:iq)(k j:Bs)(h:k≠j):et (eu c k) j=eu (et c j) k:=by
 funext d;unfold et eu;have h':¬j=k:=fun e=>h e.symm
 by_cases h1:d=j
 ·subst h1;simp[h']
 ·by_cases h2:d=k
  ·subst h2;simp[h]
  ·simp[h1,h2]
def ew:iq->List fq->List Bool|_,[]=>[]|c,x::L=>decide (0<c (d9 x))::ew (et c (d9 x)) L
def q42:∀(L:List fq)(c:iq),(ew c L).length=L.length|[],_=>rfl|_::L,c=>by simp[ew,q42 L]
def gn(key:Bs):Nat->List fq->Option fq
 |_,[]=>none| k,x::L=>if d9 x=key then(match k with
   |0=>some x| k+1=>gn key k L) else gn key k L
def pl(ns:List Bs):iq:=fun d=>(ns.filter fun n=>decide (n.map lo=d)).length
def q3p(ns:List Bs)(n:Bs):pl (ns++[n])=eu (pl ns) (n.map lo):=by
 funext d;unfold pl eu;rw[List.filter_append,qM];by_cases h:d=n.map lo
 ·subst h;simp
 ·rw[qW h];simp[Ne.symm h]

def qhc(x:ng):Bs:=x.1.map lo++[58]++sqz x.2++[13,10]
def q3s(x:ng)(h:x.1.length<=1048576/\x.2.length<=1048576):(qhc x).length<=2097160:=by
 have:=q80 x.2;simp only[qhc,qM,wC,qL,qZ];omega
def zfo(fu:Nat)(x:ng)(hfu:90000000<=fu)(h:x.1.length<=1048576/\x.2.length<=1048576):qat fu x=some (qhc x):=by
 have h2:=q80 x.2;unfold qat;rw[qir fu x.1 oA oL,qB,am (by simp only[bf,wC,qL,qZ];omega),zk1 fu x.2,qB,
  am (by simp only[bf,qM,wC,qL,qZ];omega),am (by simp only[bf,qM,wC,qL,qZ];omega)]
 rfl
def y9:Option fq->Bs|some x=>qhc x|none=>[]
def q32{x:fq}{L:List fq}{key:Bs}(h:d9 x=key):∀k,gn key k (x::L)=match k with|0=>some x|k+1=>gn key k L
 |0=>by unfold gn;rw[qX h]|k+1=>by (conv=>lhs;unfold gn);rw[qX h]
def zfz{x:fq}{L:List fq}{key:Bs}(h:¬d9 x=key)(k:Nat):gn key k (x::L)=gn key k L:=by cases k<;>(conv=>lhs;unfold gn)<;>rw[qW h]
def rp(L:List fq):iq->List Bs->Bs|_,[]=>[]|c,n::r=>y9 (gn (n.map lo) (c (n.map lo)) L)++rp L (eu c (n.map lo)) r
def zfm(c:iq)(k:Bs)(h:c k=0:=by omega):et c k=c:=by
 funext d;unfold et;by_cases e:d=k
 ·subst e;simp[h]
 ·simp[e]
def qrx:∀(L:List fq)(key:Bs)(k:Nat)(x:fq),gn key k L=some x->x∈L
 |[],_,_,_,h=>by cases h
 |y::L,key,k,x,h=>by
  unfold gn at h;split at h
  ·cases k with|zero=>simp only[qI]at h;subst h;exact qH|succ k=>exact qE _ (qrx L key k x h)
  ·exact qE _ (qrx L key k x h)
def q65(L:List fq)(hL:∀x∈L,x.1.length<=1048576/\x.2.length<=1048576)(key:Bs)(k:Nat):(y9 (gn key k L)).length<=2097160:=by
 cases h:gn key k L with|none=>simp[y9]|some x=>exact q3s x (hL x (qrx L key k x h))
def q66(fu:Nat)(hfu:90000000<=fu)(r0:List (Bs×Bs)->List Bs->Int->Int->(Int×Int)->List Bool->Bs->Option ((Int×Int)×Bs))(name:Bs)(hnm:name.length<=1048576)(names:List Bs)(ln ix:Int)(m32:Int×Int)(out:Bs)(ho:out.length<=4000000000) :
  ∀(R:List fq)(n:Nat)(c:iq)(B:List fq)(fB:List Bool),R.length<n->R.length<1000000000->(∀x∈R,x.1.length<=1048576/\x.2.length<=1048576) ->
  uc fu r0 n (R.reverse++B) name ((R.length:Int)-1) names ln ix m32 ((ew c R).reverse++fB) out =
   r0 (R.reverse++B) names ln (af (ix+1)) m32 ((ew (eu c (name.map lo)) R).reverse++fB) (out++y9 (gn (name.map lo) (c (name.map lo)) R))
 |[],0,_,_,_,h,_,_=>by simp at h|[],n+1,c,B,fB,_,_,_=>by
  simp only[uc,qew];rw[be]
  simp[ew,gn,y9]
 |x::R,0,_,_,_,h,_,_=>by simp at h|x::R,n+1,c,B,fB,h,hb,hs=>by
  simp only[qL]at h hb;have ih:=q66 fu hfu r0 name hnm names ln ix m32 out ho R n;have hx:=hs x qH;have e1:((x::R).length:Int)-1=(R.reverse.length:Int):=oC
  have e2:(x::R).reverse++B=R.reverse++x::B:=oC
  have e3:∀(b:Bool)(fl:List Bool),(b::fl).reverse++fB=fl.reverse++b::fB:=fun b fl=>oC
  have e4:∀c',(ew c' R).reverse.length=R.reverse.length:=fun c'=>by simp[q42]
  have w1:af ((R.reverse.length:Int)-1)=(R.length:Int)-1:=by rw[List.length_reverse,dr]
  simp only[uc,qew];rw[e1,e2,am]
  have flx:ew c (x::R)=decide (0<c (d9 x))::ew (et c (d9 x)) R:=rfl;rw[flx,e3,am (by rw[← e4 (et c (d9 x))];simp),← e4 (et c (d9 x)),qc2,qB]
  rw[e4,ej,qB,q3a fu x.1 name oA oA oL oL,qB]
  unfold qex;simp only[w1];have keep:∀q:(d9 x=name.map lo->0<c (name.map lo)),uc fu r0 n (R.reverse++x::B) name ((R.length:Int)-1) names ln ix m32 ((ew (et c (d9 x)) R).reverse++decide (0<c (d9 x))::fB) out =
    r0 (R.reverse++x::B) names ln (af (ix+1)) m32 ((ew (eu c (name.map lo)) (x::R)).reverse++fB) (out++y9 (gn (name.map lo) (c (name.map lo)) (x::R))):=fun q=>by
   rw[ih (et c (d9 x)) (x::B) (decide (0<c (d9 x))::fB) oA oA (fun y hy=>hs y (qE _ hy))]
   by_cases hk:d9 x=name.map lo
   ·have h0:=q hk;rw[hk,zfr c _ h0];have f2:ew (eu c (name.map lo)) (x::R)=true::ew c R:=by
     rw[ew,hk,q3q];simp[eu]
    rw[f2,e3,q32 hk];have:decide (0<c (name.map lo))=true:=decide_eq_true h0;rw[this];have hd:et c (name.map lo) (name.map lo)=c (name.map lo)-1:=by simp[et]
    rw[hd];obtain⟨k,hk2⟩:∃k,c (name.map lo)=k+1:=⟨c (name.map lo)-1,oA⟩
    rw[hk2];rfl
   ·have f2:ew (eu c (name.map lo)) (x::R)=decide (0<c (d9 x))::ew (eu (et c (d9 x)) (name.map lo)) R:=by
     rw[ew,zfl _ _ _ (fun e=>hk e.symm)]
     have:eu c (name.map lo) (d9 x)=c (d9 x):=by simp[eu,hk]
     rw[this]
    rw[f2,e3,zfz hk];have hd:et c (d9 x) (name.map lo)=c (name.map lo):=by simp[et,Ne.symm hk]
    rw[hd]
  by_cases hu:0<c (d9 x)
  ·rw[decide_eq_true hu,di,qF];have:=keep (fun hk=>by rw[← hk];exact hu)
   rw[decide_eq_true hu]at this;exact this
  ·rw[decide_eq_false hu,l7];by_cases hk:d9 x=name.map lo
   ·have:(x.1.map lo==name.map lo)=true:=beq_iff_eq.2 hk;rw[this,qT];have hc0:c (name.map lo)=0:=by rw[← hk];omega
    have hl:=q3s x hx;have f1:et c (d9 x)=c:=zfm c _
    rw[f1,am (by rw[← e4 c];simp),← e4 c,qc2,qB,e4,ej,qB,zfo fu x hfu hx,qB,am (by simp only[qM,aq];omega),← e4 c,qud]
    have f2:ew (eu c (name.map lo)) (x::R)=true::ew c R:=by
     rw[ew,hk,q3q];simp[eu]
    rw[f2,e3,q32 hk,hc0];rfl
   ·have:(x.1.map lo==name.map lo)=false:=by rw[beq_eq_false_iff_ne];exact hk
    rw[this,qF];have:=keep (fun e=>absurd e hk)
    rw[decide_eq_false hu]at this;exact this
def q3t(L:List fq)(hL:∀x∈L,x.1.length<=1048576/\x.2.length<=1048576):∀(ns:List Bs)(c:iq),(rp L c ns).length<=2097160*ns.length
 |[],_=>by simp[rp]|n::r,c=>by
  have h1:=q65 L hL (n.map lo) (c (n.map lo));have h2:=q3t L hL r (eu c (n.map lo));simp only[rp,qM,qL];omega
def q4s(fu:Nat)(hfu:90000000<=fu)(l:List fq)(hl:l.length<=1048576)(hs:∀x∈l,x.1.length<=1048576/\x.2.length<=1048576) :
  ∀(n:Nat)(dn td:List Bs)(out:Bs)(m32:Int×Int),td.length<n->dn.length+td.length<=300->(∀x∈td,x.length<=1048576)->out.length<=2097160*dn.length ->
  ub fu n l (dn++td) ((dn.length+td.length:Nat):Int) (dn.length:Int) m32 (ew (pl dn) l.reverse).reverse out=some ((0,0),out++rp l.reverse (pl dn) td)
 |0,_,_,_,_,h,_,_,_=>by omega|n+1,dn,[],out,m32,_,_,_,_=>by
  simp only[ub,qev];rw[be]
  simp[rp,bq]
 |n+1,dn,nm::td,out,m32,h,hb,hn,ho=>by
  simp only[qL]at h hb;have hm:=hn nm qH;have hs':∀x∈l.reverse,x.1.length<=1048576/\x.2.length<=1048576:=fun x hx=>hs x (List.mem_reverse.1 hx)
  simp only[ub,qev];have e:((dn.length+(nm::td).length:Nat):Int)=(((dn++[nm]).length+td.length:Nat):Int):=by simp;omega
  rw[am oH,ej,qB]
  have w1:af ((l.length:Int)-1)=(l.reverse.length:Int)-1:=by rw[List.length_reverse,dr]
  have key:=q66 fu hfu (ub fu n) nm hm (dn++nm::td) ((dn.length+(nm::td).length:Nat):Int) (dn.length:Int) m32 out oA l.reverse fu (pl dn) [] [] oD oD hs'
  simp only[List.append_nil,List.reverse_reverse]at key;rw[w1,key,dd _,← q3p,e,show dn.length+1=(dn++[nm]).length by simp,show dn++nm::td=(dn++[nm])++td by simp]
  have hp:=q65 l.reverse hs' (nm.map lo) (pl dn (nm.map lo));rw[q4s fu hfu l hl hs n (dn++[nm]) td _ m32 oA oD (fun x hx=>hn x (qE _ hx)) oG]
  rw[rp,q3p,qS]
abbrev bj:Bs:=[83,117,98,106,101,99,116]
def onL(l:Bs):Prop:=∃c r,l=c::r/\bl c=true
def q44:∀(m:Nat)(s:Bs)(k:Nat),(mh m s k).flatten=s
 |0,s,k=>by simp[mh]|m+1,s,k=>by
  rw[mh];split
  ·split
   ·simp
   ·rw[List.flatten_cons,q44 m,List.take_append_drop]
  ·simp
def q45:∀(m:Nat)(s:Bs)(k:Nat),1<=k->∃a L,mh m s k=a::L/\(onL s->onL a)/\∀l∈L,onL l
 |0,s,k,_=>⟨s,[],rfl,id,fun l hl=>by cases hl⟩
 |m+1,s,k,hk=>by
  rw[mh];split
  ·rename_i h78;split
   ·exact⟨s,[],rfl,id,fun l hl=>by cases hl⟩
   ·rename_i hb;obtain⟨b1,b2,b3⟩:=q29 s k hk hb;obtain⟨a,L,h1,h2,h3⟩:=q45 m (s.drop (fa s k)) 1 (wF _);have hon:onL (s.drop (fa s k)):=by
     unfold yz at b3;simp only[qA]at b3;refine⟨s[fa s k],s.drop (fa s k+1),List.drop_eq_getElem_cons b2,?_⟩;have:=b3.1;simpa [List.getD,b2] using this
    refine⟨s.take (fa s k),a::L,by rw[h1],?_,?_⟩
    ·rintro⟨c,r,rfl,hc⟩
     obtain⟨j,hj⟩:∃j,fa (c::r) k=j+1:=⟨fa (c::r) k-1,oA⟩
     rw[hj];exact⟨c,r.take j,rfl,hc⟩
    ·intro l hl;rcases List.mem_cons.1 hl with rfl|hl
     ·exact h2 hon
     ·exact h3 l hl
  ·exact⟨s,[],rfl,id,fun l hl=>by cases hl⟩
def zgr(fu:Nat)(hfu:100<=fu)(s:Bs)(h:s.length<fu)(hb:s.length<1000000000)(hs:s.any ([13,10,0]:List UInt8).contains=false):wz fu s=some false:=by
 unfold wz;rw[q3z ac1 fu s hfu h hb,qB,hs]
def ze5(c:UInt8)(h:bl c=true):gl c=some true:=by
 have key:∀c:UInt8,(!bl c||p9 (gl c) true)=true:=yg (fun c=>(!bl c||p9 (gl c) true)=true) (by decide +kernel)
 have:=key c;rw[h]at this;exact q61 (by simpa using this)
def qjr(fu:Nat)(t:Bs)(z:Int×Int):Option uo:=(ug t ([58]:Bs)).bind fun x7=>bif !x7.2.2 then wy fu x7.1 x7.2.1 true z else(w3 fu x7.1).bind fun x8=>wy fu x7.1 x7.2.1 (!x8) z
def zl1(fu n:Nat)(hfu:90000000<=fu)(z:Int×Int)(s0:List Bs)(hs0:s0.length<=1000)(hj:(Lib.join s0 []).length<=100000):∀(ab aa:List Bs)(sz:Nat),aa.length<n->ab.length+aa.length<=1000->(∀l∈aa,l.length<=10000/\l.any ([13,10,0]:List UInt8).contains=false)->(∀l∈aa.drop (1-ab.length),onL l)->sz+aa.flatten.length<=8000 ->
  ww fu n s0 (sz:Int) (ab++aa) ((ab.length+aa.length:Nat):Int) (ab.length:Int) z=qjr fu (Lib.join s0 []) z:=by
 induction n with
 |zero=>intro ab aa sz h;omega|succ n ih=>
  intro ab aa sz h hb hl hon hsz;rw[ww,ql3]
  cases aa with
  |nil=>
   simp only[List.flatten_nil,qZ]at hsz;rw[be,be]
   unfold o6 qjr;rw[am ⟨oA,oA⟩,qB]
  |cons y aa=>
   obtain⟨y1,y2⟩:=hl y qH;simp only[qL]at h hb;rw[List.flatten_cons,qM]at hsz;have ih:=ih (ab++[y]) aa (sz+y.length) oA oD (fun l q=>hl l (qE _ q)) (fun l q=>by
    rw[qM,wD,show 1-(ab.length+1)=0 by omega,List.drop_zero]at q
    by_cases hp:ab.length=0
    ·exact hon l (by rw[hp];exact q)
    ·exact hon l (by rw[show 1-ab.length=0 by omega];exact qE _ q)) oA
   simp only[qM,qL,qZ,qS,wM,wO]at ih;have p1:ue fu (ww fu n) s0 (sz:Int) (ab.length:Int) y (ab++y::aa) ((ab.length+(y::aa).length:Nat):Int) (ab.length:Int) false z=qjr fu (Lib.join s0 []) z:=by
    unfold ue ql4 ql6;rw[bi rfl,qd1 _ _,dd _,show ab.length+(y::aa).length=ab.length+1+aa.length by simp only[qL];omega]
    exact ih
   rw[am oH,ej,qB,zgr fu oA y oA oA y2,qB,bi rfl,dh]
   split
   ·rename_i hp;obtain⟨c,r,hy,hc⟩:=hon y (by rw[show 1-ab.length=0 by omega];exact qH)
    rw[bi (by rw[hy];rfl),show ak y (0:Int)=some c by rw[hy];rfl,qB,ze5 c hc,qB]
    exact p1
   ·exact p1
def q5v:∀(w r:Bs),(∀c∈w,c≠58)->Lib.index (w++58::r) [58]=(w.length:Int)
 |[],r,_=>by rw[List.nil_append,Lib.index,qX (by simp[List.isPrefixOf])];rfl|c::w,r,h=>by
  have hc:=h c qH;rw[wK,Lib.index,qW (by simp[List.isPrefixOf];intro q;exact hc q.symm),q5v w r (fun d hd=>h d (qE _ hd)),qW (by rw[beq_iff_eq];omega)]
  simp
def q5x(L:List Bs):Lib.join L []=L.flatten:=by
 unfold Lib.join
 induction L with
 |nil=>rfl|cons a L ih=>cases L with
  |nil=>simp[List.intercalate]|cons b L=>
   rw[List.flatten_cons,← ih];simp[List.intercalate]
def q9i(v:Bs)(h:(da bj v).1.1=0)(h300:(da bj v).2.length<=300:=by omega):qa4 100000000 (da bj v).2=some (bj,(v,(0,0))):=by
 have hfu:90000000<=100000000:=oA
 have hc0:pt bj v=0:=by
  unfold da at h;split at h
  ·assumption
  ·exact h
 obtain⟨_,hv4,hfv⟩:=qhz hc0;have hL:(da bj v).2=vb bj v:=by
  unfold da at h ⊢;rw[qX hc0]at h ⊢;unfold qc9 at h ⊢;split at h
  ·exact absurd (show(1:Int)=0 from h) oE
  ·rfl
 rw[hL]at h300 ⊢;have hflat:(vb bj v).flatten=fg bj v:=q44 _ _ _;obtain⟨a,L,e1,_,e3⟩:=q45 (fg bj v).length (fg bj v) (bj.length+2) oC
 have e1:vb bj v=a::L:=e1;have hany:(fg bj v).any ([13,10,0]:List UInt8).contains=false:=by
  unfold vd at hfv;simp only[qA,Bool.not_eq_true']at hfv;unfold fg;rw[List.any_append,hfv.1];rfl
 have ac:(fg bj v).length=v.length+9:=by unfold fg;simp
 have hmem:∀l∈vb bj v,l.length<=10000/\l.any ([13,10,0]:List UInt8).contains=false:=fun l hl=>by
  obtain⟨s,t,e⟩:=List.append_of_mem hl;have hf:=hflat;rw[e,List.flatten_append,List.flatten_cons]at hf;refine⟨?_,?_⟩
  ·have:=congrArg List.length hf;simp only[qM]at this;omega
  ·rw[← hf,List.any_append,List.any_append]at hany;simp only[Bool.or_eq_false_iff]at hany;exact hany.2.1
 have hgo:=zl1 100000000 100000000 hfu (0,0) (vb bj v) oA (by rw[q5x,hflat];omega) [] (vb bj v) 0 oA oD hmem (fun l hl=>by
  rw[qZ,e1]at hl;exact e3 l hl) (by rw[hflat];omega)
 simp only[List.nil_append,qZ,wO]at hgo;rw[show((0:Nat):Int)=0 from rfl]at hgo
 unfold qa4;rw[be,hgo,q5x,hflat]
 have hfl:fg bj v=bj++58::(32::v):=by unfold fg;simp
 have hcut:ug (fg bj v) [58]=some (bj,(32::v,true)):=by
  unfold ug qml nf;have hix:Lib.index (fg bj v) [58]=7:=by rw[hfl,q5v bj (32::v) oE];rfl
  rw[am,hix,qB,am oE,am,show af ((7:Int)+((List.length ([58]:Bs):Nat):Int))=8 from rfl,am,hfl];rfl
 have htrim:oh (32::v)=v:=by
  have ht:oh v=v:=by
   have:=zlv v;unfold vd at hfv;simp only[qA]at hfv;rw[hfv.2]at this;exact of_decide_eq_true this
  have:mp (32::v)=mp v:=rfl;unfold oh at ht ⊢;rw[this];exact ht
 unfold qjr;rw[hcut,qB,bi (by rfl),q43 _ _,qB,show sg bj=true by decide]
 unfold wy;rw[bi (by rfl)]
 unfold ql5;dsimp only;rw[zko _ _ oA oH oH,qB,htrim,be];rfl
def q3r(v:Bs)(h:(da bj v).1.1=0):∃q,qas 100000000 [(bj,v)] [[115,117,98,106,101,99,116]]=some ((0,0),q)/\q.length<=10000000:=by
 have hfu:90000000<=100000000:=oA
 have hc0:pt bj v=0:=by
  unfold da at h;split at h
  ·assumption
  ·exact h
 obtain⟨_,hv4,hfv⟩:=qhz hc0;have hsm:∀x∈[(bj,v)],x.1.length<=1048576/\x.2.length<=1048576:=fun x hx=>by
  rw[List.mem_singleton]at hx;subst hx;exact⟨oC,oW⟩
 have hval:=zha 100000000 hfu [(bj,v)] ⟨oC,fun x hx=>by have:=hsm x hx;omega⟩
 have hf0:qh1 [(bj,v)]=(0,0):=by
  unfold qh1;rw[qW oC,ff,qW (by simpa using h)];rfl
 have hg:=q4s 100000000 hfu [(bj,v)] oC hsm 100000000 [] [[115,117,98,106,101,99,116]] [] (0,0) oC oC (fun x hx=>by rw[List.mem_singleton]at hx;subst hx;simp) oC
 have hcl:=q3t [(bj,v)].reverse (fun x hx=>hsm x (by simpa using hx)) [[115,117,98,106,101,99,116]] (pl [])
 refine⟨rp [(bj,v)].reverse (pl []) [[115,117,98,106,101,99,116]],?_,by simp only[wD]at hcl;omega⟩
 unfold qas;rw[hval,qB,hf0,show cy ((0:Int),(0:Int))=some false from rfl,qB,bi rfl,be,am]
 rw[List.nil_append]at hg;exact hg
def zfh(q:Bs):qen q q=some true:=by
 unfold qen;simp
def zig:qkr 100000000=some true:=oB
def q46(n v:Bs):(da n v).1.1≠0->(da n v).2=[]:=by
 intro h;unfold da at h ⊢;split at h
 ·rename_i hc;rw[qX hc];unfold qc9 at h ⊢;split at h
  ·rfl
  ·exact absurd rfl h
 ·rename_i hc;rw[qW hc]
def zh1(a b:Bs):wq 100000000 a b=some true:=by
 have hfu:90000000<=100000000:=oA
 obtain⟨x,f,ex,f1,f2⟩:=q4k a;obtain⟨y,g,ey,g1,g2⟩:=q4k b;unfold wq;rw[zig,qB,di,ex,qB,ey,qB];dsimp only;unfold qeo;rw[qcj];by_cases hf:f.1≠0
 ·rw[qX hf,bh rfl,nr,qW hf,f1 hf];rfl
 have hf0:f.1=0:=by simpa using hf
 rw[qW hf];by_cases hg:g.1≠0
 ·rw[bh (show(g.1 != 0)=true by simpa using hg),nr,qX hf0]
 have hg0:g.1=0:=by simpa using hg
 rw[bi (show(g.1 != 0)=false by simpa using hg0)]
 obtain⟨rx,lx⟩:=f2 hf0;obtain⟨ry,ly⟩:=g2 hg0;have fx:=qsq 100000000 bj x
 have fy:=qsq 100000000 bj y
 unfold qkp;rw[fx,qB,fy,qB];have bad:(da bj x).1.1=0\/(da bj x).2=[]:=by
  by_cases q:(da bj x).1.1=0
  ·exact .inl q
  ·exact .inr (q46 _ _ q)
 have p2t:qo 100000000 a b true (da bj x).2 (da bj x).1 (da bj y).2=some true:=by
  unfold qo;rw[bh rfl,nr];by_cases q:(da bj x).1.1=0
  ·rw[qX q]
  ·rw[qW q,q46 _ _ q];rfl
 rw[qcj];by_cases h1:(da bj x).1.1≠0
 ·rw[qX h1,p2t]
 rw[qW h1,qcj];by_cases h2:(da bj y).1.1≠0
 ·rw[qX h2,p2t]
 rw[qW h2];by_cases h3:(300:Int)<((da bj x).2.length:Int)
 ·rw[am h3,p2t]
 rw[be h3];by_cases h4:(300:Int)<((da bj y).2.length:Int)
 ·rw[decide_eq_true h4,p2t]
 rw[decide_eq_false h4];have h1':(da bj x).1.1=0:=by simpa using h1
 have h2':(da bj y).1.1=0:=by simpa using h2
 have u1:=q9i x h1'
 have u2:=q9i y h2'
 have lenx:∀v,(da bj v).1.1=0->v.length<=4000:=fun v h=>by
  have hc0:pt bj v=0:=by
   unfold da at h;split at h
   ·assumption
   ·exact h
  exact(qhz hc0).2.1
 have d1:=rx (lenx x h1');have d2:=ry (lenx y h2');obtain⟨q1,c1,_⟩:=q3r x h1';obtain⟨q2,c2,_⟩:=q3r y h2';unfold qo;rw[bi rfl];unfold qkq;rw[u1,qB,u2,qB];dsimp only;rw[d1,qB,d2,qB,c1,qB,c2,qB];dsimp only;rw[bh,bh,bh,bh,bh,bh,bh,bh]
 by_cases hab:a=b
 ·subst hab;rw[ex]at ey;have e:x=y:=by injection ey with e;injection e
  subst e;rw[c1]at c2;have e2:q1=q2:=by injection c2 with e;injection e
  subst e2;rw[bi oC,zfh];rfl
 ·rw[bh (by simpa using hab)]
def zh2(x:Bs×Bs×Unit)(_:bks [.str,.str] x<=1048576):wq 100000000 x.1 x.2.1=some true:=zh1 _ _
end Go.Sym
